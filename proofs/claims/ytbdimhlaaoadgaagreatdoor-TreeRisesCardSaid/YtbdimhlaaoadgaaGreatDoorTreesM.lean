/- Part 13 of what Trees leans on: my own lemmas, merged by shake.py. -/
import Derived.Test.YtbdimhlaaoadgaaGreatDoorTreesL
namespace Go.Proofs.YtbdimhlaaoadgaaGreatDoor
open _root_.Go.Proofs.Tryz
set_option maxHeartbeats 3200000
set_option maxRecDepth 100000
open Go.RowKit Go.Shelf Word
variable{M M':List (Nat × Nat)}{k n y:Nat}{H:Type}{v:Value}{W w:World}
structure S39(w0:World)(X:Nat->Prop)(c:HCf)(hb tb r a u n o:Nat)(M:List (Nat×Nat))(w:World):Prop where
 ex:∃K:Nat->Prop,BF w0 K c hb tb r a u n o M w/\∀k,X k->K k/\w0.heap.size<=k/\k≠tb
 tb:1<w0.heap.size
section
variable{w0 w':World}{X X':Nat->Prop}{K:Nat->Prop}{c:HCf}{hb tb r a u o:Nat}{f:FuncId}{args:Array Value}{R:Nat->Prop}
theorem S39.grew(h:S39 w0 X c hb tb r a u n o M w):Gr w0 w:=by
 obtain⟨⟨K,h1,h2⟩,ht⟩:=h;exact h1.grew
theorem S39.own(h:S39 w0 X c hb tb r a u n o M w)(g:Gr w w')(hX:∀k,X' k->X k\/(w.heap.size<=k/\k<w'.heap.size)):S39 w0 X' c hb tb r a u n o M w':=by
 obtain⟨⟨K,h1,h4⟩,ht⟩:=h;have hz:=h1.grew.size;have hlb:=h1.lt;refine⟨⟨_,h1.wr (g.touch (λ_=>False)) (λ_ h=>h.elim) ht,λk hk=>?_⟩,ht⟩;rcases hX k hk with h|h
 ·obtain⟨q1,q2,q3⟩:=h4 k h;exact⟨.inl q1,q2,q3⟩
 ·exact⟨.inr h,by omega,by omega⟩
theorem S39.wr(h:S39 w0 X c hb tb r a u n o M w)(t':AB X w w'):S39 w0 X c hb tb r a u n o M w':=by
 obtain⟨⟨K,h1,h4⟩,ht⟩:=h;exact⟨⟨_,h1.wr t' (λk hk=>⟨(h4 k hk).1,(h4 k hk).2.1,(h4 k hk).2.2⟩) ht,λk hk=>⟨.inl (h4 k hk).1,(h4 k hk).2⟩⟩,ht⟩
def LB(w0:World)(X:Nat->Prop)(c:HCf)(hb tb r a u n o:Nat)(w:World)(v:Value)(M':List (Nat×Nat))(e:Ending)(w':World):Prop:=e=.returned v/\AB (λk=>¬X k) w w'/\S39 w0 X c hb tb r a u n o M' w'
theorem S39.tr(h:S39 w0 X c hb tb r a u n o M w)(hc:∀K,BF w0 K c hb tb r a u n o M w->Calls prog f args w (TrO w0 K c hb tb r a u n o w v M')):Calls prog f args w (LB w0 X c hb tb r a u n o w v M'):=by
 obtain⟨⟨K,h1,h4⟩,ht⟩:=h;refine(hc K h1).mono ?_;rintro e w' ⟨rfl,t',hl⟩;exact⟨rfl,t'.mono (λk _ e hx=>e.2 (h4 k hx).1),⟨K,hl,h4⟩,ht⟩
theorem S39.keys(h:S39 w0 X c hb tb r a u n o M w):(M.map Prod.snd).Nodup:=by
 obtain⟨⟨K,h1,h4⟩,ht⟩:=h;exact h1.keys
theorem S39.bd(h:S39 w0 X c hb tb r a u n o M w):∀p∈M,p.2<18446744073709551616:=by
 obtain⟨⟨K,h1,h4⟩,ht⟩:=h;exact h1.bd
theorem S39.put(h:S39 w0 X c hb tb r a u n o M w)(hk:k<18446744073709551616)(hy:y<18446744073709551616):∃(e:Int) (M':List (Nat×Nat)),QY M k y c.wd e M'/\Calls prog 14 #[pP tb,uU k,.float .f64 y] w (LB w0 X c hb tb r a u n o w (iI e) M'):=by
 obtain⟨⟨K,h1,h4⟩,ht⟩:=h;obtain⟨e,M',hp,hc⟩:=h1.put hk hy;refine⟨e,M',hp,(hc w (Gr.refl _)).mono ?_⟩;rintro e w' ⟨rfl,t',hl⟩;exact⟨rfl,t'.mono (λk _ e hx=>e.2 (h4 k hx).1),⟨K,hl,h4⟩,ht⟩
theorem S39.drop(h:S39 w0 X c hb tb r a u n o M w)(hk:k<18446744073709551616):∃(e:Int) (M':List (Nat×Nat)),O4 M k e M'/\Calls prog 18 #[pP tb,uU k] w (LB w0 X c hb tb r a u n o w (iI e) M'):=by
 obtain⟨⟨K,h1,h4⟩,ht⟩:=h;obtain⟨e,M',hp,hc⟩:=h1.drop hk;refine⟨e,M',hp,(hc w (Gr.refl _)).mono ?_⟩;rintro e w' ⟨rfl,t',hl⟩;exact⟨rfl,t'.mono (λk _ e hx=>e.2 (h4 k hx).1),⟨K,hl,h4⟩,ht⟩
theorem S39.next(h:S39 w0 X c hb tb r a u n o M w)(k:Nat):∃(v f:Nat) (e:Int),MR M k v f e/\Calls prog 16 #[pP tb,uU k] w (LB w0 X c hb tb r a u n o w (.tuple #[uU v,.float .f64 f,iI e]) M):=by
 obtain⟨⟨K,h1,h4⟩,ht⟩:=h;obtain⟨x,f,e,hp,hc⟩:=h1.next k
 refine⟨x,f,e,hp,(hc w (Gr.refl _)).mono ?_⟩;rintro e w' ⟨rfl,t',hl⟩;exact⟨rfl,t'.mono (λk _ e hx=>e.2 (h4 k hx).1),⟨K,hl,h4⟩,ht⟩
theorem S39.len(h:S39 w0 X c hb tb r a u n o M w):Calls prog 21 #[pP tb] w (LB w0 X c hb tb r a u n o w (iI (M.length:Nat)) M):=h.tr λ_ hq=>hq.len
theorem S39.live(h:S39 w0 X c hb tb r a u n o M w):Calls prog 20 #[pP hb] w (LB w0 X c hb tb r a u n o w (.tuple #[iI M.length,iI (5*M.length:Nat)]) M):=h.tr λ_ hq=>hq.live
theorem S39.step(h:S39 w0 X c hb tb r a u n o M w):Calls prog 19 #[pP hb] w λe w'=>∃z:Bool,LB w0 X c hb tb r a u n o w (.bool z) M e w':=by
 obtain⟨⟨K,h1,h4⟩,ht⟩:=h;refine h1.step.mono ?_;rintro e w' ⟨bb,rfl,t',hl⟩;exact⟨bb,rfl,t'.mono (λk _ e hx=>e.2 (h4 k hx).1),⟨K,hl,h4⟩,ht⟩
theorem S39.new(h:BF w0 K c hb tb r a u n o [] w)(ht:1<w0.heap.size):S39 w0 (λk=>k=w.heap.size) c hb tb r a u n o [] (w.alloc (.map #[] 0)):=
 S39.own (X:=λ_=>False) ⟨⟨K,h,λ_ h=>h.elim⟩,ht⟩ ((Gr.refl w).alloc _) (λk hk=>.inr ⟨by omega,by rw[γ];omega⟩)
theorem Ymm(h:HLv w0 K c hb (Gph.nil c.sl) w)(hw0:1<w0.heap.size)(hs:c.sl=5):Calls prog 13 #[pP hb,iI 4,.agg #[iI 3,iI 2,iI 1,iI 0]] w λe w'=>∃r a u n o tb:Nat,e=.returned (.tuple #[pP tb,iI 0])/\BF w0 (λk=>K k\/k=tb) c hb tb r a u n o [] w':=by
 refine(TI h hw0 4 3 2 1 0).mono ?_;rintro e w' (⟨h,-⟩|⟨-,r,a,u,n,o,tb,h1,-,h2,-⟩)
 ·exact absurd (by rw[hs];exact QP (by decide) (by decide)) h
 ·exact⟨r,a,u,n,o,tb,h1,h2⟩
end
def Q3:CfI:=⟨1,4,4,32,5,1,0,0⟩
def MZ(k:Nat):List (Nat×Nat):=(([(0,5),(0,3),(0,8)]:List (Nat×Nat)).take k).reverse
section
variable{C v f:Nat}{e:Int}
theorem UH(h:QY M k y C e M')(hn:∀p∈M,p.2≠k)(hc:5*M.length+5<=C):M'=(y,k) :: M:=by
 rcases h with⟨f,M0,h1,-⟩|⟨-,⟨-,-,h⟩|⟨h,-⟩⟩
 ·exact absurd rfl (hn _ (h1.mem_iff.2 (ζa ..)))
 ·exact h
 ·omega
theorem VWR(h:O4 (MZ 3) 5 e M'):e=0/\M'.Perm [(0,8),(0,3)]:=ZH (f:=0) (by decide) (by decide) h
theorem Xk6(hp:M.Perm [(0,8),(0,3)])(h:MR M 4 v f e):v=8/\e=0:=by
 have h8:((0,8):Nat×Nat)∈M:=hp.mem_iff.2 (by simp);rcases h with⟨h1,h2,h3,h4⟩|⟨h1,-⟩
 ·have h5:=hp.mem_iff.1 h1;simp only[ζi,ξq,or_false,Prod.mk.injEq]at h5;omega
 ·have:=h1 _ h8;dsimp only at this;omega
end
theorem JpW:Q3.may=true:=by decide +kernel
theorem XH(w:World)(hT:AO w):Calls prog 11 #[] w λe w'=>e=.returned (.bool true)/\Gr w w':=by
 have B:=ι hT.lt;have O:=(WP Q3 ⟨by show (4:Int)<=_;decide,by show (4:Int)<=_;decide,by show (32:Int)<=_;decide⟩ JpW w hT);obtain⟨d,hd⟩:∃d,d=Q3.nat:=⟨_,rfl⟩;have HD:Hid (d.wd=32/\d.sl=5):=⟨by rw[hd];exact⟨rfl,rfl⟩⟩;rw[<-hd]at O;unfold CfI.V Q3 at O;clear hT hd;go_enter func11,ntmps11;go_upto_region 2 with(go_at_call 12;refine(O).mono ?_;rintro e w1 ⟨s,rfl,hn⟩;have HN:=hn;clear hn);have N:=HLv.new HN;obtain⟨hb,L⟩:∃hb,hb=s.A.hp:=⟨_,rfl⟩;rw[<-L]at N⊢;have D:=TI N B.o 0 1 2 3 4;have hm:DQ d.sl [0,1,2,3,4]=0:=by rw[HD.o.2];exact QP (by decide) (by decide)
 rw[hm]at D;clear N L hm;go_upto_region 5 with(go_at_call 13;refine(D).mono ?_;rintro e w2 (⟨Xe,-⟩|⟨-,r,a,u,n,o,tb,rfl,ht,hl,-⟩);exact absurd rfl Xe;have HS:=ι hl;clear ht hl);have G:=Rec.new w2 37 [uU 5,uU 3,uU 8];have E:S39 w (λk=>k=w2.heap.size) d hb tb r a u n o [] (w2.alloc (.cells #[.int .u64 5,.int .u64 3,.int .u64 8] 37)):=S39.own (X:=λ_=>False) ⟨⟨_,HS.o,λ_ h=>h.elim⟩,B.o⟩ ((Gr.refl w2).alloc _) (λk hk=>.inr ⟨by omega,by rw[γ];omega⟩);go_upto_region 6 with(fail);obtain⟨wz,U⟩:∃wz,wz=w2.alloc (.cells #[.int .u64 5,.int .u64 3,.int .u64 8] 37):=⟨_,rfl⟩;obtain⟨bx,I⟩:∃bx,bx=w2.heap.size:=⟨_,rfl⟩;rw[<-U,<-I]at E⊢;have HR:Hid (Rec wz bx 37 [uU 5,uU 3,uU 8]):=⟨by rw[U,I];exact G⟩;have HZ:Hid (S39 w (λk=>k=bx) d hb tb r a u n o (MZ 0) wz):=⟨E⟩;clear U I G E HS
 go_loopw [30] (λs30 wr=>∃k:Nat,k<=3/\Hid (S39 w (λk=>k=bx) d hb tb r a u n o (MZ k) wr)/\Hid (Rec wr bx 37 [uU 5,uU 3,uU 8])/\s30=iI k) (λs30 _=>3-(intOf s30).toNat)
 case atStart=>exact⟨0,by omega,HZ,HR,rfl⟩
 case round=>
  clear HZ HR;obtain⟨k,hk,HS,HR,rfl⟩:=hrel;by_cases Y:k<3
  ·have Xd:k=0\/k=1\/k=2:=Ω
   clear Y hk;rcases Xd with rfl|rfl|rfl
   ·obtain⟨e,M,hp,hc⟩:=HS.o.put (k:=5) (y:=0) (by decide) (by decide);obtain rfl:=UH hp (by simp[MZ]) (by rw[HD.o.1];decide);have z0:=HR.o.cc 0;have zl:=HR.o.lt;clear hp;go_wp2_with(go_at_call 14;refine hc.mono ?_;rintro e w3 ⟨rfl,ht,hl⟩;have J:=ι hl;have Z:=ι (HR.o.touch ht (λe=>e rfl));clear ht hl);go_round
    case rel=>exact⟨1,by omega,J,Z,by go_num⟩
    case measure=>simp[intOf]
   ·obtain⟨e,M,hp,hc⟩:=HS.o.put (k:=3) (y:=0) (by decide) (by decide);obtain rfl:=UH hp (by simp[MZ]) (by rw[HD.o.1];decide);have z0:=HR.o.cc 1;have zl:=HR.o.lt;clear hp;go_wp2_with(go_at_call 14;refine hc.mono ?_;rintro e w3 ⟨rfl,ht,hl⟩;have J:=ι hl;have Z:=ι (HR.o.touch ht (λe=>e rfl));clear ht hl);go_round
    case rel=>exact⟨2,by omega,J,Z,by go_num⟩
    case measure=>simp[intOf]
   ·obtain⟨e,M,hp,hc⟩:=HS.o.put (k:=8) (y:=0) (by decide) (by decide);obtain rfl:=UH hp (by simp[MZ]) (by rw[HD.o.1];decide);have z0:=HR.o.cc 2;have zl:=HR.o.lt;clear hp;go_wp2_with(go_at_call 14;refine hc.mono ?_;rintro e w3 ⟨rfl,ht,hl⟩;have J:=ι hl;have Z:=ι (HR.o.touch ht (λe=>e rfl));clear ht hl);go_round
    case rel=>exact⟨3,by omega,J,Z,by go_num⟩
    case measure=>simp[intOf]
  ·obtain rfl:k=3:=Ω
   clear Y hk HR;obtain⟨e,M,h1,hc⟩:=HS.o.drop (k:=5) (by decide);obtain⟨rfl,h2⟩:=VWR h1;have HP:=ι h2;clear h1 h2;go_upto_region 11 with(go_at_call 18;refine hc.mono ?_;rintro e w3 ⟨rfl,ht,hl⟩;have Xb:=ι hl;clear ht hl);clear hc HS;obtain⟨v,f,e,h1,hc⟩:=Xb.o.next 4
   obtain⟨rfl,rfl⟩:=Xk6 HP.o h1;clear h1;go_upto_region 12 with(go_at_call 16;refine hc.mono ?_;rintro e w4 ⟨rfl,ht,hl⟩;have Xc:=ι hl;clear ht hl);clear hc Xb;have Xa:=ι Xc.o.len;rw[HP.o.length_eq]at Xa;go_wp2_with(go_at_call 21;refine Xa.o.mono ?_;rintro e w5 ⟨rfl,ht,hl⟩;have Xf:=ι hl;clear ht hl);go_ret;exact⟨rfl,Xf.o.grew⟩
open Go.ChangeShapes Go.WideShapes Go.ChangeAt
def EB(c:CfI):List Value:=[iI c.kd,iI c.pg,iI c.bk,iI c.wd,iI c.sl,iI c.st,iI c.ah,.float .f64 c.tr]
theorem VS7:prog.cellsOf 24=8:=by kernel_rfl
theorem Vpv{l:List Value}{v0 v1 v2 v3 v4 v5 v6 v7:Value}(hl:l.length=8)(h0:l[0]?=some v0)(h1:l[1]?=some v1)(h2:l[2]?=some v2)(h3:l[3]?=some v3)(h4:l[4]?=some v4)(h5:l[5]?=some v5)(h6:l[6]?=some v6)(h7:l[7]?=some v7):l=[v0,v1,v2,v3,v4,v5,v6,v7]:=by
 match l,hl with
 | [a0,a1,a2,a3,a4,a5,a6,a7],_=>simp at h0 h1 h2 h3 h4 h5 h6 h7;simp[*]
section
variable{enc:TypeId × Value->H}{base:Nat}{spare:Nat->Bool}{held:Bool}{fuel:Nat}{cs:List Value}{x:DataW H × List MemPlace}
theorem ZAk(h:DataW.trod enc prog w base spare held fuel 24 cs=some x):∃c:CfI,cs=EB c/\c.Bd:=by
 obtain⟨xs,n,-,-,hl,Y,hf⟩:=DataW.trod_struct underlying24 h;have ex:∀i,i<xs.length->∃y,xs[i]?=some y:=λi hi=>⟨_,η hi⟩
 have Y:xs.length=8:=Y;have g0:DataW.trod enc prog w base spare held n 3 ((cs.drop 0).take (prog.cellsOf 3))=xs[0]?:=hf 0 _ rfl;have g1:DataW.trod enc prog w base spare held n 3 ((cs.drop 1).take (prog.cellsOf 3))=xs[1]?:=hf 1 _ rfl;have g2:DataW.trod enc prog w base spare held n 3 ((cs.drop 2).take (prog.cellsOf 3))=xs[2]?:=hf 2 _ rfl;have g3:DataW.trod enc prog w base spare held n 3 ((cs.drop 3).take (prog.cellsOf 3))=xs[3]?:=hf 3 _ rfl;have g4:DataW.trod enc prog w base spare held n 3 ((cs.drop 4).take (prog.cellsOf 3))=xs[4]?:=hf 4 _ rfl;have g5:DataW.trod enc prog w base spare held n 3 ((cs.drop 5).take (prog.cellsOf 3))=xs[5]?:=hf 5 _ rfl;have g6:DataW.trod enc prog w base spare held n 3 ((cs.drop 6).take (prog.cellsOf 3))=xs[6]?:=hf 6 _ rfl;have g7:DataW.trod enc prog w base spare held n 22 ((cs.drop 7).take (prog.cellsOf 22))=xs[7]?:=hf 7 _ rfl;obtain⟨y0,e0⟩:=ex 0 Ω;obtain⟨y1,e1⟩:=ex 1 Ω;obtain⟨y2,e2⟩:=ex 2 Ω;obtain⟨y3,e3⟩:=ex 3 Ω;obtain⟨y4,e4⟩:=ex 4 Ω;obtain⟨y5,e5⟩:=ex 5 Ω;obtain⟨y6,e6⟩:=ex 6 Ω;obtain⟨y7,e7⟩:=ex 7 Ω;rw[e0]at g0;rw[e1]at g1;rw[e2]at g2;rw[e3]at g3;rw[e4]at g4;rw[e5]at g5;rw[e6]at g6;rw[e7]at g7;obtain⟨a0,c0,-,b0⟩:=DataW.trod_int underlying3 g0;obtain⟨a1,c1,-,b1⟩:=DataW.trod_int underlying3 g1;obtain⟨a2,c2,-,b2⟩:=DataW.trod_int underlying3 g2;obtain⟨a3,c3,-,b3⟩:=DataW.trod_int underlying3 g3;obtain⟨a4,c4,-,b4⟩:=DataW.trod_int underlying3 g4;obtain⟨a5,c5,-,b5⟩:=DataW.trod_int underlying3 g5;obtain⟨a6,c6,-,b6⟩:=DataW.trod_int underlying3 g6;obtain⟨a7,c7,-⟩:=VUD underlying22 g7;simp only[QmK,ZO3]at c0 c1 c2 c3 c4 c5 c6 c7;have Z:=Vpv (hl.trans VS7) (KB c0) (KB c1) (KB c2) (KB c3) (KB c4) (KB c5) (KB c6) (KB c7);exact⟨⟨a0,a1,a2,a3,a4,a5,a6,a7⟩,Z,(bounds_i64 b1).2,(bounds_i64 b2).2,(bounds_i64 b3).2⟩
end
theorem Y87{enc:TypeId×Value->H}{r:Reach}{b0:Nat}{d:DataW H}{p:List MemPlace}
  (hv:Value.okWide prog W r b0 24 v) (h:DataW.Trod enc prog W 0 (λ_=>true) true 24 v d p):∃c:CfI,v=c.V/\c.Bd:=by
 obtain⟨cs,rfl,hsz⟩:=okWide_struct underlying24 hv;obtain⟨fuel,hf⟩:=h;obtain⟨g,h1,h2⟩:=ZAk hf;refine⟨g,?_,h2⟩;have:cs.toList=EB g:=by simpa[Value.cells]using h1
 rw[show g.V=.agg (EB g).toArray from rfl,<-this]
theorem QV{b:Nat}{c:CfI}(h:Rec W b 24 (EB c)):W.cell? ⟨b,0,none⟩=some (iI c.kd)/\W.cell? ⟨b,1,none⟩=some (iI c.pg)/\W.cell? ⟨b,2,none⟩=some (iI c.bk)/\W.cell? ⟨b,3,none⟩=some (iI c.wd)/\W.cell? ⟨b,4,none⟩=some (iI c.sl)/\W.cell? ⟨b,5,none⟩=some (iI c.st)/\W.cell? ⟨b,6,none⟩=some (iI c.ah)/\W.cell? ⟨b,7,none⟩=some (.float .f64 c.tr)/\b<W.heap.size:=
 ⟨h.cc 0,h.cc 1,h.cc 2,h.cc 3,h.cc 4,h.cc 5,h.cc 6,h.cc 7,h.lt⟩
theorem YUJ(c:CfI)(hn:n<=120)(A:Option Addr)(cap:Nat)(w:World):Calls prog 10 #[c.V,.slice A n cap] w λe w'=>e=.returned (.bool (decide (2048<c.wd)))/\Gr w w':=by
 have hr:=Rec.new w 24 (EB c);have HG:=ι ((Gr.refl w).alloc (.cells (EB c).toArray 24));have c3:=hr.cc 3;have cl:=hr.lt;have hd:decide ((120:Int)<(n:Int))=false:=ζ Ω;unfold CfI.V;unfold EB at c3 cl HG;clear hr hn;cases hb:decide ((2048:Int)<c.wd)
 all_goals
  go_enter func10,ntmps10;go_wp2;go_ret;exact⟨rfl,HG.o⟩
end Go.Proofs.YtbdimhlaaoadgaaGreatDoor
