/- Part 6 of what ListNobody leans on: my own lemmas, merged by shake.py. -/
import Derived.Test.YteihjlcmjecmfaaGreatDoorListNobodyE
import Derived.Defers
import Derived.Recover
import Derived.Laws.Pointers
import Derived.Maps.OwnSet
namespace Go.Proofs.YteihjlcmjecmfaaGreatDoor
open _root_.Go.Proofs.Tryz
set_option maxHeartbeats 3200000
set_option maxRecDepth 100000
section
open Go.RowKit Word
abbrev Lg:=List (Int×Nat)
def lgV(l:Lg):List Value:=l.flatMap λx=>[.int .i64 x.1,.int .u64 (x.2:Nat)]
structure ZIR(w:World)(S:Nat->Prop)(k:Nat)(sp:Value)(l:Lg):Prop where
 sk:S k
 ll:l.length<=1048576
 lv:∀x∈l,x.2<18446744073709551616
 row:∃vl,Rec w k 228 [sp,vl]/\w.ownsRow 0 235 2 vl l.length (lgV l)/\∀g,vl.ownBlock=some g->S g
theorem ZIR.touch{S T:Nat->Prop}{w w':World}{k:Nat}{sp:Value}{l:Lg}(h:ZIR w S k sp l)(t:XF4 T w w')(hS:∀k,S k->k<w.heap.size->¬T k):ZIR w' S k sp l:=by
 obtain⟨h1,h2,h3,vl,hr,ho,hs⟩:=h;exact⟨h1,h2,h3,vl,hr.touch t (hS _ h1 hr.lt),Zs2 ho t (λg hg=>hS g (hs g hg) (Vvr ho hg).2),hs⟩
theorem ZIR.gr{S:Nat->Prop}{w w':World}{k:Nat}{sp:Value}{l:Lg}(h:ZIR w S k sp l)(t:Gr w w'):ZIR w' S k sp l:=h.touch (t.touch (λ_=>False)) (λ_ _ _ h=>h)
theorem ZIR.mono{S T:Nat->Prop}{w:World}{k:Nat}{sp:Value}{l:Lg}(h:ZIR w S k sp l)(hT:∀k,S k->T k):ZIR w T k sp l:=by
 obtain⟨h1,h2,h3,vl,hr,ho,hs⟩:=h;exact⟨hT _ h1,h2,h3,vl,hr,ho,λg hg=>hT g (hs g hg)⟩
def VSi(why at':Int):Value:=.iface 267 (.agg #[.int .i64 why,.int .i64 at'])
theorem JNg(a:Addr)(w:World):(binOp BinOp.eql 132 (.iface 87 (.pointer (some a))) .nilIface).run prog w=.ok (.bool false) w:=by kernel_rfl
section
variable {w:World} {S:Nat->Prop} {k q:Nat} {v:Vm} {l:Lg}
theorem JcB{T:TypeId}{rv:Value}(n0:∀w,(binOp BinOp.eql 132 (.iface T rv) .nilIface).run prog w=.ok (.bool false) w)(hW:ZIR w S k (.iface T rv) l)(why a:Int):Calls prog 151 #[.pointer (some ⟨k,0,none⟩),.int .i64 why,.int .i64 a] w λe w'=>e=.panicked [{v:=VSi why a,recovered:=false}]/\w=w':=by
 obtain⟨vl,hr,-⟩:=hW.row;have c0:=hr.cc 0;clear hr hW;go_enter func151,ntmps151;go_wp2;exact⟨rfl,rfl,rfl⟩
theorem QRb(n:Nat)(a:Addr)(w:World):(nilAhead (n+1) 87 (.pointer (some a)) "Store").run prog w=.ok (some false) w:=by kernel_rfl
theorem J76(n:Nat)(a:Addr)(w:World):(method (n+1) 87 (.pointer (some a)) "Store").run prog w=.ok (177,.pointer (some a)) w:=by kernel_rfl
def Z1x(w:World)(v:Vm)(a:Int)(e:Ending)(w':World):Prop:=Gr w w'/\(v.ldE a=0->e=.returned (.int .u64 (v.ldV a:Nat)))/\(v.ldE a≠0->e=.panicked [{v:=VSi (v.ldE a) a,recovered:=false}])
theorem ZO8{S2:Nat->Prop}(hW:ZIR w S k (spV q) l)(hV:QXZ w S2 q v)(a:Int):Calls prog 150 #[.pointer (some ⟨k,0,none⟩),.int .i64 a] w (Z1x w v a):=by
 have HW:=hid hW;have HL:=hid (λ(w':World) (g:Gr w w')=>VW8 (hV.gr g) a);obtain⟨vl,hr,-⟩:=hW.row;have c0:=hr.cc 0;unfold spV at c0;have n0:=JNg;have n1:=Ye4;have n2:=V01;clear hr hW hV;by_cases h0:v.ldE a=0
 ·have HE:=hid h0;rw[h0]at HL;clear h0;go_enter func150,ntmps150;go_wp2_with(go_at_call 176;refine(HL.o _ (Gr.refl w)).mono ?_;rintro e w1 ⟨rfl,X⟩;have Y:=hid X;clear X);go_ret;exact⟨Y.o,λ_=>rfl,λh=>absurd HE.o h⟩
 ·have HE:=hid h0;obtain⟨y,hy⟩:∃y,y=v.ldE a:=⟨_,rfl⟩;have d2:(y==0)=false:=by rw[hy];simpa using h0
  rw[<-hy]at HL;have HY:=hid hy;clear h0 hy;go_enter func150,ntmps150
  go_wp2_with(first
   | (go_at_call 176;refine(HL.o _ (Gr.refl w)).mono ?_;rintro e w1 ⟨rfl,X⟩;have Y:=hid X;clear X)
   | (go_at_call 151;refine(JcB (JNg _) (HW.o.gr Y.o) y a).mono ?_;rintro e w2 ⟨rfl,rfl⟩))
  exact⟨rfl,Y.o,λh=>absurd h HE.o,λ_=>by rw[<-HY.o]⟩
def Yvy(v:Vm)(l:Lg):Vm:=l.foldr (λx v=>v.st x.1 x.2) v
theorem XV1(v:Vm)(l:Lg)(x:Int×Nat):Yvy v (l++[x])=Yvy (v.st x.1 x.2) l:=by
 unfold Yvy;rw[List.foldr_append];rfl
theorem QLy{v:Vm}(h:ZAR v){a:Int}(ha:v.ldE a=0)(x:Nat):(v.st a x).st a (v.ldV a)=v:=by
 have e1:v.st a x={v with pl:={v.pl with wd:=v.pl.wd.set (v.at a) x}}:=μ ha;have e2:(v.st a x).ldE a=0:=by rw[Zpt];exact ha
 have e3:(v.st a x).st a (v.ldV a)={v with pl:={v.pl with wd:=(v.pl.wd.set (v.at a) x).set (v.at a) (v.ldV a)}}:=by
  rw[e1]at e2⊢;exact μ e2
 have e4:v.ldV a=v.pl.wd.getD (v.at a) 0:=μ ha;have hl:=h.place_lt ha;rw[e3,ψp,e4]
 have e5:v.pl.wd.set (v.at a) (v.pl.wd.getD (v.at a) 0)=v.pl.wd:=by
  rw[φ,δ hl,ψe,List.set_getElem_self]
 rw[e5]
def JZ7(w:World)(S S2:Nat->Prop)(k q:Nat)(v:Vm)(l:Lg)(a:Int)(x:Nat)(e:Ending)(w':World):Prop:=
 (v.ldE a≠0/\Gr w w'/\e=.panicked [{v:=VSi (v.ldE a) a,recovered:=false}]) ∨
 (v.ldE a=0/\e=.returned (.tuple #[])/\XF4 (λi=>S i\/S2 i) w w'/\QXZ w' (ZOk S2 w) q (v.st a x)/\ZIR w' (plus S w) k (spV q) (l++[(a,v.ldV a)]))
theorem Qbw:(prog.info? 235).map (λi=>(i.zero,i.size,i.bytes))=some (some (.agg #[.int .i64 0,.int .u64 0]),2,16):=by kernel_rfl
theorem Jzb{S2:Nat->Prop}(hW:ZIR w S k (spV q) l)(hV:QXZ w S2 q v)(hd:∀i,S i->¬S2 i)(hl:l.length<1048576)(a:Int){x:Nat}(hx:x<18446744073709551616):
  Calls prog 106 #[.pointer (some ⟨k,0,none⟩),.int .i64 a,.int .u64 x] w (JZ7 w S S2 k q v l a x):=by
 have HW:=hid hW;have HV:=hid hV;have HX:=hid hx;have HD:=hid hd;obtain⟨vl,hr,ho,hs⟩:=hW.row;have c0:=hr.cc 0;unfold spV at c0;have n0:=JNg;have n1:=QRb;have n2:=J76;by_cases h0:v.ldE a=0
 ·have HE:=hid h0;obtain⟨A,c,rfl,Xm,Xo⟩:=ZfN ho;unfold maxLen at Xo;have HR:=hid hr;have HO:=hid ho;have HS:=hid hs;obtain⟨N,hN⟩:∃N,N=l.length:=⟨_,rfl⟩;have HN:=hid hN;rw[<-hN]at hl Xm;obtain⟨ii,Xk,Xf,Xi,Xn⟩:=info_parts Qbw;have Xg:=hr.lt;have U:=hW.sk;clear hr hW hV h0 ho hs hN hd;go_enter func106,ntmps106
  go_wp2_with(first
   | (go_at_call 150;refine(ZO8 HW.o HV.o a).mono ?_;rintro e w1 ⟨Z,he,-⟩;obtain rfl:=he HE.o;have k0:=(Z.cell Xg 0).trans c0;have X:=hid Z;clear Z he)
   | (go_at_call 177;refine(Qpx (HV.o.cut.gr X.o) a HX.o).mono ?_;rintro e w2 ⟨rfl,E,Xd⟩;rw[HE.o];have I:=hid ((HR.o.gr X.o).touch E (λh=>HD.o _ U h.1));have d1:=I.o.cc 1;have df:=I.o.free 1;have B:=hid (Zs2 (Y9I HO.o X.o) E (λg hg h=>HD.o _ (HS.o g hg) h.1));rw[<-HN.o]at d1 B;have Xa:=hid E;have Xh:=hid Xd;clear E Xd)
   | (at_builtin;refine wpList_append_lies _ rfl _ _ 226 rfl 0 235 ii _ 2 16 underlying226 Xk Xf Xi Xn rfl (by decide) (.slice A N c) N (lgV l) rfl (B.o.alloc _) ⟨w2.heap.size,0,none⟩ 1 1 [.int .i64 a,.int .u64 (v.ldV a:Nat)] rfl rfl (ξI (cs:=#[.int .i64 a,.int .u64 (v.ldV a:Nat)]) (t:=235) (fr:=(0,0)) (heap_alloc_new w2 (.cells #[.int .i64 a,.int .u64 (v.ldV a:Nat)] 235))) (by simp[Value.oneCell']) Ω (by unfold maxLen;omega) Ω (ζh _) (w2.heap.size+1) (by simp) ?_;intro g3 c3 w3 J Y D G;have t3:XF4 (λk=>(Value.slice A N c).ownBlock=some k) w2 w3:=(((Gr.refl _).alloc _).touch _).trans (VxQ Y _ (λk e _=>e));have V:=hid (I.o.touch t3 (λe=>YnK B.o I.o (by decide) e rfl rfl));have d3:=V.o.cc 1;have df3:=V.o.free 1;have Xc:=hid t3;have Xb:=hid J;have Xl:=hid (ν D G);clear J Y D G t3))
  refine ζF (ζr rfl _ _ _) rfl ?_;have hsz1:=X.o.size;have hsz2:=Xa.o.size;have Xj:=Xl.o;have hT:XF4 (λi=>S i\/S2 i) w w3:=((X.o.touch _).trans (Xa.o.mono (λi _ hi=>.inr hi.1))).trans (Xc.o.mono (λi _ hi=>.inl (HS.o i (by rw[<-HN.o];exact hi))));have Xe:∀i,ZOk S2 w i->¬(Value.slice A N c).ownBlock=some i:=λi hi e=>HD.o i (HS.o i (by rw[<-HN.o];exact e)) hi.1;refine .inr ⟨HE.o,rfl,hT.setCell (a:=⟨k,1,none⟩) (λ_=>.inl U) _,?_,.inl U,by rw[ζk,<-HN.o];simp;omega,λy hy=>(ζj.1 hy).elim (HW.o.lv y) (λh=>by simp at h;subst h;exact HV.o.ok.ldV_lt a),.slice (some ⟨g3,0,none⟩) (N+1) c3,Rec.set V.o 1 _,?_,λg hg=>?_⟩
  ·exact(Xh.o.touch Xc.o (λi hi _=>Xe i hi)).touch ((XF4.refl (λi=>i=k) w3).setCell (a:=⟨k,1,none⟩) (λ_=>rfl) _) (λi hi _ e=>by subst e;exact HD.o i U hi.1)
  ·rw[ζk,<-HN.o,show lgV (l++[(a,v.ldV a)])=lgV l++[.int .i64 a,.int .u64 (v.ldV a:Nat)]by unfold lgV;rw[List.flatMap_append];rfl];exact VDR Xb.o _ (λg hg=>YnK Xb.o V.o (by decide) hg rfl)
  ·cases hg;rcases Xj.1 with h|h
   ·exact .inl (HS.o _ (by rw[<-HN.o];exact h))
   ·right
    show w.heap.size<=g3
    omega
 ·have HE:=hid h0;clear hr hW hV h0 ho hs hd;go_enter func106,ntmps106;go_wp2_with(go_at_call 150;refine(ZO8 HW.o HV.o a).mono ?_;rintro e w1 ⟨Z,-,he⟩;obtain rfl:=he HE.o;have X:=hid Z;clear Z he);exact⟨rfl,.inl ⟨HE.o,X.o,rfl⟩⟩
theorem Y4S(v:Vm){l:Lg}{j:Nat}(h:j<l.length):Yvy v (l.drop j)=(Yvy v (l.drop (j+1))).st l[j].1 l[j].2:=by
 rw[ξB h];rfl
theorem XHY{l:Lg}{j:Nat}(h:j<l.length):(lgV l)[j*2]?=some (.int .i64 l[j].1)/\(lgV l)[j*2+1]?=some (.int .u64 (l[j].2:Nat)):=by
 induction l generalizing j with
 | nil=>exact absurd h (by simp)
 | cons x l ih=>
  have e:lgV (x :: l)=.int .i64 x.1 :: .int .u64 (x.2:Nat) :: lgV l:=rfl;cases j with
  | zero=>rw[e];exact⟨rfl,rfl⟩
  | succ j=>
   have:=ih (j:=j) (by simpa using h);rw[e,show (j+1)*2=j*2+1+1 by omega,show j*2+1+1+1=(j*2+1)+1+1 by omega];exact this
theorem Zp0{w:World}{E size:Nat}{A:Option Addr}{n c:Nat}{xs:List Value}(h:w.ownsRow 0 E size (.slice A n c) n xs):w.ownsRow 0 E size (.slice A 0 c) 0 []:=by
 obtain⟨h1,⟨h,_⟩|⟨g,cap,X,e1,e2,e3,e4,e5,e6,e7⟩⟩:=h
 ·cases h;exact⟨by simp,.inl ⟨rfl,rfl⟩⟩
 ·simp only[Value.slice.injEq]at e1;obtain⟨rfl,-,rfl⟩:=e1;exact⟨by simp,.inr ⟨g,c,X,rfl,e2,e3,ζh _,e5,e6,by simp⟩⟩
def Ju8(w:World)(S S2:Nat->Prop)(k q:Nat)(v:Vm)(l:Lg)(e:Ending)(w':World):Prop:=
 e=.returned (.tuple #[])/\XF4 (λi=>S i\/S2 i) w w'/\QXZ w' S2 q (Yvy v l)/\ZIR w' S k (spV q) []
theorem ZSY{S2:Nat->Prop}(hW:ZIR w S k (spV q) l)(hV:QXZ w S2 q v)(hd:∀i,S i->¬S2 i):Calls prog 188 #[.pointer (some ⟨k,0,none⟩),.int .i64 0] w (Ju8 w S S2 k q v l):=by
 have HW:=hid hW;have HV:=hid hV;have HD:=hid hd;obtain⟨vl,hr,ho,hs⟩:=hW.row;obtain⟨A,c,rfl,Xi,Xk⟩:=ZfN ho;unfold maxLen at Xk;have c1:=hr.cc 1;have HR:=hid hr;have HO:=hid ho;have HS:=hid hs;have Xd:=hW.ll;obtain⟨N,hN⟩:∃N,N=l.length:=⟨_,rfl⟩;have HN:=hid hN;rw[<-hN]at c1 Xi Xd;have hkl:=hr.lt;have V:=hid hW.sk;clear hr ho hs hW hV hd hN;go_enter func188,ntmps188;go_wp2
 go_loopw [4] (λi wr=>∃m:Nat,m<=N/\Hid (XF4 S2 w wr)/\Hid (QXZ wr S2 q (Yvy v (l.drop m)))/\i=.int .i64 ((m:Int)-1)) (λi _=>(intOf i+1).toNat)
 case atStart=>exact⟨N,π _,⟨XF4.refl S2 w⟩,⟨by rw[HN.o,List.drop_length];exact HV.o⟩,by go_num⟩
 case round=>
  obtain⟨m,hm,HT,HK,rfl⟩:=hrel;have Y:=hid (HR.o.touch HT.o (HD.o _ V.o));have Z:=hid (Zs2 HO.o HT.o (λg hg h=>HD.o _ (HS.o g hg) h));have e1:=Y.o.cc 1;have ef:=Y.o.free 1;rw[<-HN.o]at e1;clear c1;by_cases Xj:m=0
  ·subst Xj;go_wp2;refine ζF (ζr rfl _ _ _) rfl ?_;have hdd:∀i,S2 i->i≠k:=λi hi e=>HD.o k V.o (by rw[<-e];exact hi);refine⟨rfl,(HT.o.mono (λi _ hi=>.inr hi)).setCell (a:=⟨k,1,none⟩) (λ_=>.inl V.o) _,?_,V.o,ζh _,(λx hx=>by cases hx),.slice A 0 c,Rec.set Y.o 1 _,?_,λg hg=>HS.o g (by cases A with|none=>cases hg|some a=>exact hg)⟩
   ·have:=HK.o.touch ((XF4.refl (λi=>i=k) wr).setCell (a:=⟨k,1,none⟩) (λ_=>rfl) (.slice A 0 c)) (λi hi _=>hdd i hi);rw[List.drop_zero]at this;exact this
   ·exact VDR (Zp0 Z.o) _ (λg hg=>YnK (Zp0 Z.o) Y.o (by decide) hg rfl)
  ·obtain⟨j,rfl⟩:∃j,m=j+1:=⟨m-1,by omega⟩;have U:j<l.length:=by have:=HN.o;omega
   have D:=Y4S v U;obtain⟨g,c',e2,-,-,-,-⟩:=YTP Z.o Ω;simp only[Value.slice.injEq]at e2;obtain⟨rfl,-,rfl⟩:=e2;have r1:=ZBn Z.o (XHY U).1;have r2:=ZBn Z.o (XHY U).2;have I:=HW.o.lv _ (χ U);obtain⟨⟨xa,xw⟩,Xb⟩:∃x,x=l[j]:=⟨_,rfl⟩;rw[<-Xb]at r1 r2 I D;have Xf:=hid I;have Xg:=hid D;have G:=(Vvr Z.o (g:=g) rfl).2;have n1:=QRb;have n2:=J76;have e0:=Y.o.cc 0;unfold spV at e0;have J:=Y.o.lt
   have KS:Hid (∀W',Gr wr W'->W'.cell? ⟨k,0,none⟩=some (.iface 87 (.pointer (some ⟨q,0,none⟩)))/\W'.cell? ⟨k,1,none⟩=some (.slice (some ⟨g,0,none⟩) N c)/\W'.cell? ⟨g,j*2,none⟩=some (.int .i64 xa)/\W'.cell? ⟨g,j*2+1,none⟩=some (.int .u64 (xw:Nat))):=
    ⟨λW' h=>⟨(h.cell J 0).trans e0,(h.cell J 1).trans e1,(h.cell G _).trans r1,(h.cell G _).trans r2⟩⟩
   have hjN:(j:Int)<(N:Int):=by have:=HN.o;omega
   clear U D r1 r2 I Xb G e0 e1 ef J;go_upto_region 3 with(fail);obtain⟨Sx,X⟩:∃Sx:World->Prop,Sx=λW'=>Gr wr W':=⟨_,rfl⟩;have x1:∀p:ZJV Sx,p.w.cell? ⟨k,0,none⟩=some (.iface 87 (.pointer (some ⟨q,0,none⟩))):=λp=>(KS.o _ (ZJV.get X p)).1;have x2:∀p:ZJV Sx,p.w.cell? ⟨k,1,none⟩=some (.slice (some ⟨g,0,none⟩) N c):=λp=>(KS.o _ (ZJV.get X p)).2.1;have x3:∀p:ZJV Sx,p.w.cell? ⟨g,j*2,none⟩=some (.int .i64 xa):=λp=>(KS.o _ (ZJV.get X p)).2.2.1;have x4:∀p:ZJV Sx,p.w.cell? ⟨g,j*2+1,none⟩=some (.int .u64 (xw:Nat)):=λp=>(KS.o _ (ZJV.get X p)).2.2.2;have E:Sx wr.drew:=by rw[X];exact(Gr.refl wr).drew
   have B:Inhabited (ZJV Sx):=⟨⟨_,E⟩⟩;clear X;refine Vv2 Sx 22 [([0,1,2,3,4,5,6,7,8,9,10,11,12,13,14,15,16,17,18,19,20,21],22)] [] (by kernel_rfl) (by kernel_rfl) E ?_;refine XGW ?_;simp only[XZy,ζ,ξ]
   repeat(go_big_quiet_step (fail))
   refine θ ?_;go_wp2_with(go_at_call 177;refine(Qpx (HK.o.gr (Gr.refl wr).drew) xa Xf.o).mono ?_;rintro e w1 ⟨rfl,Xc,Xa⟩;have Xe:=hid Xc;have Xh:=hid Xa;clear Xc Xa);refine⟨.inl trivial,?_⟩;refine Z9U ?_;refine θ ?_;refine β ?_;clear x1 x2 x3 x4 E B;clear Sx;go_wp2;go_round
   case rel=>
    refine⟨j,by omega,⟨HT.o.trans (((Gr.refl wr).drew.touch _).trans Xe.o)⟩,⟨?_⟩,by go_num⟩;rw[Xg.o];exact Xh.o
   case measure=>simp[intOf]
end
end
section
open Go.RowKit Word
section
variable {w:World} {S:Nat->Prop} {k q:Nat} {v:Vm} {l:Lg}
theorem Ypt(x y z r:Value):#[x,y,z]++((Array.replicate 19 undef).setIfInBounds 3 r).setIfInBounds 0 r =
  #[x, y, z, r, undef, undef, r, undef, undef, undef, undef, undef, undef, undef, undef, undef, undef, undef, undef, undef, undef, undef] := by kernel_rfl
theorem Jv4(p2 p5 p4:Addr)(w:World):CallsD prog 187 #[.pointer (some p2),.pointer (some p5),.pointer (some p4)] .returning w λe u' w'=>e=.returned (.tuple #[])/\u'=.returning/\w'=w:=by
 have hnil:∀w:World,(binOp BinOp.eql 20 .nilIface .nilIface).run prog w=.ok (.bool true) w:=λ_=>by kernel_rfl
 refine callsD_of_wpS func187 rfl λc₀ cs hu=>?_;apply wpS_seq;apply wpS_region;simp[wpOpsS,go_sem,recoverD,hu,ntmps187,Exit.thenS];rw[Ypt];refine wpS_of_wp ?_;go_wp2;refine⟨rfl,.returning,?_,_,ζr rfl _ _ _,rfl,rfl,rfl⟩;cases c₀
 simp_all
def YTl(w:World)(S S2:Nat->Prop)(b4 k q:Nat)(v:Vm)(l:Lg)(why a:Int)(w':World):Prop:=
 XF4 (λi=>S i\/S2 i\/i=b4) w w'/\QXZ w' S2 q (Yvy v l)/\ZIR w' S k (spV q) []/\Rec w' b4 176 [.int .i64 why,.int .i64 a]
theorem JR1{S2:Nat->Prop}{b2 b5 b4:Nat}(hW:ZIR w S k (spV q) l)(hV:QXZ w S2 q v)(hd:∀i,S i->¬S2 i)(why a:Int)(older:List PanicEntry)
  (r2:w.cell? ⟨b2,0,none⟩=some (.pointer (some ⟨k,0,none⟩))) (r5:w.cell? ⟨b5,0,none⟩=some (.int .i64 0)) (r4:Rec w b4 176 [.int .i64 0,.int .i64 0]) (n4:¬S b4) (m4:¬S2 b4):
  CallsD prog 187 #[.pointer (some ⟨b2,0,none⟩),.pointer (some ⟨b5,0,none⟩),.pointer (some ⟨b4,0,none⟩)] (.panicking ({v:=VSi why a,recovered:=false} :: older)) w λe u' w'=>
   e=.returned (.tuple #[])/\u'=.panicking ({v:=VSi why a,recovered:=true} :: older)/\YTl w S S2 b4 k q v l why a w':=by
 have hta:∀(x y:Int) (w:World),(Instr.typeAssert (.iface 267 (.agg #[.int .i64 x,.int .i64 y])) 20 267 true).run prog w=.ok (.tuple #[.agg #[.int .i64 x,.int .i64 y],.bool true]) w:=λ_ _ _=>by kernel_rfl
 have hnn:∀(x:Value) (w:World),(binOp BinOp.eql 20 (.iface 267 x) .nilIface).run prog w=.ok (.bool false) w:=λ_ _=>by kernel_rfl
 have HW:=hid hW;have HV:=hid hV;have HD:=hid hd;clear hW hV hd;refine callsD_of_wpS func187 rfl λc₀ cs hu=>?_;apply wpS_seq;apply wpS_region;unfold VSi at hu⊢;simp[wpOpsS,go_sem,recoverD,hu,ntmps187,Exit.thenS];rw[Ypt];refine wpS_of_wp ?_;go_wp2_with(go_at_call 188;refine(ZSY HW.o HV.o HD.o).mono ?_;rintro e w1 ⟨rfl,Y,J,Z⟩;have X:=hid (r4.touch Y (λh=>h.elim n4 m4));have d0:=X.o.cc 0;have d1:=X.o.cc 1;have df:=X.o.free;have hb4:=X.o.lt;have E:=hid Y;have U:=hid J;have N:=hid Z;clear Y J Z);have hbl:=X.o.lt;have V:∀i,S2 i->i≠b4:=λi hi e=>m4 (by rw[<-e];exact hi);have I:∀i,S i->i≠b4:=λi hi e=>n4 (by rw[<-e];exact hi);have hT:=((XF4.refl (λi=>i=b4) w1).setCell (a:=⟨b4,0,none⟩) (λ_=>rfl) (.int .i64 why)).setCell (a:=⟨b4,1,none⟩) (λ_=>rfl) (.int .i64 a);have D:XF4 (λi=>S i\/S2 i\/i=b4) w _:=(E.o.mono (λi _ hi=>hi.elim Or.inl (λh=>Or.inr (Or.inl h)))).trans (hT.mono (λi _ hi=>Or.inr (Or.inr hi)));refine⟨rfl,_,rfl,_,ζr rfl _ _ _,rfl,rfl,?_⟩;exact⟨D.alloc _,(U.o.touch hT (λi hi _=>V i hi)).gr ((Gr.refl _).alloc _),(N.o.touch hT (λi hi _=>I i hi)).gr ((Gr.refl _).alloc _),Rec.gr (Rec.set (Rec.set X.o 0 _) 1 _) ((Gr.refl _).alloc _)⟩
end
end
section
open Go.RowKit Word
def YRv(q k b4:Nat)(Sx:Nat->Prop)(w0:World)(G:World->Prop)(H:Int->Int->Vm->Lg->(Nat->Prop)->(Nat->Prop)->World->Prop)(e:Ending)(w1:World):Prop:=
 XF4 Sx w0 w1/\((e=.returned (.tuple #[])/\G w1) ∨
  ∃why a v l S S2,e=.panicked [{v:=VSi why a,recovered:=false}]/\ZIR w1 S k (spV q) l/\QXZ w1 S2 q v/\(∀i,S i->¬S2 i)/\¬S b4/\¬S2 b4/\H why a v l S S2 w1)
section
variable {w:World} {S:Nat->Prop} {k q:Nat} {v:Vm} {l:Lg}
def Vlc(w:World)(k:Nat):World:=((w.alloc (.cells #[.pointer (some ⟨k,0,none⟩)] 172)).alloc (.cells #[.int .i64 0,.int .i64 0] 176)).alloc (.cells #[.int .i64 0] 3)
def ZHP(w:World)(k q:Nat)(Sx:Nat->Prop)(G:World->Prop)(H:Int->Int->Vm->Lg->(Nat->Prop)->(Nat->Prop)->World->Prop)(e:Ending)(w':World):Prop:=
 ∃w1,XF4 Sx (Vlc w k) w1/\((G w1/\e=.returned (.agg #[.int .i64 0,.int .i64 0])/\w'=(w1.setCell ⟨w.heap.size+1,0,none⟩ (.int .i64 0)).setCell ⟨w.heap.size+1,1,none⟩ (.int .i64 0)) ∨
  ∃why a v l S S2,H why a v l S S2 w1/\e=.returned (.agg #[.int .i64 why,.int .i64 a])/\YTl w1 S S2 (w.heap.size+1) k q v l why a w')
theorem Zo0(W:World)(blk:Nat)(p q:Value)(h0:W.cell? ⟨blk,0,none⟩=some p)(h1:W.cell? ⟨blk,1,none⟩=some q):(loadVar 176 ⟨blk,0,none⟩).run prog W=.ok (.agg #[p,q]) W:=by
 have a1:(isAgg 176).run prog W=.ok true W:=by kernel_rfl
 have a2:(sizeOf 176).run prog W=.ok 2 W:=by kernel_rfl
 simp[loadVar,Sem.run_bind,a1,a2,Result.andThen,loadCells,go_sem,h0,h1]
theorem JNc{F:Nat}{caps:Array Value}{Sx:Nat->Prop}{G:World->Prop}{H:Int->Int->Vm->Lg->(Nat->Prop)->(Nat->Prop)->World->Prop}
  (hcf:∀args w,(callFunc F args).run prog w=.ok (.enter F args) w) {sp:Value} (hW:ZIR w S k sp []) (hF:Calls prog F (#[.pointer (some ⟨k,0,none⟩)]++caps) (Vlc w k) (YRv q k (w.heap.size+1) Sx (Vlc w k) G H)) (hx:∀i,w.heap.size<=i->i<=w.heap.size+2->¬Sx i):
  Calls prog 141 #[.pointer (some ⟨k,0,none⟩),.func (.func F) #[] caps] w (ZHP w k q Sx G H):=by
 have hmf:∀(fn:Fn) (first cap:Array Value) (w:World),(Instr.makeFunc fn first cap).run prog w=.ok (.func fn first cap) w:=λ_ _ _ _=>rfl;obtain⟨vl,hr,ho,-⟩:=hW.row;obtain⟨A,c,rfl,hc1,hc2⟩:=ZfN ho;have c1:=hr.cc 1;have hkl:=hr.lt;clear hr ho
 go_enter_defers func141,ntmps141
 have r2:Rec (Vlc w k) w.heap.size 172 [.pointer (some ⟨k,0,none⟩)]:=Rec.gr (Rec.gr (Rec.new w _ _) ((Gr.refl _).alloc _)) ((Gr.refl _).alloc _)
 have r4:Rec (Vlc w k) (w.heap.size+1) 176 [.int .i64 0,.int .i64 0]:=by
  have:=Rec.gr (Rec.new (w.alloc (.cells #[.pointer (some ⟨k,0,none⟩)] 172)) 176 [.int .i64 0,.int .i64 0]) ((Gr.refl _).alloc (.cells #[.int .i64 0] 3));rw[η]at this;exact this
 have r5:Rec (Vlc w k) (w.heap.size+1+1) 3 [.int .i64 0]:=by
  have:=Rec.new ((w.alloc (.cells #[.pointer (some ⟨k,0,none⟩)] 172)).alloc (.cells #[.int .i64 0,.int .i64 0] 176)) 3 [.int .i64 0];rw[η,η]at this;exact this
 have B:=hid r2;have Xd:=hid r4;have D:=hid r5;clear r2 r4 r5;go_wp2;refine hF.mono ?_;rintro e w1 ⟨X,he⟩;have q2:=B.o.touch X (hx _ (π _) Ω);have q4:=Xd.o.touch X (hx _ Ω Ω);have q5:=D.o.touch X (hx _ Ω Ω);have I:=hid X;rcases he with⟨rfl,Z⟩|⟨J,a,v,l,S',S2,rfl,U,E,V,n4,m4,N⟩
 ·have HG:=hid Z;have k0:=q4.cc 0;have k1:=q4.cc 1;have kf:=q4.free;have Y:=hid q4;clear q2 q4 q5 X hF hx Z;go_wp2;have R6:=Rec.set (Rec.set Y.o 0 (.int .i64 0)) 1 (.int .i64 0);refine leaves_cons (f:=187) (args:=#[.pointer (some ⟨w.heap.size,0,none⟩),.pointer (some ⟨w.heap.size+1+1,0,none⟩),.pointer (some ⟨w.heap.size+1,0,none⟩)]) (by simp) (by simp[go_sem]) ?_;refine(Jv4 _ _ _ _).mono ?_;rintro e u' w2 ⟨rfl,rfl,rfl⟩;have hl:=Zo0 _ (w.heap.size+1) _ _ (R6.cc 0) (R6.cc 1);simp only[Leaves,settle];refine⟨_,?_,w1,I.o,.inl ⟨HG.o,rfl,rfl⟩⟩;simp[results,results141,asAddr,hl]
 ·have Xc:=hid U;have Xa:=hid E;have Xb:=hid V;have HH:=hid N;have HN:=hid (ν n4 m4);have k2:=q2.cc 0;have k5:=q5.cc 0;have Y:=hid q4;clear q2 q4 q5 X hF hx U E V N n4 m4;go_wp2;refine leaves_cons (f:=187) (args:=#[.pointer (some ⟨w.heap.size,0,none⟩),.pointer (some ⟨w.heap.size+1+1,0,none⟩),.pointer (some ⟨w.heap.size+1,0,none⟩)]) (by simp) (by simp[go_sem]) ?_;refine(JR1 Xc.o Xa.o Xb.o J a [] k2 k5 Y.o HN.o.1 HN.o.2).mono ?_;rintro e u' w2 ⟨rfl,rfl,hc⟩;have hl:=Zo0 _ (w.heap.size+1) _ _ (hc.2.2.2.cell (j:=0) rfl) (hc.2.2.2.cell (j:=1) rfl);simp only[settle,List.dropWhile_nil,Leaves];refine⟨_,?_,w1,I.o,.inr ⟨J,a,v,l,S',S2,HH.o,rfl,hc⟩⟩;simp[results,results141,asAddr,hl]
def XEJ(w:World)(sp:Value):World:=(w.alloc (.cells #[.int .i64 0,.int .i64 0] 176)).alloc (.cells #[sp,.slice none 0 0] 228)
theorem VS8(w:World)(sp:Value):ZIR (XEJ w sp) (λi=>i=w.heap.size+1) (w.heap.size+1) sp []:=by
 have:=Rec.new (w.alloc (.cells #[.int .i64 0,.int .i64 0] 176)) 228 [sp,.slice none 0 0];rw[η]at this;exact⟨rfl,ζh _,(λx hx=>by cases hx),.slice none 0 0,this,Vm9 _ _ _ _,(λg hg=>by cases hg)⟩
def V3L(w:World)(sp:Value)(q:Nat)(Sx:Nat->Prop)(G:World->Prop)(H:Int->Int->Vm->Lg->(Nat->Prop)->(Nat->Prop)->World->Prop)(e:Ending)(w':World):Prop:=
 ∃w2,∃x y,ZHP (XEJ w sp) (w.heap.size+1) q Sx G H (.returned (.agg #[.int .i64 x,.int .i64 y])) w2/\e=.returned (.agg #[.int .i64 x,.int .i64 y])/\w'=(w2.setCell ⟨w.heap.size,0,none⟩ (.int .i64 x)).setCell ⟨w.heap.size,1,none⟩ (.int .i64 y)
theorem Zfg{sp:Value}{F:Nat}{caps:Array Value}{Sx:Nat->Prop}{G:World->Prop}{H:Int->Int->Vm->Lg->(Nat->Prop)->(Nat->Prop)->World->Prop}
  (hsp:∃T rv,sp=.iface T rv) (hcf:∀args w,(callFunc F args).run prog w=.ok (.enter F args) w)
  (hF:Calls prog F (#[.pointer (some ⟨w.heap.size+1,0,none⟩)]++caps) (Vlc (XEJ w sp) (w.heap.size+1)) (YRv q (w.heap.size+1) (w.heap.size+3) Sx (Vlc (XEJ w sp) (w.heap.size+1)) G H))
  (hx:∀i,w.heap.size+2<=i->i<=w.heap.size+4->¬Sx i) (hx0:¬Sx w.heap.size) (hH:∀why a v l S S2 w1,H why a v l S S2 w1->¬S w.heap.size/\¬S2 w.heap.size):
  Calls prog 97 #[sp,.func (.func F) #[] caps] w (V3L w sp q Sx G H):=by
 obtain⟨T,rv,rfl⟩:=hsp;have Y:(XEJ w (.iface T rv)).heap.size=w.heap.size+2:=by unfold XEJ;rw[η,η]
 have HP:=hid (JNc (k:=w.heap.size+1) (w:=XEJ w (.iface T rv)) (Sx:=Sx) (G:=G) (H:=H) hcf (VS8 w _) (by rw[Y];exact hF) (by rw[Y];exact λi h1 h2=>hx i h1 Ω));have V:=hid (Rec.gr (Rec.new w 176 [.int .i64 0,.int .i64 0]) ((Gr.refl _).alloc (.cells #[.iface T rv,.slice none 0 0] 228)))
 have J:Hid (∀e w',ZHP (XEJ w (.iface T rv)) (w.heap.size+1) q Sx G H e w'->∃x y,e=.returned (.agg #[.int .i64 x,.int .i64 y])/\Rec w' w.heap.size 176 [.int .i64 0,.int .i64 0]):=⟨by
  rintro e w' ⟨w1,t1,h⟩;have r0:Rec (Vlc (XEJ w (.iface T rv)) (w.heap.size+1)) w.heap.size 176 [.int .i64 0,.int .i64 0]:=V.o.gr (((((Gr.refl _).alloc _).alloc _).alloc _));have r1:=r0.touch t1 hx0;rw[Y]at h;rcases h with⟨-,rfl,rfl⟩|⟨why,a,v,l,S,S2,hh,rfl,hc⟩
  ·exact⟨0,0,rfl,VDR (VDR r1 _ (λg hg=>by cases hg;show w.heap.size≠w.heap.size+2+1;omega)) _ (λg hg=>by cases hg;show w.heap.size≠w.heap.size+2+1;omega)⟩
  ·obtain⟨n1,n2⟩:=hH _ _ _ _ _ _ _ hh
   exact⟨why,a,rfl,r1.touch hc.1 (λh=>by rcases h with h|h|h;exact n1 h;exact n2 h;omega)⟩⟩
 clear hF hx hx0 hH hcf Y;go_enter func97,ntmps97;go_wp2_with(go_at_call 141;refine HP.o.mono ?_;intro e w2 Z;obtain⟨x,y,rfl,X⟩:=J.o _ _ Z;have k0:=X.cc 0;have k1:=X.cc 1;have kf:=X.free;have U:=hid X;have HQ:=hid Z;clear Z X);have R3:=Rec.set (Rec.set U.o 0 (.int .i64 x)) 1 (.int .i64 y);have hl:=Zo0 _ w.heap.size _ _ (R3.cc 0) (R3.cc 1);refine ζR (v:=.agg #[.int .i64 x,.int .i64 y]) ?_ rfl ⟨w2,x,y,HQ.o,rfl,rfl⟩;simp[results,results97,asAddr,hl]
end
end
section
open Go.RowKit Word
def mkV(v:Vm)(a:Int)(x:Nat):Nat->Vm
 | 0=>v.st a x
 | m+1=>(mkV v a x m).st (a+1+m) 0
def mkE(v:Vm)(a:Int):Nat->Int
 | 0=>v.ldE a
 | m+1=>if mkE v a m≠0 then mkE v a m else v.ldE (a+1+m)
theorem QBF(v:Vm)(a:Int)(x:Nat)(m:Nat)(b:Int):(mkV v a x m).ldE b=v.ldE b:=by
 induction m with
 | zero=>exact Zpt ..
 | succ m ih=>unfold mkV;rw[Zpt,ih]
theorem ZGy{v:Vm}{a:Int}{m:Nat}(h:mkE v a m≠0){n:Nat}(hn:m<=n):mkE v a n=mkE v a m:=by
 induction n with
 | zero=>rw[ψE.1 hn]
 | succ n ih=>
  rcases γ n m with h'|h'
  ·rw[show m=n+1 by omega]
  ·have:=ih h'
   show (if mkE v a n≠0 then mkE v a n else _)=_
   rw[μ (by rw[this];exact h),this]
section
variable {w:World} {S2:Nat->Prop} {k q b4:Nat} {v:Vm}
def wkS(w:World)(k i:Nat):Prop:=i=k\/w.heap.size<=i
def mkG(q:Nat)(S2:Nat->Prop)(v:Vm)(a:Int)(x n:Nat)(w1:World):Prop:=mkE v a n=0/\QXZ w1 S2 q (mkV v a x n)
def mkH(w:World)(k:Nat)(S2:Nat->Prop)(v:Vm)(a:Int)(n:Nat)(why _a:Int)(v':Vm)(l:Lg)(S S2':Nat->Prop)(_w1:World):Prop:=
 why=mkE v a n/\mkE v a n≠0/\Yvy v' l=v/\S=wkS w k/\S2'=S2
structure Vcw(w wr:World)(S2:Nat->Prop)(k q:Nat)(v:Vm)(a:Int)(x m:Nat)(l:Lg):Prop where
 e:mkE v a m=0
 wk:ZIR wr (wkS w k) k (spV q) l
 vm:QXZ wr S2 q (mkV v a x m)
 un:Yvy (mkV v a x m) l=v
 ll:l.length=m+1
 t:XF4 (λi=>wkS w k i\/S2 i) w wr
theorem YIO{bA bW bH p f c:Nat}{a:Int}{x:Nat}(hs:p+f+c<=255)(hx:x<18446744073709551616)(hW:ZIR w (λi=>i=k) k (spV q) [])(hV:QXZ w S2 q v)(hS:∀i,S2 i->i<w.heap.size)(hk:¬S2 k)
  (cA:Rec w bA 3 [.int .i64 a]) (cW:Rec w bW 22 [.int .u64 x]) (cH:Rec w bH 63 [.int .i64 p,.int .i64 f,.int .i64 c]) (nA:¬S2 bA) (nH:¬S2 bH) (n4:¬S2 b4) (m4:b4<w.heap.size) (d4:b4≠k):
  Calls prog 105 #[.pointer (some ⟨k,0,none⟩),.pointer (some ⟨bA,0,none⟩),.pointer (some ⟨bW,0,none⟩),.pointer (some ⟨bH,0,none⟩)] w
   (YRv q k b4 (λi=>wkS w k i\/S2 i) w (mkG q S2 v a x (p+f+c)) (mkH w k S2 v a (p+f+c))):=by
 have kA:=cA.cc 0;have kW:=cW.cc 0;obtain⟨vl,hr,-⟩:=hW.row;have Xx:bA≠k:=YnK cA hr (by decide) rfl rfl;have Xq:bH≠k:=YnK cH hr (by decide) rfl rfl;have hkl:=hr.lt
 have hd:∀i,wkS w k i->¬S2 i:=λi hi h=>by
  rcases hi with rfl|hi
  ·exact hk h
  ·have:=hS i h;omega
 have B:ZIR w (wkS w k) k (spV q) []:=hW.mono (λi hi=>.inl hi);have HD:=hid hd;have Xr:=hid B;have Xj:=hid (Jzb B hV hd (by simp) a hx);have hN:Z3o ⟨p,f,c⟩=1+(p:Int)+f+c:=μ (JJj hs);have I:=hid (λW=>ZUg ⟨p,f,c⟩ W);rw[hN]at I;unfold X79 at I;have HV:=hid hV;have Xo:=hid cA;have Xk:=hid cH;have Y:=hid (ν nA (ν nH (ν n4 (ν Xx Xq))));have Xn:=hid (show ¬wkS w k b4 from λh=>by rcases h with h|h;exact d4 h;omega);clear hr hW hV hd B hk nA nH n4 hN cA cW cH;by_cases h0:v.ldE a=0
 ·have HE:=hid h0;have har:=Qo9 h0;have hn2:=HV.o.ok.n2;clear h0;go_enter func105,ntmps105
  go_wp2_with(first
   | (go_at_call 106;refine Xj.o.mono ?_;rintro e w1 (⟨h,-⟩|⟨-,rfl,E,Xb,Xc⟩);(exact absurd HE.o h);have J:=Xk.o.touch E (λh=>h.elim (λh=>h.elim Y.o.2.2.2.2 (λh=>absurd Xk.o.lt (ξi h))) Y.o.2.1);have j0:=J.cc 0;have j1:=J.cc 1;have j2:=J.cc 2;have HH1:=hid J;have Xp:=hid E;have Xw:=hid Xb;have Xv:=hid Xc;clear E Xb Xc J)
   | (go_at_call 58;refine(I.o _).mono ?_;rintro e w2 ⟨rfl,Xh⟩;have G:=hid Xh;clear Xh))
  have Xl:Hid (Vcw w w2 S2 k q v a x 0 [(a,v.ldV a)]):=⟨⟨HE.o,(Xv.o.gr G.o).mono (λi hi=>hi.elim id .inr),(Xw.o.gr G.o).mono (λi hi=>hi.1),QLy HV.o.ok HE.o x,rfl,Xp.o.trans (G.o.touch _)⟩⟩
  go_loopw [13] (λi wr=>∃(m:Nat) (l:Lg),m<=p+f+c/\Hid (Vcw w wr S2 k q v a x m l)/\i=.int .i64 m) (λi _=>p+f+c-(intOf i).toNat)
  case atStart=>exact⟨0,_,by omega,Xl,rfl⟩
  case round=>
   obtain⟨m,l,hm,HI,rfl⟩:=hrel;have Xy:=Xo.o.touch HI.o.t (λh=>h.elim (λh=>h.elim Y.o.2.2.2.1 (λh=>absurd Xo.o.lt (ξi h))) Y.o.1);have kA1:=Xy.cc 0;clear Xl kA kW j0 j1 j2;by_cases X:m=p+f+c
   ·have d0:decide ((m:Int)<1+(p:Int)+f+c-1)=false:=ψ Ω;have HM:=hid X;clear X;go_wp2;refine ζF (ζr rfl _ _ _) rfl ?_;refine⟨HI.o.t,.inl ⟨rfl,?_⟩⟩;rw[<-HM.o];exact⟨HI.o.e,HI.o.vm⟩
   ·have d0:decide ((m:Int)<1+(p:Int)+f+c-1)=true:=κ Ω;have Xa:=HI.o.ll;have N:=hid (Jzb HI.o.wk HI.o.vm HD.o Ω (a+1+m) (x:=0) Ω)
    have U:mkE v a (m+1)=v.ldE (a+1+m):=by
     show (if mkE v a m≠0 then mkE v a m else _)=_
     rw[ϑ (λh=>h HI.o.e)]
    have Z:=QBF v a x m (a+1+m);by_cases h1:v.ldE (a+1+m)=0
    ·have H1:=hid (Z.trans h1);have V:=hid (U.trans h1);have Xe:=hid X;clear Z h1 U X Xa;go_wp2_with(go_at_call 106;refine N.o.mono ?_;rintro e w3 (⟨h,-⟩|⟨-,rfl,Xf,Xm,Xg⟩);(exact absurd H1.o h);have Xt:=hid Xf;have Xs:=hid Xm;have Xu:=hid Xg;clear Xf Xm Xg);go_round
     case rel=>
      refine⟨m+1,l++[(a+1+m,(mkV v a x m).ldV (a+1+m))],by have:=Xe.o;omega,⟨V.o,Xu.o.mono (λi hi=>hi.elim id (λh=>.inr (ζb HI.o.t.size h))),Xs.o.mono (λi hi=>hi.1),?_,by rw[ζk,HI.o.ll];rfl,HI.o.t.trans Xt.o⟩,by go_num⟩;rw[XV1]
      show Yvy (((mkV v a x m).st (a+1+m) 0).st _ _) l=v
      rw[QLy HI.o.vm.ok H1.o];exact HI.o.un
     case measure=>have:=Xe.o;simp[intOf];omega
    ·have H1:Hid ((mkV v a x m).ldE (a+1+m)≠0):=⟨by rw[Z];exact h1⟩;have V:Hid (mkE v a (p+f+c)=(mkV v a x m).ldE (a+1+m)):=⟨by rw[Z,<-U];exact ZGy (by rw[U];exact h1) Ω⟩;clear Z h1 U X Xa;go_wp2_with(go_at_call 106;refine N.o.mono ?_;rintro e w3 (⟨-,Xi,rfl⟩|⟨h,-⟩);rotate_left;(exact absurd h H1.o);have A:=hid Xi;clear Xi);exact⟨rfl,HI.o.t.trans (A.o.touch _),.inr ⟨_,_,_,l,wkS w k,S2,rfl,HI.o.wk.gr A.o,HI.o.vm.gr A.o,HD.o,Xn.o,Y.o.2.2.1,V.o.symm,by rw[V.o];exact H1.o,HI.o.un,rfl,rfl⟩⟩
 ·have HE:=hid h0;clear h0;go_enter func105,ntmps105;go_wp2_with(go_at_call 106;refine Xj.o.mono ?_;rintro e w1 (⟨-,Xd,rfl⟩|⟨h,-⟩);rotate_left;(exact absurd h HE.o);have D:=hid Xd;clear Xd);have he:mkE v a (p+f+c)=v.ldE a:=ZGy (m:=0) HE.o (ζh _);exact⟨rfl,D.o.touch _,.inr ⟨v.ldE a,a,v,[],wkS w k,S2,rfl,Xr.o.gr D.o,HV.o.gr D.o,HD.o,Xn.o,Y.o.2.2.1,he.symm,by rw[he];exact HE.o,rfl,rfl,rfl⟩⟩
end
end
section
open Go.RowKit Word
theorem Xnm(args:Array Value)(w:World):(callFunc 105 args).run prog w=.ok (.enter 105 args) w:=by kernel_rfl
theorem X1o(x y:Value)(w:World):(Instr.field 176 (.agg #[x,y]) 0).run prog w=.ok x w:=by kernel_rfl
section
variable {w:World} {S:Nat->Prop} {q:Nat} {v:Vm}
theorem QOP{h:Hdr}(he:JQC h≠0)(w:World):Calls prog 104 #[X79 h] w λe w'=>e=.returned (.tuple #[.int .u64 0,.int .i64 15])/\Gr w w':=by
 have HC:=hid (λW=>Jld h W);have X:JQC h=15:=(Vhh h).resolve_left he;rw[X]at HC;clear X he;unfold X79 at HC⊢;go_enter func104,ntmps104;go_wp2_with(go_at_call 56;refine(HC.o _).mono ?_;rintro e w1 ⟨rfl,Y⟩;have Z:=hid (((Gr.refl w).alloc _).trans Y);clear Y);go_ret2;exact⟨rfl,Z.o⟩
def YWG(w:World)(S:Nat->Prop)(q:Nat)(v:Vm)(a:Int)(x n:Nat)(e:Ending)(w':World):Prop:=
 ∃b:Int,e=.returned (.agg #[.int .i64 (mkE v a n),.int .i64 b])/\XF4 S w w'/\QXZ w' S q (if mkE v a n=0 then mkV v a x n else v)
theorem YxQ(hV:QXZ w S q v){bA bW bH p f c:Nat}{a:Int}{x:Nat}(hs:p+f+c<=255)(hx:x<18446744073709551616)
  (cA:Rec w bA 3 [.int .i64 a]) (cW:Rec w bW 22 [.int .u64 x]) (cH:Rec w bH 63 [.int .i64 p,.int .i64 f,.int .i64 c]) (nA:¬S bA) (nH:¬S bH):
  Calls prog 97 #[spV q,.func (.func 105) #[] #[.pointer (some ⟨bA,0,none⟩),.pointer (some ⟨bW,0,none⟩),.pointer (some ⟨bH,0,none⟩)]] w (YWG w S q v a x (p+f+c)):=by
 have I:(XEJ w (spV q)).heap.size=w.heap.size+2:=by unfold XEJ;rw[η,η]
 obtain⟨W0,Y⟩:∃W0,W0=Vlc (XEJ w (spV q)) (w.heap.size+1):=⟨_,rfl⟩;have hsz0:W0.heap.size=w.heap.size+5:=by rw[Y];unfold Vlc;rw[η,η,η,I]
 have g1:Gr w (XEJ w (spV q)):=((Gr.refl w).alloc _).alloc _;have g2:Gr (XEJ w (spV q)) W0:=by rw[Y];exact(((Gr.refl _).alloc _).alloc _).alloc _
 have g:Gr w W0:=g1.trans g2;have Z:∀i,ZOk S w i->i<w.heap.size:=λi hi=>hi.2;have J:=YIO (b4:=w.heap.size+3) (S2:=ZOk S w) hs hx ((VS8 w (spV q)).gr g2) (hV.cut.gr g) (λi hi=>by have:=Z i hi;omega) (λh=>by have:=Z _ h;omega) (cA.gr g) (cW.gr g) (cH.gr g) (λh=>nA h.1) (λh=>nH h.1) (λh=>by have:=Z _ h;omega) Ω Ω
 have E:=Zfg (w:=w) (sp:=spV q) (q:=q) (F:=105) (caps:=#[.pointer (some ⟨bA,0,none⟩),.pointer (some ⟨bW,0,none⟩),.pointer (some ⟨bH,0,none⟩)]) ⟨_,_,rfl⟩ (Sx:=λi=>wkS W0 (w.heap.size+1) i\/ZOk S w i)
  (G:=mkG q (ZOk S w) v a x (p+f+c)) (H:=mkH W0 (w.heap.size+1) (ZOk S w) v a (p+f+c)) Xnm (by rw[<-Y];exact J)
  (λi h1 h2 h=>by
   rcases h with(h|h)|h
   ·omega
   ·omega
   ·have:=h.2;omega)
  (λh=>by
   rcases h with(h|h)|h
   ·omega
   ·omega
   ·exact absurd h.2 (ζN _))
  (λD a' v' l S' S2 w1 h=>by
   obtain⟨-,-,-,rfl,rfl⟩:=h;refine⟨λh=>?_,λh=>absurd h.2 (ζN _)⟩
   rcases h with h|h <;> omega)
 refine E.mono ?_;rintro e w' ⟨w2,fx,fy,⟨w1,V,hp⟩,rfl,rfl⟩;rw[<-Y]at V;rw[I]at hp;have N:∀(X:World) (T:XF4 (λi=>w.heap.size<=i\/S i) w X),XF4 S w X:=λX T=>T.mono (λi hi h=>h.resolve_left Ω)
 have T1:XF4 (λi=>w.heap.size<=i\/S i) w w1:=(g.touch _).trans' V (λi hi h=>by
  rcases h with(h|h)|h
  ·left;omega
  ·left;omega
  ·exact .inr h.1)
 rcases hp with⟨⟨e0,A⟩,he,rfl⟩|⟨D,a',v',l,S',S2,⟨rfl,e0,hu,rfl,rfl⟩,he,hc⟩
 ·simp only[Ending.returned.injEq,Value.agg.injEq]at he;have U:fx=0/\fy=0:=by simpa using he
  obtain⟨rfl,rfl⟩:=U;have hT:=(((XF4.refl (λi=>w.heap.size<=i) w1).setCell (a:=⟨w.heap.size+2+1,0,none⟩) (λ_=>by show w.heap.size<=w.heap.size+2+1;omega) (.int .i64 0)).setCell (a:=⟨w.heap.size+2+1,1,none⟩) (λ_=>by show w.heap.size<=w.heap.size+2+1;omega) (.int .i64 0)).setCell (a:=⟨w.heap.size,0,none⟩) (λ_=>π _) (.int .i64 0) |>.setCell (a:=⟨w.heap.size,1,none⟩) (λ_=>π _) (.int .i64 0);refine⟨0,by rw[e0],N _ (T1.trans (hT.mono (λi _ h=>.inl h))),?_⟩;rw[μ e0];exact(A.touch hT (λi hi _ h=>by have:=hi.2;omega)).mono (λi hi=>hi.1)
 ·simp only[Ending.returned.injEq,Value.agg.injEq]at he;have U:fx=mkE v a (p+f+c)/\fy=a':=by simpa using he
  obtain⟨rfl,rfl⟩:=U;have hT:=λz1 z2=>((XF4.refl (λi=>w.heap.size<=i) w2).setCell (a:=⟨w.heap.size,0,none⟩) (λ_=>π _) z1).setCell (a:=⟨w.heap.size,1,none⟩) (λ_=>π _) z2;refine⟨fy,rfl,N _ ((T1.trans' hc.1 (λi hi h=>?_)).trans ((hT _ _).mono (λi _ h=>.inl h))),?_⟩
  ·rcases h with(h|h)|h|h
   ·left;omega
   ·left;omega
   ·exact .inr h.1
   ·left;omega
  ·rw[ϑ e0];have:=(hc.2.1.touch (hT (.int .i64 (mkE v a (p+f+c))) (.int .i64 fy)) (λi hi _ h=>by have:=hi.2;omega)).mono (λi hi=>hi.1);rw[hu]at this;exact this
def Y3I(v:Vm)(a:Int)(h:Hdr):Int:=if a<=0 then 5 else if JQC h≠0 then 15 else mkE v a (h.p+h.f+h.k).toNat
def mkVm(v:Vm)(a:Int)(h:Hdr):Vm:=if Y3I v a h=0 then mkV v a (YsO h.p.toNat h.f.toNat h.k.toNat) (h.p+h.f+h.k).toNat else v
theorem ZXc{a b c:Nat}(hs:a+b+c<=255):YsO a b c<18446744073709551616:=by
 have:=Vts hs;unfold YsO;omega
theorem V9e(hV:QXZ w S q v)(a:Int)(h:Hdr):Calls prog 59 #[spV q,.int .i64 a,X79 h] w λe w'=>e=.returned (.int .i64 (Y3I v a h))/\XF4 S w w'/\QXZ w' (plus S w) q (mkVm v a h):=by
 have HV:=hid hV;have hmf:∀(fn:Fn) (first cap:Array Value) (w:World),(Instr.makeFunc fn first cap).run prog w=.ok (.func fn first cap) w:=λ_ _ _ _=>rfl;have Z:Hid (Y3I v a h≠0->∀w',Gr w w'->XF4 S w w'/\QXZ w' (plus S w) q (mkVm v a h)):=⟨λhn w' g=>⟨g.touch S,by unfold mkVm;rw[ϑ hn];exact(hV.gr g).mono (λk hk=>.inl hk)⟩⟩;by_cases h0:a<=0
 ·have HR:Hid (Y3I v a h=5):=⟨μ h0⟩;have d0:decide (a<=0)=true:=κ h0;unfold spV X79;clear h0 hV;go_enter func59,ntmps59;go_wp2;go_ret;exact⟨ZzN HR.o.symm,Z.o (by rw[HR.o];decide) _ (((Gr.refl w).alloc _).alloc _)⟩
 ·have d0:decide (a<=0)=false:=ψ h0;by_cases h1:JQC h=0
  ·obtain⟨p,f,c,rfl,hs⟩:=XZe h1
   have hR:Y3I v a ⟨p,f,c⟩=mkE v a (p+f+c):=by
    unfold Y3I;rw[ϑ h0,ϑ (λh=>h h1)];congr 1
   have HR:=hid hR
   have HM:Hid (mkVm v a ⟨p,f,c⟩=if mkE v a (p+f+c)=0 then mkV v a (YsO p f c) (p+f+c)else v):=⟨by
    unfold mkVm;rw[hR]
    congr 1⟩
   have HP:=hid (λW=>Jii hs W)
   have J:=hid (λ(W:World) (g:Gr w W) (bW:Nat) (cA:Rec W w.heap.size 3 [.int .i64 a]) (cW:Rec W bW 22 [.int .u64 (YsO p f c:Nat)]) (cH:Rec W (w.heap.size+1) 63 [.int .i64 p,.int .i64 f,.int .i64 c])=>
    YxQ (hV.cut.gr g) hs (ZXc hs) cA cW cH (λh=>absurd h.2 (ζN _)) (λh=>by have:=h.2;omega))
   unfold X79 at HP;unfold spV X79;unfold spV at J;have hfl:=X1o;clear hV h0 h1 hR;go_enter func59,ntmps59
   go_wp2_with(first
    | (go_at_call 104;refine(HP.o _).mono ?_;rintro e w1 ⟨rfl,Y⟩;have X:=hid Y;clear Y)
    | (go_at_call 97;have cA:=(((Rec.new w 3 [.int .i64 a]).gr ((Gr.refl _).alloc _)).gr X.o).gr ((Gr.refl w1).alloc (.cells #[.int .u64 (YsO p f c:Nat)] 22));have cH:=((Rec.new (w.alloc (.cells #[.int .i64 a] 3)) 63 [.int .i64 p,.int .i64 f,.int .i64 c]).gr X.o).gr ((Gr.refl w1).alloc (.cells #[.int .u64 (YsO p f c:Nat)] 22));rw[η]at cH;have cW:=Rec.new w1 22 [.int .u64 (YsO p f c:Nat)];refine(J.o _ (((((Gr.refl w).alloc _).alloc _).trans X.o).alloc _) _ cA cW cH).mono ?_;rintro e w2 ⟨b,rfl,V,U⟩;have N:=hid V;have I:=hid U;clear V U cA cH cW))
   go_ret;refine⟨ZzN HR.o.symm,((((((Gr.refl w).alloc _).alloc _).trans X.o).alloc _).touch S).trans (N.o.mono (λi _ hi=>hi.1)),?_⟩;rw[HM.o];exact I.o.mono (λi hi=>.inl hi.1)
  ·have HR:Hid (Y3I v a h=15):=⟨by unfold Y3I;rw[ϑ h0,μ h1]⟩;have HP:=hid (λW=>QOP h1 W);unfold X79 at HP;unfold spV X79;clear hV h0 h1;go_enter func59,ntmps59;go_wp2_with(go_at_call 104;refine(HP.o _).mono ?_;rintro e w1 ⟨rfl,Y⟩;have X:=hid ((((Gr.refl w).alloc _).alloc _).trans Y);clear Y);go_ret;exact⟨ZzN HR.o.symm,Z.o (by rw[HR.o];decide) _ (X.o.alloc _)⟩
end
end
section
open Go.RowKit Word
def cwL(v:Vm)(a:Int)(n m:Nat):List Nat:=(List.range n).map λj=>if j<m then v.ldV (a+j)else 0
theorem QGZ(v:Vm)(a:Int)(n m:Nat):(cwL v a n m).length=n:=by simp[cwL]
theorem JvV(v:Vm)(a:Int){n m j:Nat}(hj:j<n):(VPA (cwL v a n m))[j]?=some (.int .u64 ((if j<m then v.ldV (a+j)else 0:Nat):Int)):=by
 rw[ZpD (by rw[QGZ];exact hj)];simp[cwL]
theorem Z0I(v:Vm)(a:Int)(n m:Nat):(VPA (cwL v a n m)).set m (.int .u64 (v.ldV (a+m):Nat))=VPA (cwL v a n (m+1)):=by
 apply List.ext_getElem?;intro j;rw[ξv];have hl:∀m,(VPA (cwL v a n m)).length=n:=λm=>by simp[VPA,cwL]
 by_cases hj:j<n
 ·rw[JvV v a hj,JvV v a hj];by_cases h:m=j
  ·subst h;rw[μ rfl,μ (by rw[hl];exact hj),μ Ω]
  ·rw[ϑ h];by_cases h2:j<m
   ·rw[μ h2,μ Ω]
   ·rw[ϑ h2,ϑ Ω]
 ·rw[ζf (by rw[hl];omega),ζf (by rw[hl];omega)]
  split
  ·rename_i h;rw[ϑ (by rw[hl];omega)]
  ·rfl
theorem YkC(v:Vm)(a:Int)(n:Nat):VPA (cwL v a n 0)=List.replicate n (.int .u64 0):=by
 apply List.ext_getElem?;intro j;by_cases hj:j<n
 ·rw[JvV v a hj,ζD,μ hj];rfl
 ·rw[ζf (by simp[VPA,cwL];omega),ζD,ϑ hj]
theorem YJ3(n:Nat):(madeCells #[.int .u64 0] n).toList=List.replicate n (.int .u64 0):=by
 unfold madeCells;apply ζ9
 ·simp
 ·intro i h1 h2;simp[ψi]
section
variable {w:World} {S S2:Nat->Prop} {k q b4:Nat} {v:Vm}
def cpG(q:Nat)(S2:Nat->Prop)(v:Vm)(a t:Int)(n:Nat)(w1:World):Prop:=QXZ w1 S2 q (cpV v a t n)
def noH(_ _:Int)(_:Vm)(_:Lg)(_ _:Nat->Prop)(_:World):Prop:=False
structure JEo(w wg wr:World)(S2:Nat->Prop)(k q g:Nat)(v:Vm)(a t:Int)(n m:Nat)(l:Lg):Prop where
 wk:ZIR wr (wkS wg k) k (spV q) l
 vm:QXZ wr S2 q (cpV v a t m)
 ll:l.length=m
 row:wr.ownsRow 0 22 1 (.slice (some ⟨g,0,none⟩) n n) n (VPA (cwL v a n n))
 t:XF4 (λi=>wkS w k i\/S2 i) w wr
 wz:wg.heap.size<=wr.heap.size
 gk:g≠k
theorem Q5n{bA bT bH p f c n:Nat}{a t:Int}(hs:p+f+c<=255)(hn:n=1+p+f+c)(hW:ZIR w (λi=>i=k) k (spV q) [])(hV:QXZ w S2 q v)(hS:∀i,S2 i->i<w.heap.size)(hk:¬S2 k)
  (cA:Rec w bA 3 [.int .i64 a]) (cT:Rec w bT 3 [.int .i64 t]) (cH:Rec w bH 63 [.int .i64 p,.int .i64 f,.int .i64 c]) (nA:¬S2 bA) (nT:¬S2 bT)
  (hl:∀m:Nat,m<n->v.ldE (a+m)=0) (ht:∀m:Nat,m<n->v.ldE (t+m)=0):
  Calls prog 200 #[.pointer (some ⟨k,0,none⟩),.pointer (some ⟨bH,0,none⟩),.pointer (some ⟨bA,0,none⟩),.pointer (some ⟨bT,0,none⟩)] w
   (YRv q k b4 (λi=>wkS w k i\/S2 i) w (cpG q S2 v a t n) noH):=by
 have kA:=cA.cc 0;have kT:=cT.cc 0;have j0:=cH.cc 0;have j1:=cH.cc 1;have j2:=cH.cc 2;have hHl:=cH.lt;have hAl:=cA.lt;obtain⟨vl,hr,-⟩:=hW.row;have Xz:bA≠k:=YnK cA hr (by decide) rfl rfl;have Xu:bT≠k:=YnK cT hr (by decide) rfl rfl;have hkl:=hr.lt;have hN:Z3o ⟨p,f,c⟩=(n:Int):=by rw[show Z3o ⟨p,f,c⟩=1+(p:Int)+f+c from μ (JJj hs)];omega
 have I:=hid (λW=>ZUg ⟨p,f,c⟩ W);rw[hN]at I;unfold X79 at I;have HW:=hid hW;have HV:=hid hV;have Ya:=hid cA;have Xa:=hid cT;have G:=hid (ν nA (ν nT (ν Xz (ν Xu hk))));have HL:=hid hl;have Xp:=hid ht;have HS:=hid hS;obtain⟨i0,hi,Xq,Xw,Xn⟩:=info_parts ZiX;have hn256:n<=256:=Ω
 have hn1:1<=n:=Ω
 have hn2:=hV.ok.n2;have har:=Qo9 (hl 0 Ω);have har2:=Qo9 (hl (n-1) Ω);have htr:=Qo9 (ht 0 Ω);have htr2:=Qo9 (ht (n-1) Ω);have HB:Hid (i0.bytes*n<=281474976710656):=⟨by rw[Xn];omega⟩;have HM:Hid (n<=maxLen):=⟨by unfold maxLen;omega⟩;clear hr hW hV hS hk nA nT hN cA cT cH hl ht hs hn;go_enter func200,ntmps200
 go_wp2_with(first
  | (go_at_call 58;refine(I.o _).mono ?_;rintro e w1 ⟨rfl,Xb⟩;have Xd:=hid Xb;clear Xb)
  | (at_make;refine wpList_make_full _ rfl _ _ 61 rfl w1.heap.size 22 i0 (.int .u64 0) 1 underlying61 hi Xq Xw .i64 .i64 _ _ n rfl rfl ?h1 ?h2 HB.o HM.o (π _) ?h3))
 case h1=>omega
 case h2=>omega
 case h3=>
  intro w2 N U;have Xi:Gr w1 w2:=(JEA U (λ_=>False) (λk e _=>by cases e)).gr;have HO:Hid (w2.ownsRow 0 22 1 (.slice (some ⟨w1.heap.size,0,none⟩) n n) n (VPA (cwL v a n 0))):=⟨by rw[YkC,<-YJ3];exact XZg N⟩;have Xt:=hid (Xd.o.trans Xi);obtain⟨g,hg⟩:∃g,g=w1.heap.size:=⟨_,rfl⟩;have Xe:w.heap.size<=g:=by rw[hg];exact Xd.o.size
  have Xr:Hid (g≠k):=⟨by omega⟩;rw[<-hg]at HO⊢;clear N U Xi hg j0 j1 j2;go_wp2
  go_loopw [14] (λs14 wr=>∃m:Nat,m<=n/\Hid (Gr w wr)/\Hid (wr.ownsRow 0 22 1 (.slice (some ⟨g,0,none⟩) n n) n (VPA (cwL v a n m)))/\s14=.int .i64 m) (λs14 _=>n-(intOf s14).toNat)
  case atStart=>exact⟨0,by omega,Xt,HO,rfl⟩
  case round=>
   obtain⟨m,hm,Y,J,rfl⟩:=hrel;clear HO kA kT;by_cases X:m=n
   ·subst X;go_wp2;obtain⟨wg,B⟩:∃wg,wg=wr:=⟨_,rfl⟩;rw[<-B]at Y J⊢;clear B;have Xf:=hid (ν Xe (Vvr J.o rfl).2);have Xj:Hid (JEo w wg wg S2 k q g v a t m 0 []):=⟨⟨(HW.o.gr Y.o).mono (λi hi=>.inl hi),HV.o.gr Y.o,rfl,J.o,Y.o.touch _,π _,Xr.o⟩⟩;have hcz:=Y.o.size;clear hm
    go_loopw [28] (λs28 wr=>∃(j:Nat) (l:Lg),j<=m/\Hid (JEo w wg wr S2 k q g v a t m j l)/\s28=.int .i64 j) (λs28 _=>m-(intOf s28).toNat)
    case atStart=>exact⟨0,_,by omega,Xj,rfl⟩
    case round=>
     obtain⟨j,l,hj,HI,rfl⟩:=hrel;clear Xj;by_cases X:j=m
     ·subst X;go_wp2;refine ζF (ζr rfl _ _ _) rfl ?_;exact⟨HI.o.t,.inl ⟨rfl,HI.o.vm⟩⟩
     ·have Xv:(j:Int)<(m:Int):=Ω
      have kT:=(Xa.o.touch HI.o.t (λh=>h.elim (λh=>h.elim G.o.2.2.2.1 (λh=>absurd Xa.o.lt (ξi h))) G.o.2.1)).cell (j:=0) rfl;have kc:=ZBn HI.o.row (JvV v a (m:=m) (show j<m by omega));rw[μ Ω]at kc
      have HD:Hid (∀i,wkS wg k i->¬S2 i):=⟨λi hi h=>by
       rcases hi with rfl|hi
       ·exact G.o.2.2.2.2 h
       ·have:=HS.o i h;omega⟩
      have Xl:=HV.o.ok.ldV_lt (a+j);obtain⟨y,hy⟩:∃y,y=v.ldV (a+j):=⟨_,rfl⟩;rw[<-hy]at kc Xl;have HY:=hid hy;have Xm:=HI.o.ll;have Xx:=hid (Jzb HI.o.wk HI.o.vm HD.o Ω (t+j) Xl);have HE:Hid ((cpV v a t j).ldE (t+j)=0):=⟨by rw[(Vxj v a t j).ldE];exact Xp.o j Ω⟩;have Z:=hid X;clear X hy Xm;go_wp2_with(go_at_call 106;refine Xx.o.mono ?_;rintro e w3 (⟨h,-⟩|⟨-,rfl,Xg,Xk,Xh⟩);(exact absurd HE.o h);have E:=hid Xg;have Xo:=hid Xk;have Xs:=hid Xh;clear Xg Xk Xh);go_round
      case rel=>
       have hz:=HI.o.t.size;have Xc:wg.heap.size<=wr.heap.size:=HI.o.wz;refine⟨j+1,l++[(t+j,(cpV v a t j).ldV (t+j))],by have:=Z.o;omega,⟨⟨Xs.o.mono (λi hi=>hi.elim id (λh=>.inr (ζb Xc h))),?_,by rw[ζk,HI.o.ll];rfl,Zs2 HI.o.row E.o (λg' hg' h=>?_),HI.o.t.trans (E.o.mono (λi hi h=>?_)),ζb Xc E.o.size,HI.o.gk⟩⟩,by go_num⟩
       ·have:=Xo.o.mono (T:=S2) (λi hi=>hi.1);rw[HY.o]at this;exact this
       ·cases hg';rcases h with(h|h)|h
        ·exact HI.o.gk h
        ·have h:wg.heap.size<=g:=h;have:=Xf.o.2;omega
        ·have:g<w.heap.size:=HS.o _ h;have:=Xf.o.1;omega
       ·rcases h with(h|h)|h
        ·exact .inl (.inl h)
        ·exact .inl (.inr Ω)
        ·exact .inr h
      case measure=>have:=Z.o;simp[intOf];omega
   ·have Xv:(m:Int)<(n:Int):=Ω
    have kA:=(Ya.o.gr Y.o).cell (j:=0) rfl;have D:=hid (ZO8 (HW.o.gr Y.o) (HV.o.gr Y.o) (a+m));have hE:=HL.o m Ω;have HE:=hid hE;have Z:=hid X;obtain⟨y,hy⟩:∃y,y=v.ldV (a+m):=⟨_,rfl⟩;have HY:=hid hy;unfold Z1x at D;rw[<-hy]at D;have kc:=ZBn J.o (JvV v a (m:=m) (show m<n by omega));have kf:=QxS J.o m;clear X hE hy;go_wp2_with(go_at_call 150;refine D.o.mono ?_;rintro e w3 ⟨A,he,-⟩;obtain rfl:=he HE.o;have V:=hid (Y9I J.o A);have kc3:=ZBn V.o (JvV v a (m:=m) (show m<n by have:=Z.o;omega));have kf3:=QxS V.o m;have hgl3:=(Vvr V.o rfl).2;have Xy:=hid (Y.o.trans A);clear A he);go_round
    case rel=>
     refine⟨m+1,by have:=Z.o;omega,⟨?_⟩,⟨?_⟩,by go_num⟩
     ·refine((Xy.o.touch (λi=>w.heap.size<=i)).setCell (a:=⟨g,m,none⟩) (λ_=>Xe) _ |>.mono (T:=λ_=>False) (λi hi h=>by omega)).gr
     ·have:=(World.ownsRow.stored V.o m (.int .u64 (y:Nat))).1;rw[HY.o,Z0I]at this;rw[HY.o];exact this
    case measure=>have:=Z.o;simp[intOf];omega
theorem Z5j(args:Array Value)(w:World):(callFunc 200 args).run prog w=.ok (.enter 200 args) w:=by kernel_rfl
theorem VVs(hV:QXZ w S q v){bA bT bH p f c n:Nat}{a t:Int}(hs:p+f+c<=255)(hn:n=1+p+f+c)
  (cA:Rec w bA 3 [.int .i64 a]) (cT:Rec w bT 3 [.int .i64 t]) (cH:Rec w bH 63 [.int .i64 p,.int .i64 f,.int .i64 c]) (nA:¬S bA) (nT:¬S bT)
  (hl:∀m:Nat,m<n->v.ldE (a+m)=0) (ht:∀m:Nat,m<n->v.ldE (t+m)=0):
  Calls prog 97 #[spV q,.func (.func 200) #[] #[.pointer (some ⟨bH,0,none⟩),.pointer (some ⟨bA,0,none⟩),.pointer (some ⟨bT,0,none⟩)]] w λe w'=>
   e=.returned (.agg #[.int .i64 0,.int .i64 0])/\XF4 S w w'/\QXZ w' S q (cpV v a t n):=by
 have V:(XEJ w (spV q)).heap.size=w.heap.size+2:=by unfold XEJ;rw[η,η]
 obtain⟨W0,Y⟩:∃W0,W0=Vlc (XEJ w (spV q)) (w.heap.size+1):=⟨_,rfl⟩;have hsz0:W0.heap.size=w.heap.size+5:=by rw[Y];unfold Vlc;rw[η,η,η,V]
 have g1:Gr w (XEJ w (spV q)):=((Gr.refl w).alloc _).alloc _;have g2:Gr (XEJ w (spV q)) W0:=by rw[Y];exact(((Gr.refl _).alloc _).alloc _).alloc _
 have g:Gr w W0:=g1.trans g2;have J:∀i,ZOk S w i->i<w.heap.size:=λi hi=>hi.2;have Z:=Q5n (b4:=w.heap.size+3) (S2:=ZOk S w) hs hn ((VS8 w (spV q)).gr g2) (hV.cut.gr g) (λi hi=>by have:=J i hi;omega) (λh=>by have:=J _ h;omega) (cA.gr g) (cT.gr g) (cH.gr g) (λh=>nA h.1) (λh=>nT h.1) hl ht
 have N:=Zfg (w:=w) (sp:=spV q) (q:=q) (F:=200) (caps:=#[.pointer (some ⟨bH,0,none⟩),.pointer (some ⟨bA,0,none⟩),.pointer (some ⟨bT,0,none⟩)]) ⟨_,_,rfl⟩ (Sx:=λi=>wkS W0 (w.heap.size+1) i\/ZOk S w i)
  (G:=cpG q (ZOk S w) v a t n) (H:=noH) Z5j (by rw[<-Y];exact Z)
  (λi h1 h2 h=>by
   rcases h with(h|h)|h
   ·omega
   ·omega
   ·have:=h.2;omega)
  (λh=>by
   rcases h with(h|h)|h
   ·omega
   ·omega
   ·exact absurd h.2 (ζN _))
  (λE a' v' l S' S2 w1 h=>h.elim)
 refine N.mono ?_;rintro e w' ⟨w2,fx,fy,⟨w1,U,hp⟩,rfl,rfl⟩;rw[<-Y]at U;rw[V]at hp;have I:∀(X:World) (T:XF4 (λi=>w.heap.size<=i\/S i) w X),XF4 S w X:=λX T=>T.mono (λi hi h=>h.resolve_left Ω)
 have T1:XF4 (λi=>w.heap.size<=i\/S i) w w1:=(g.touch _).trans' U (λi hi h=>by
  rcases h with(h|h)|h
  ·left;omega
  ·left;omega
  ·exact .inr h.1)
 rcases hp with⟨A,he,rfl⟩|⟨E,a',v',l,S',S2,hh,-⟩
 ·simp only[Ending.returned.injEq,Value.agg.injEq]at he;have D:fx=0/\fy=0:=by simpa using he
  obtain⟨rfl,rfl⟩:=D;have hT:=(((XF4.refl (λi=>w.heap.size<=i) w1).setCell (a:=⟨w.heap.size+2+1,0,none⟩) (λ_=>by show w.heap.size<=w.heap.size+2+1;omega) (.int .i64 0)).setCell (a:=⟨w.heap.size+2+1,1,none⟩) (λ_=>by show w.heap.size<=w.heap.size+2+1;omega) (.int .i64 0)).setCell (a:=⟨w.heap.size,0,none⟩) (λ_=>π _) (.int .i64 0) |>.setCell (a:=⟨w.heap.size,1,none⟩) (λ_=>π _) (.int .i64 0);exact⟨rfl,I _ (T1.trans (hT.mono (λi _ h=>.inl h))),(A.touch hT (λi hi _ h=>by have:=hi.2;omega)).mono (λi hi=>hi.1)⟩
 ·exact hh.elim
theorem Vb7(hV:QXZ w S q v){a t:Int}{n:Nat}(hr:v.rdE a=0)(hn:(n:Int)=v.osz a)(h0:0<t)(hl:∀m:Nat,m<n->v.ldE (a+m)=0)(ht:∀m:Nat,m<n->v.ldE (t+m)=0):
  Calls prog 165 #[spV q,.int .i64 a,.int .i64 t] w λe w'=>e=.returned (.int .i64 0)/\XF4 S w w'/\QXZ w' (plus S w) q (cpV v a t n):=by
 have hmf:∀(fn:Fn) (first cap:Array Value) (w:World),(Instr.makeFunc fn first cap).run prog w=.ok (.func fn first cap) w:=λ_ _ _ _=>rfl;have d0:decide (t<=0)=false:=ψ Ω;obtain⟨-,-,p,f,c,hh,hs⟩:=J7F hr
 have N:n=1+p+f+c:=by
  unfold Vm.osz at hn;rw[hh,show Z3o ⟨p,f,c⟩=1+(p:Int)+f+c from μ (JJj hs)]at hn;omega
 have X:=hid (λ(w':World) (g:Gr w w')=>ZkF (hV.gr g) a);rw[hr,hh]at X
 have Z:=hid (λ(W:World) (g:Gr w W) (bH:Nat) (cA:Rec W w.heap.size 3 [.int .i64 a]) (cT:Rec W (w.heap.size+1) 3 [.int .i64 t]) (cH:Rec W bH 63 [.int .i64 p,.int .i64 f,.int .i64 c])=>
  VVs (hV.cut.gr g) hs N cA cT cH (λh=>absurd h.2 (ζN _)) (λh=>by have:=h.2;omega) hl ht)
 have hfl:=X1o;unfold X79 at X;unfold spV at X Z⊢;clear hV hr hh hn N hl ht h0;go_enter func165,ntmps165
 go_wp2_with(first
  | (go_at_call 69;refine(X.o _ (((Gr.refl w).alloc _).alloc _)).mono ?_;rintro e w1 ⟨rfl,J⟩;have rt:=(Rec.new (w.alloc (.cells #[.int .i64 a] 3)) 3 [.int .i64 t]).gr J;rw[η]at rt;have kt:=rt.cc 0;have ktl:=rt.lt;have Y:=hid J;clear J rt)
  | (go_at_call 97;have cA:=(((Rec.new w 3 [.int .i64 a]).gr ((Gr.refl _).alloc _)).gr Y.o).gr ((Gr.refl w1).alloc (.cells #[.int .i64 p,.int .i64 f,.int .i64 c] 63));have cT:=((Rec.new (w.alloc (.cells #[.int .i64 a] 3)) 3 [.int .i64 t]).gr Y.o).gr ((Gr.refl w1).alloc (.cells #[.int .i64 p,.int .i64 f,.int .i64 c] 63));rw[η]at cT;have cH:=Rec.new w1 63 [.int .i64 p,.int .i64 f,.int .i64 c];refine(Z.o _ (((((Gr.refl w).alloc _).alloc _).trans Y.o).alloc _) _ cA cT cH).mono ?_;rintro e w2 ⟨rfl,V,U⟩;have I:=hid V;have E:=hid U;clear V U cA cH cT))
 go_ret;refine⟨rfl,((((((Gr.refl w).alloc _).alloc _).trans Y.o).alloc _).touch S).trans (I.o.mono (λi _ hi=>hi.1)),?_⟩;exact E.o.mono (λi hi=>.inl hi.1)
theorem QRl(hV:QXZ w S q v){a i:Int}(hp:v.plE a i 1=0){x:Nat}(hx:x<=2147483647):Calls prog 76 #[spV q,.int .i64 a,.int .i64 i,.int .i64 x] w λe w'=>e=.returned (.int .i64 (v.ldE (a+1+i)))/\XF4 S w w'/\QXZ w' (plus S w) q (v.st (a+1+i) x):=by
 have X:=hid (JNY hV a i 1 (by decide));have hA:v.plA a i 1=a+1+i:=μ hp;rw[hp,hA]at X;have n1:=QRb;have n2:=J76;have d0:decide ((x:Int)<0)=false:=ψ Ω;have d1:decide (2147483647<(x:Int))=false:=ψ Ω;have hw:IntKind.u64.wrap (x:Int)=(x:Int):=by rw[ξF];omega
 have U:=hid (λ(w':World) (g:Gr w w')=>Qpx (hV.cut.gr g) (a+1+i) (x:=x) Ω);generalize a+1+i=at' at X U⊢;unfold spV at X⊢;clear hV hp hA;go_enter func76,ntmps76
 go_wp2_with(first
  | (go_at_call 116;refine X.o.mono ?_;rintro e w1 ⟨rfl,Y⟩;have V:=hid Y;clear Y)
  | (go_at_call 177;refine(U.o _ V.o).mono ?_;rintro e w2 ⟨rfl,J,Z⟩;have N:=hid J;have I:=hid Z;clear J Z))
 go_ret;exact⟨rfl,(V.o.touch S).trans (N.o.mono (λi _ hi=>hi.1)),I.o.mono (λi hi=>.inl hi.1)⟩
end
end
section
open Go.RowKit
def J9K(v:Value):Option (DataW Value×List MemPlace):=some (.held v,[])
def YER(P:Program)(K:TypeId)(w:World)(b n:Nat)(f:Int->Option Value):Prop:=
 ∃D:DataW Value,w.ownsMap P K J9K b n D/\∀x:Int,(Lit.int .i64 x).wf=true->Maps.has D (.int .i64 x)=(f x).isSome/\∀v,f x=some v->∀z,D.atKey (.int .i64 x) z=.held v
section
variable {P:Program} {K:TypeId} {w:World} {b n:Nat} {f:Int->Option Value}
theorem YER.made(w:World):YER P K (w.alloc (.map #[] 0)) w.heap.size 0 (λ_=>none):=
 ⟨.map [],World.ownsMap_made _ _ _ _,λ_ _=>⟨rfl,λ_ h=>by cases h⟩⟩
theorem YER.lt(h:YER P K w b n f):b<w.heap.size:=by obtain⟨D,h,-⟩:=h;exact h.lt
theorem YER.touch{S:Nat->Prop}{w':World}(h:YER P K w b n f)(t:XF4 S w w')(hS:¬S b):YER P K w' b n f:=by
 obtain⟨D,h,hf⟩:=h;have Y:=h.lt;obtain⟨es,X,hb,r⟩:=h;exact⟨D,⟨es,X,(t.block b Y hS).trans hb,r⟩,hf⟩
theorem YER.gr{w':World}(h:YER P K w b n f)(t:Gr w w'):YER P K w' b n f:=h.touch (t.touch (λ_=>False)) (λh=>h)
theorem YER.congr(h:YER P K w b n f){g:Int->Option Value}(hg:∀x,f x=g x):YER P K w b n g:=by
 have:f=g:=funext hg;rw[<-this];exact h
theorem YER.ne{T:Nat}(h:YER P K w b n f){q:Nat}(hq:∃cs fr,w.heap[q]?=some (.cells cs T fr)):b≠q:=by
 rintro rfl;obtain⟨D,⟨es,clock,hb,-⟩,-⟩:=h;obtain⟨cs,fr,hq⟩:=hq;rw[hb]at hq;cases hq
theorem YER.look_ok(h:YER P K w b n f)(KI:Maps.Keyed P K){t e:TypeId}(ht:P.underlying t=some (.map K e))(hk:P.underlying K=some (.int .i64)){z:Value}(hz:(zeroValue e).run P w=.ok z w){x:Int}(hx:(Lit.int .i64 x).wf=true):
  (Instr.lookup t (.map (some b)) (.int .i64 x) true).run P w=.ok (.tuple #[(f x).getD z,.bool (f x).isSome]) w:=by
 obtain⟨D,hD,hf⟩:=h;obtain⟨v,ps,hr,hv⟩:=hD.look_ok KI ht hz (zd:=.held z) (zp:=[]) rfl (Maps.keyOf_int_mk hk hx);obtain⟨h1,h2⟩:=hf x hx;rw[hr,h1];unfold J9K at hv;simp only[Option.some.injEq,Prod.mk.injEq]at hv;cases hfx:f x with
 | none=>
  rw[hfx]at h1;have:=hv.1;rw[Maps.atKey_of_not_has h1]at this;simp only[DataW.held.injEq]at this;rw[this];rfl
 | some u=>
  have:=hv.1;rw[h2 u hfx]at this;simp only[DataW.held.injEq]at this;rw[this];rfl
theorem YER.look(h:YER P K w b n f)(KI:Maps.Keyed P K){t e:TypeId}(ht:P.underlying t=some (.map K e))(hk:P.underlying K=some (.int .i64)){z:Value}(hz:(zeroValue e).run P w=.ok z w){x:Int}(hx:(Lit.int .i64 x).wf=true):
  (Instr.lookup t (.map (some b)) (.int .i64 x) false).run P w=.ok ((f x).getD z) w:=by
 obtain⟨D,hD,hf⟩:=h;obtain⟨v,ps,hr,hv⟩:=hD.lookup KI ht hz (zd:=.held z) (zp:=[]) rfl (Maps.keyOf_int_mk hk hx);obtain⟨h1,h2⟩:=hf x hx;rw[hr];unfold J9K at hv;simp only[Option.some.injEq,Prod.mk.injEq]at hv;cases hfx:f x with
 | none=>
  rw[hfx]at h1;have:=hv.1;rw[Maps.atKey_of_not_has h1]at this;simp only[DataW.held.injEq]at this;rw[this];rfl
 | some u=>
  have:=hv.1;rw[h2 u hfx]at this;simp only[DataW.held.injEq]at this;rw[this];rfl
end
theorem X9l{P:Program}(w:World){ops:Array Oper}{rest:List Oper}{o:Oper}{a:Act}{Q:Exit->Act->World->Prop}
  (hg:o.guard=none) (m x v:Operand) (t:TypeId) (hop:o.op=Op.mapUpdate t m x v)
  (k e:TypeId) (K:Maps.Keyed P k) (ht:P.underlying t=some (.map k e)) (hk:P.underlying k=some (.int .i64)) (b n:Nat) (f:Int->Option Value)
  (hm:a.eval m=.map (some b)) (hown:YER P k w b n f) (hn:n<maxLen) (key:Int) (val:Value) (hx:a.eval x=.int .i64 key) (hv:a.eval v=val) (hw:(Lit.int .i64 key).wf=true)
  (hK:∀w',YER P k w' b (n+1) (λy=>if y=key then some val else f y)->XF4 (λi=>i=b) w w'->wpList P ops Q rest (a.put o.dst undef) w'):
  wpList P ops Q (o :: rest) a w:=by
 obtain⟨D,hD,hf⟩:=hown;have X:=Maps.keyOf_int_mk (P:=P) hk hw;refine wpList_mapUpdate_own w hg m x v t hop k e K ht J9K b n D hm hD hn (.int .i64 key) val _ hx hv X (.held val) [] rfl λw' h1 h2=>?_;refine hK w' ⟨_,h1,λy hy=>?_⟩ (VxQ h2 _ (λi hi _=>by cases hi;rfl));by_cases e:y=key
 ·subst e;dsimp only;rw[μ rfl];refine⟨Maps.has_put_same hD.isMap (K.key X) _,λv hv z=>?_⟩;cases hv;exact Maps.atKey_put_same hD.isMap (K.key X) _ _
 ·dsimp only;rw[ϑ e];have Y:(Lit.int .i64 y)≠.int .i64 key:=λh=>e (by injection h);exact⟨(Maps.has_put_other Y _).trans (hf y hy).1,λv hv z=>(Maps.atKey_put_other Y _ _).trans ((hf y hy).2 v hv z)⟩
end
section
open Go.RowKit Word
theorem YqT(w:World):(zeroValue 3).run prog w=.ok (.int .i64 0) w:=by kernel_rfl
theorem JKr:Maps.Keyed prog 3:=Maps.int_keyed underlying3
def VZL(v:Vm)(O:List Int)(to:Int)(x:Int):Option Value:=if x∈O then some (.int .i64 (ZQE v O to x))else none
structure CpS(v:Vm)(rs:List Int)(L:List Ob)(to:Nat)(O:List Int)(k i:Nat)(v':Vm):Prop where
 nd:O.Nodup
 rch:∀a∈O,Rch v rs a
 cp:Cpd v v' to O k i
 kn:XaG v O k i
 lt:k<O.length\/(k=O.length/\i=0)
structure Ynt(w:World)(S:Nat->Prop)(K M q:Nat)(v:Vm)(to:Nat)(O:List Int)(v':Vm):Prop where
 rc:Rec w K 206 [.pointer (some ⟨q,0,none⟩),.map (some M),.int .i64 ((to:Int)+Xmc v O)]
 mp:YER prog 3 w M O.length (VZL v O to)
 vm:QXZ w S q v'
 nK:¬S K
 nM:¬S M
theorem Ynt.gr{w w':World}{S:Nat->Prop}{K M q:Nat}{v:Vm}{to:Nat}{O:List Int}{v':Vm}(h:Ynt w S K M q v to O v')(g:Gr w w'):Ynt w' S K M q v to O v':=
 ⟨h.rc.gr g,h.mp.gr g,h.vm.gr g,h.nK,h.nM⟩
theorem JME{w:World}{q T:Nat}{xs:List Value}(h:Rec w q T xs):∃cs fr,w.heap[q]?=some (.cells cs T fr):=by
 obtain⟨X,h1⟩:=QiW h rfl;exact⟨X,_,h1⟩
theorem Ynt.ne{w:World}{S:Nat->Prop}{K M q:Nat}{v:Vm}{to:Nat}{O:List Int}{v':Vm}(h:Ynt w S K M q v to O v'):M≠K:=h.mp.ne (JME h.rc)
def Qaa(w:World)(S:Nat->Prop)(K M q:Nat)(v:Vm)(rs:List Int)(L:List Ob)(to:Nat)(O:List Int)(k i:Nat)(a:Int)(e:Ending)(w':World):Prop:=
 ∃v'',e=.returned (.int .i64 (ZQE v (Yfl O a) to a))/\XF4 (λb=>(b=K\/b=M)\/S b) w w'/\Ynt w' (plus S w) K M q v to (Yfl O a) v''/\CpS v rs L to (Yfl O a) k i v''
section
variable {w:World} {S:Nat->Prop} {K M q:Nat} {v v':Vm} {rs:List Int} {L:List Ob} {to:Nat} {O:List Int} {k i:Nat}
theorem Ynt.plus{w0:World}(h:Ynt w S K M q v to O v')(hz:K<w0.heap.size/\M<w0.heap.size):Ynt w (plus S w0) K M q v to O v':=
 ⟨h.rc,h.mp,h.vm.mono (λ_ h=>.inl h),λh'=>h'.elim h.nK (λh=>absurd hz.1 (ξi h)),λh'=>h'.elim h.nM (λh=>absurd hz.2 (ξi h))⟩
theorem Ynt.lt(h:Ynt w S K M q v to O v'):K<w.heap.size/\M<w.heap.size:=⟨h.rc.lt,h.mp.lt⟩
theorem VYh(h:Ynt w S K M q v to O v'){a:Int}(ha:-9223372036854775808<=a/\a<=9223372036854775807):
  (Instr.lookup 119 (.map (some M)) (.int .i64 a) true).run prog w=.ok (.tuple #[.int .i64 (if a∈O then ZQE v O to a else 0),.bool (decide (a∈O))]) w:=by
 rw[h.mp.look_ok JKr underlying119 underlying3 (YqT w) (WalkArith.wf_i64 ha)];unfold VZL;by_cases hm:a∈O
 ·simp[hm]
 ·simp[hm]
theorem CpS.zero(c:ZrG v rs L to)(h:CpS v rs L to O k i v'):(0:Int)∉O:=λhm=>by
 have:=(QXB (c.mks.sound.rd _ (h.rch 0 hm))).1;omega
theorem Zz2(hC:Ynt w S K M q v to O v')(c:ZrG v rs L to)(hf:XKC v L)(hs:CpS v rs L to O k i v'){a:Nat}(ha:a=0\/Rch v rs a)(ha2:a<=2147483647):
  Calls prog 124 #[.pointer (some ⟨K,0,none⟩),.int .i64 a] w (Qaa w S K M q v rs L to O k i a):=by
 have Xs:=hs.zero c;have HC:=hid hC;have HS:=hid hs;by_cases h0:a=0
 ·subst h0;have X:Yfl O ((0:Nat):Int)=O:=μ (.inl rfl)
  have hE:Hid (Qaa w S K M q v rs L to O k i ((0:Nat):Int) (.returned (.int .i64 0)) w):=⟨by
   refine⟨v',?_,XF4.refl _ _,?_,?_⟩
   ·rw[X,show ZQE v O to ((0:Nat):Int)=0 from YPv v _ Xs]
   ·rw[X];exact hC.plus hC.lt
   ·rw[X];exact hs⟩
  clear hC c hf hs ha X;go_enter func124,ntmps124;go_wp2;go_ret;exact hE.o
 ·have d0:((a:Int)==0)=false:=by simp;omega
  have Xf:=VYh hC (a:=a) Ω;have c1:=hC.rc.cc 1;by_cases hm:(a:Int)∈O
  ·have X:Yfl O (a:Int)=O:=μ (.inr hm);rw[μ hm,κ hm]at Xf
   have hE:Hid (Qaa w S K M q v rs L to O k i (a:Int) (.returned (.int .i64 (ZQE v O to a))) w):=⟨by
    refine⟨v',?_,XF4.refl _ _,?_,?_⟩
    ·rw[X]
    ·rw[X];exact hC.plus hC.lt
    ·rw[X];exact hs⟩
   clear hC c hf hs ha X hm h0;generalize ZQE v O to a=y at *
   go_enter func124,ntmps124;go_wp2;go_ret;exact hE.o
  ·have X:Yfl O (a:Int)=O++[(a:Int)]:=ϑ (λh=>h.elim Ω hm);rw[ϑ hm,ψ hm]at Xf;have hr:=ha.resolve_left h0;obtain⟨q1,q2,q3,q4⟩:=c.same hf hs.nd hs.rch hs.cp hr;have D:v'.osz a=v.osz a:=by unfold Vm.osz;rw[q3]
   obtain⟨-,-,p,f,cc,hh,Ye⟩:=J7F q2;have hp:=QXB q2;obtain⟨z,hz⟩:∃z:Nat,(z:Int)=v.osz a:=⟨(v.osz a).toNat,by omega⟩;obtain⟨t1,t2,t3,t4⟩:=Cpd.take c hf hs.nd hs.rch hs.cp hs.kn hs.lt hr hm z hz;obtain⟨tp,V⟩:∃tp:Nat,(tp:Int)=to+Xmc v O:=⟨((to:Int)+Xmc v O).toNat,by have:=YB0 v O;omega⟩;rw[<-V]at t1 t2 t3;have c0:=hC.rc.cc 0;have c2:=hC.rc.cc 2;rw[<-V]at c2;have hn2:=c.ok.n2;have hpos:=c.pos;have Yb:=YB0 v O;have G:=hid (λ(W:World) (g:Gr w W)=>ZkF (hC.vm.gr g) (a:Int));rw[q2,hh]at G;have hN:Z3o ⟨p,f,cc⟩=(z:Int):=by rw[hz,<-D];unfold Vm.osz;rw[hh]
   have Xd:=hid (λW=>ZUg ⟨p,f,cc⟩ W);rw[hN]at Xd;have Xl:=hid (λ(W:World) (g:Gr w W)=>Vb7 (hC.vm.cut.gr g) (a:=a) (t:=tp) (n:=z) q2 (by rw[hz,D]) Ω (λm hm=>(q4 m Ω).1) t1)
   have Xc:Hid (ZQE v (O++[(a:Int)]) to a=tp/\(to:Int)+Xmc v (O++[(a:Int)])=(tp:Int)+z):=⟨by
    rw[QDm v _ _ hm,J7B];refine⟨?_,?_⟩
    ·rw[V];exact μ rfl
    ·simp only[Xmc];omega⟩
   have Xt:Hid (CpS v rs L to (O++[(a:Int)]) k i (cpV v' a tp z)):=⟨⟨by
     have:=QE5 hs.nd (a:Int);rwa [X]at this,λb hb=>by
     rcases ζj.1 hb with hb|hb
     ·exact hs.rch b hb
     ·rw[ζs.1 hb];exact hr,t3,t4,by
     rw[ζk,ζ5];rcases hs.lt with h|h <;> left <;> omega⟩⟩
   have Xk:O.length<9223372036854775807:=by
    have h1:=c.sum hs.nd hs.rch
    have h2:(O.length:Int)<=Xmc v O:=by
     have:∀l:List Int,(∀b∈l,Rch v rs b)->(l.length:Int)<=Xmc v l:=λl=>by
      induction l with
      | nil=>intro _;exact ξU _
      | cons b r ih=>
       intro hl;have:=ih (λx hx=>hl x (ζo _ hx));have:=(QXB (c.mks.sound.rd _ (hl b (ζg ..)))).2.1;simp only[Xmc,ζU];push_cast;omega
     exact this O hs.rch
    have:=c.top;omega
   have HLK:=hid Xf;have J:=hid X;have Xh:=hid V;have B:=hid hC.lt;have Yc:Hid (O.length<maxLen):=⟨Xk⟩;have Xz:Hid ((Lit.int .i64 (a:Int)).wf=true):=⟨WalkArith.wf_i64 Ω⟩
   have Xu:Hid (∀y:Int,(if y=(a:Int)then some (Value.int .i64 tp)else VZL v O to y)=VZL v (O++[(a:Int)]) to y):=⟨λy=>by
    unfold VZL;by_cases e:y=(a:Int)
    ·rw[μ e,μ (by rw[e];simp),e,Xc.o.1]
    ·rw[ϑ e];by_cases hy:y∈O
     ·rw[μ hy,μ (ξh _ hy),YAF v _ _ hy]
     ·rw[ϑ hy,ϑ (λh=>(ζj.1 h).elim hy (λh=>e (ζs.1 h)))]⟩
   have Xj:=hid hC.ne;have HMEM:=hid hm;unfold X79 at G Xd;unfold spV at G Xl;have hKl:=hC.lt;clear hC c hf hs ha X hm h0 hr q1 q2 q3 q4 D hh Ye hp hz t1 t3 t4 V hN Xs Yb Xk;go_enter func124,ntmps124
   go_upto_region 10 with(first
    | (go_at_call 69;refine(G.o _ (Gr.refl w)).mono ?_;rintro e w1 ⟨rfl,Xe⟩;have U:=hid Xe;have N:=hid (HC.o.rc.gr Xe);have x0:=N.o.cc 0;have x1:=N.o.cc 1;have x2:=N.o.cc 2;rw[<-Xh.o]at x2;have xl:=N.o.lt;clear Xe)
    | (go_at_call 165;refine(Xl.o _ (U.o.alloc _)).mono ?_;rintro e w2 ⟨rfl,E,Xr⟩;have Xv:=hid E;have Xy:=hid Xr;have I:=hid ((N.o.gr ((Gr.refl w1).alloc (.cells #[.int .i64 p,.int .i64 f,.int .i64 cc] 63))).touch E (λh=>HC.o.nK h.1));have Xx:=hid ((HC.o.mp.gr (U.o.alloc (.cells #[.int .i64 p,.int .i64 f,.int .i64 cc] 63))).touch E (λh=>HC.o.nM h.1));have Xw:=hid ((Rec.new w1 63 [.int .i64 p,.int .i64 f,.int .i64 cc]).touch E (λh=>by have h1:=h.2;have h2:=U.o.size;omega));have y0:=I.o.cc 0;have y1:=I.o.cc 1;have y2:=I.o.cc 2;rw[<-Xh.o]at y2;have yl:=I.o.lt;clear E Xr)
    | (at_mapUpdate;refine X9l _ rfl _ _ _ 119 rfl 3 3 JKr underlying119 underlying3 M O.length (VZL v O to) rfl Xx.o Yc.o (a:Int) (.int .i64 tp) rfl rfl Xz.o ?_;intro w3 Xq Xa;have Ya:=hid (Xq.congr Xu.o);have Xn:=hid Xa;have A:=hid (I.o.touch Xa (λh=>Xj.o h.symm));have Xb:=hid (Xw.o.touch Xa (λh=>by have h1:=B.o.2;have h2:=U.o.size;omega));clear Xq Xa))
   have u2:=A.o.cc 2;rw[<-Xh.o]at u2;have uf:=A.o.free 2;have ul:=A.o.lt;have e0:=Xb.o.cc 0;have e1:=Xb.o.cc 1;have e2:=Xb.o.cc 2;have el:=Xb.o.lt;obtain⟨hb,Xo⟩:∃hb,hb=w1.heap.size:=⟨_,rfl⟩;rw[<-Xo]at e0 e1 e2 el⊢;clear Xo
   have KS:Hid (∀W',Gr w3 W'->(W'.cell? ⟨K,2,none⟩=some (.int .i64 tp)/\W'.cell? ⟨hb,0,none⟩=some (.int .i64 p))/\W'.cell? ⟨hb,1,none⟩=some (.int .i64 f)/\W'.cell? ⟨hb,2,none⟩=some (.int .i64 cc)):=
    ⟨λW' h=>⟨⟨(h.cell ul 2).trans u2,(h.cell el 0).trans e0⟩,(h.cell el 1).trans e1,(h.cell el 2).trans e2⟩⟩
   obtain⟨Sx,Z⟩:∃Sx:World->Prop,Sx=λW'=>Gr w3 W':=⟨_,rfl⟩;have z1:∀p':ZJV Sx,p'.w.cell? ⟨K,2,none⟩=some (.int .i64 tp):=λp=>(KS.o _ (ZJV.get Z p)).1.1;have z2:∀p':ZJV Sx,p'.w.cell? ⟨hb,0,none⟩=some (.int .i64 p):=λp=>(KS.o _ (ZJV.get Z p)).1.2;have z3:∀p':ZJV Sx,p'.w.cell? ⟨hb,1,none⟩=some (.int .i64 f):=λp=>(KS.o _ (ZJV.get Z p)).2.1;have z4:∀p':ZJV Sx,p'.w.cell? ⟨hb,2,none⟩=some (.int .i64 cc):=λp=>(KS.o _ (ZJV.get Z p)).2.2;have Xg:Sx w3.drew:=by rw[Z];exact(Gr.refl w3).drew
   have Yd:=hid Z;have Xi:Inhabited (ZJV Sx):=⟨⟨_,Xg⟩⟩;clear Z x0 x1 x2 xl y0 y1 y2 yl c0 c1 c2 e0 e1 e2 el;simp only[Act.put];refine Vv2 Sx 9 [([0,1,2,3,4],5),([6,7,8],9)] [] (by kernel_rfl) (by kernel_rfl) Xg ?_;refine XGW ?_;simp only[XZy,ζ,ξ]
   repeat(go_big_quiet_step (fail))
   refine θ ?_;go_wp2_with(go_at_call 58;refine(Xd.o _).mono ?_;rintro e w4 ⟨rfl,Xp⟩;have Y:=hid ((Gr.refl w3).drew.trans Xp);have uf4:=(Y.o.frozen ul 2).trans uf;have u4:=(Y.o.cell ul 2).trans u2;clear Xp);refine⟨.inr (ZJV.of (by rw[Yd.o];exact Y.o)),?_⟩;refine XGW ?_;simp only[XZy,ζ,ξ]
   repeat(go_big_quiet_step (fail))
   refine θ ?_;go_wp2;refine⟨.inl trivial,?_⟩;refine Z9U ?_;refine θ ?_;refine β ?_;clear z1 z2 z3 z4 Xg Xi;go_wp2;go_ret;have hz1:=U.o.size;have T3:XF4 (λb=>(b=K\/b=M)\/S b) w w3:=(((U.o.alloc _).touch _).trans (Xv.o.mono (λb _ h=>.inr h.1))).trans (Xn.o.mono (λb _ h=>.inl (.inr h)));have T5:=(T3.trans (Y.o.touch _)).setCell (a:=⟨K,2,none⟩) (λ_=>.inl (.inl rfl)) (.int .i64 ((tp:Int)+z));have tK:=(XF4.refl (λb=>b=K) w4).setCell (a:=⟨K,2,none⟩) (λ_=>rfl) (.int .i64 ((tp:Int)+z))
   have Xm:∀b,(b=K\/b=M)->¬plus (ZOk S w) (w1.alloc (.cells #[.int .i64 p,.int .i64 f,.int .i64 cc] 63)) b:=λb hb h=>by
    rw[plus,η]at h;have:=B.o;rcases hb with rfl|rfl
    ·rcases h with h|h
     ·exact HC.o.nK h.1
     ·omega
    ·rcases h with h|h
     ·exact HC.o.nM h.1
     ·omega
   refine⟨cpV v' a tp z,?_,T5,⟨?_,?_,?_,?_,?_⟩,?_⟩
   ·rw[J.o,Xc.o.1];rfl
   ·rw[J.o,Xc.o.2];exact(A.o.gr Y.o).set 2 (.int .i64 ((tp:Int)+z))
   ·rw[J.o,ζk,ζ5];exact(Ya.o.gr Y.o).touch tK Xj.o
   ·exact((((Xy.o.touch Xn.o (λb hb _ e=>Xm b (.inr e) hb)).gr Y.o).touch tK (λb hb _ e=>Xm b (.inl e) hb))).mono (λb hb=>by
     rcases hb with h|h
     ·exact .inl h.1
     ·rw[η]at h;right;omega)
   ·exact λh=>h.elim HC.o.nK (λh=>by have:=B.o.1;omega)
   ·exact λh=>h.elim HC.o.nM (λh=>by have:=B.o.2;omega)
   ·rw[J.o];exact Xt.o
end
end
section
open Go.RowKit Word
structure QRU(w wr:World)(S Si:Nat->Prop)(K M q hb:Nat)(v:Vm)(rs:List Int)(L:List Ob)(to:Nat)(O:List Int)(k:Nat)(ob:Int)(p f c i:Nat)(Oi:List Int)(vi:Vm):Prop where
 cat:Ynt wr Si K M q v to Oi vi
 st:CpS v rs L to Oi k i vi
 oi:Oi=X4e O ((X7I v ob).take i)
 sub:∀b,Si b->plus S w b
 rh:Rec wr hb 63 [.int .i64 p,.int .i64 f,.int .i64 c]
 nh:¬Si hb
 lh:w.heap.size<=hb
 t:XF4 (λb=>(b=K\/b=M)\/S b) w wr
def Y7m(w:World)(S:Nat->Prop)(K M q:Nat)(v:Vm)(rs:List Int)(L:List Ob)(to:Nat)(O:List Int)(k:Nat)(e:Ending)(w':World):Prop:=
 ∃v'',e=.returned (.int .i64 ((to:Int)+Xmc v (O.take (k+1))))/\XF4 (λb=>(b=K\/b=M)\/S b) w w'/\Ynt w' (plus S w) K M q v to (X4e O (X7I v (O.getD k 0))) v''/\CpS v rs L to (X4e O (X7I v (O.getD k 0))) (k+1) 0 v''
theorem V37{l:List Int}{i:Nat}(h:i<l.length):l.take (i+1)=l.take i++[l[i]]:=by rw[List.take_add_one,δ h];rfl
section
variable {w:World} {S:Nat->Prop} {K M q:Nat} {v v':Vm} {rs:List Int} {L:List Ob} {to:Nat} {O:List Int} {k i:Nat}
theorem YCT{l:List Int}{j:Nat}(hj:j<l.length)(a:Int):∃h:j<(Yfl l a).length,(Yfl l a)[j]=l[j]/\(Yfl l a).take j=l.take j:=by
 obtain⟨Y,hY⟩:=XTn l a;refine⟨by rw[hY,ζk];omega,?_,by rw[hY,ξk (Nat.le_of_lt hj)]⟩;simp only[hY,ζI hj]
theorem CpS.field(c:ZrG v rs L to)(hs:CpS v rs L to O k i v'){l:List Int}{j:Nat}(hj:j<l.length){b:Int}(hO:O=Yfl l b){a t:Int}(ha:l[j]=a)(ht:t=to+Xmc v (l.take j)){m:Nat}(hm:(m:Int)<(v.rdH a).p):
  v'.plE t m 1=0/\v'.ldE (t+1+m)=0:=by
 obtain⟨h1,h2,h3⟩:=YCT hj b;subst hO;have:=(Cpd.copy c hs.nd hs.rch hs.cp h1 (t:=t) (by rw[h3];exact ht)).2.2.2 m;rw[h2,ha]at this;exact this hm
theorem ZQS(hC:Ynt w S K M q v to O v')(c:ZrG v rs L to)(hf:XKC v L)(hs:CpS v rs L to O k 0 v')(hk:k<O.length):
  Calls prog 125 #[.pointer (some ⟨K,0,none⟩),.int .i64 ((to:Int)+Xmc v (O.take k))] w (Y7m w S K M q v rs L to O k):=by
 obtain⟨ob,Ya⟩:∃ob,ob=O.getD k 0:=⟨_,rfl⟩;have V:O[k]=ob:=by rw[Ya,φ,δ hk];rfl
 obtain⟨t,ht⟩:∃t:Nat,(t:Int)=to+Xmc v (O.take k):=⟨((to:Int)+Xmc v (O.take k)).toNat,by have:=YB0 v (O.take k);omega⟩;have hr:=hs.rch _ (χ hk);rw[V]at hr;have Yw:=c.mks.sound.rd _ hr;obtain⟨-,-,p,f,cc,hh,Yg⟩:=J7F Yw;have Xp:v.osz ob=((1+p+f+cc:Nat):Int):=by unfold Vm.osz;rw[hh,show Z3o ⟨p,f,cc⟩=1+(p:Int)+f+cc from μ (JJj Yg)];push_cast;rfl
 have E:=Cpd.copy c hs.nd hs.rch hs.cp hk ht;rw[V]at E;have Xf:=hid (λ(W:World) (g:Gr w W)=>ZkF (hC.vm.gr g) (t:Int));rw[E.1,E.2.1,hh]at Xf;have Xr:=hid (λW=>ZUg ⟨p,f,cc⟩ W);rw[show Z3o ⟨p,f,cc⟩=1+(p:Int)+f+cc from μ (JJj Yg)]at Xr;have B:(X7I v ob).length=p:=by rw[JjJ,hh];rfl
 have Xn:(to:Int)+Xmc v (O.take (k+1))=(t:Int)+(1+p+f+cc):=by
  rw[VZm v hk,V,Xp,ht];push_cast;omega
 have J:(t:Int)+(1+p+f+cc)<=v.n:=by
  have h1:=c.sum hs.nd hs.rch;have h2:=ZWV v O (k+1);have:=c.top;omega
 have hn2:=c.ok.n2;have c0:=hC.rc.cc 0;have HC:=hid hC;have HS:=hid hs;have Z:=hid (ν c hf);have N:=hid (ν Ya (ν (show ∀h:k<O.length,O[k]=ob from λ_=>V) (ν hr (ν hh (ν Yg B)))));have HK:=hid hk;have HT:=hid ht;have Yv:=hid Xn;have Ym:=hC.lt;rw[<-ht];have hplast:p<=255:=Ω
 unfold X79 at Xf Xr;unfold spV at Xf;clear hC hs c hf Ya V hr Yw hh Xp E B Xn ht hk;go_enter func125,ntmps125
 go_upto_region 2 with(first
  | (go_at_call 69;refine(Xf.o _ (Gr.refl w)).mono ?_;rintro e w1 ⟨rfl,Yl⟩;have Xb:=hid Yl;have Yh:=hid (Rec.new w1 63 [.int .i64 p,.int .i64 f,.int .i64 cc]);clear Yl))
 have e0:=Yh.o.cc 0;have el:=Yh.o.lt;have Zi:=Xb.o.size
 have Ye:Hid (QRU w (w1.alloc (.cells #[.int .i64 p,.int .i64 f,.int .i64 cc] 63)) S (ZOk S w) K M q w1.heap.size v rs L to O k ob p f cc 0 O v'):=⟨
  ⟨⟨(HC.o.gr (Xb.o.alloc _)).rc,(HC.o.gr (Xb.o.alloc _)).mp,(HC.o.vm.cut.gr (Xb.o.alloc _)),λh=>HC.o.nK h.1,λh=>HC.o.nM h.1⟩,HS.o,by simp[X4e],λb hb=>.inl hb.1,Yh.o,λh=>by have:=h.2;omega,Zi,(Xb.o.alloc _).touch _⟩⟩
 obtain⟨hb,Yq⟩:∃hb,hb=w1.heap.size:=⟨_,rfl⟩;rw[<-Yq]at e0 el Ye⊢;clear Yq;go_wp2
 go_loopw [22] (λs22 wr=>∃(i:Nat) (Oi:List Int) (vi:Vm) (Si:Nat->Prop),i<=p/\Hid (QRU w wr S Si K M q hb v rs L to O k ob p f cc i Oi vi)/\s22=.int .i64 i) (λs22 _=>p-(intOf s22).toNat)
 case atStart=>exact⟨0,O,v',_,by omega,Ye,rfl⟩
 case round=>
  obtain⟨i,Oi,vi,Si,hi,HI,rfl⟩:=hrel;clear e0 el Ye c0;obtain⟨X,hX⟩:=XlQ O ((X7I v ob).take i);rw[<-HI.o.oi]at hX;have D:k<Oi.length:=by rw[hX,ζk];have:=HK.o;omega
  have Xc:Oi[k]=ob:=by
   have:=N.o.2.1 HK.o;simp only[hX,ζI HK.o];exact this
  have Xg:(t:Int)=to+Xmc v (Oi.take k):=by rw[HT.o,hX,ξk (Nat.le_of_lt HK.o)]
  by_cases J:i=p
  ·subst J;have x0:=HI.o.rh.cc 0;have x1:=HI.o.rh.cc 1;have x2:=HI.o.rh.cc 2;have Yp:=Cpd.next HI.o.st.cp HI.o.st.kn D (by rw[Xc,N.o.2.2.2.1])
   have Yx:Oi=X4e O (X7I v (O.getD k 0)):=by rw[<-N.o.1,HI.o.oi,ψb (by rw[N.o.2.2.2.2.2];exact π _)]
   have Ze:=hid Yp;have Yu:=hid Yx;have Y:=hid D;clear Yp Yx hX D Xc Xg;go_wp2_with(go_at_call 58;refine(Xr.o _).mono ?_;rintro e w3 ⟨rfl,Yz⟩;have Zc:=hid Yz;clear Yz);go_ret;have hc:=HI.o.cat.gr Zc.o;refine⟨vi,?_,HI.o.t.trans (Zc.o.touch _),?_,?_⟩
   ·rw[Yv.o];rfl
   ·rw[<-Yu.o];exact⟨hc.rc,hc.mp,hc.vm.mono HI.o.sub,λh=>h.elim HC.o.nK (λh=>by have:=Ym.1;omega),λh=>h.elim HC.o.nM (λh=>by have:=Ym.2;omega)⟩
   ·rw[<-Yu.o];exact⟨HI.o.st.nd,HI.o.st.rch,Ze.o.1,Ze.o.2,by have:=Y.o;omega⟩
  ·have Xz:=Cpd.copy Z.o.1 HI.o.st.nd HI.o.st.rch HI.o.st.cp D Xg;rw[Xc]at Xz;have Xe:(i:Int)<(v.rdH ob).p:=by rw[N.o.2.2.2.1];show (i:Int)<(p:Int);omega
   obtain⟨Yn,Ys⟩:=Xz.2.2.1 rfl i (π _) Xe;have Yb:=Z.o.1.mks.sound.pt _ N.o.2.2.1 i Xe;have Xh:=ZbX Yb;have Xj:=hid (λ(W:World) (g:Gr wr W)=>ZZi (HI.o.cat.vm.gr g) (t:Int) i);rw[Yn,Ys]at Xj;have Xt:i<(X7I v ob).length:=by rw[N.o.2.2.2.2.2];omega
   have Yy:=YxN v ob Xt;have Xl:=V37 Xt;rw[Yy]at Xl
   have Xk:v.ldV (ob+1+i)=0\/Rch v rs (v.ldV (ob+1+i):Nat):=by
    by_cases h0:v.ldV (ob+1+i)=0
    ·exact .inl h0
    ·right;have hh:=N.o.2.2.1;exact hh.step ⟨Z.o.1.mks.sound.rd _ hh,i,Xe,Yb,by rw[Xh.1];exact h0,by rw[Xh.1]⟩
   have Xw:=Xh.2.1;obtain⟨pv,A⟩:∃pv,pv=v.ldV (ob+1+i):=⟨_,rfl⟩;rw[<-A]at Xj Xl Xk Xw;have Xo:=QE5 HI.o.st.nd (pv:Int)
   have I:∀b∈Yfl Oi (pv:Int),Rch v rs b:=λb hb=>by
    rcases Q9S.1 hb with h|⟨rfl,h0⟩
    ·exact HI.o.st.rch b h
    ·exact Xk.resolve_left Ω
   obtain⟨xN,Xu,Yr⟩:∃xN:Nat,(xN:Int)=ZQE v (Yfl Oi (pv:Int)) to pv/\xN<=2147483647:=by
    by_cases h0:pv=0
    ·refine⟨0,?_,by omega⟩;rw[h0,YPv v _ (λh=>by have:=(QXB (Z.o.1.mks.sound.rd _ (I _ (by rw[h0];exact h)))).1;omega)];rfl
    ·have h1:=VEW v (to:Int) (Q9S (O:=Oi).2 (.inr ⟨rfl,(by omega:(pv:Int)≠0)⟩));have h2:=Z.o.1.sum Xo I;have h3:=Z.o.1.top;have h4:=QCw v (pv:Int);exact⟨(ZQE v (Yfl Oi (pv:Int)) to pv).toNat,by omega,by omega⟩
   have Yd:=hid (λ(W:World) (g:Gr wr W)=>Zz2 (HI.o.cat.gr g) Z.o.1 Z.o.2 HI.o.st Xk Xw);unfold Qaa at Yd;rw[<-Xu]at Yd;have Xm:=hid A;have Yc:=hid (ν Xu Yr);have Zg:=hid Xl;have Y:=hid (ν D (ν Xg (ν hX (show ∀h:k<Oi.length,Oi[k]=ob from λ_=>Xc))));have Zb:=hid Xe;have y0:=HI.o.cat.rc.cc 0;have yl:=HI.o.cat.rc.lt;have x0:=HI.o.rh.cc 0;have Xq:=hid J;have hiI:(i:Int)<(p:Int):=Ω
   have Zf:=HI.o.rh.lt;unfold spV at Xj;clear Xz Xe Yn Ys Yb Xh Xt Yy Xl Xk Xw A Xo I Xu Yr D Xg hX Xc J;go_upto_region 6 with(go_at_call 74;refine(Xj.o _ (Gr.refl _)).mono ?_;rintro e w2 ⟨rfl,Xy⟩;have Xd:=hid Xy;have Yf:=(Xy.cell yl 0).trans y0;clear Xy);have KS:Hid (∀W',Gr w2 W'->W'.cell? ⟨K,0,none⟩=some (.pointer (some ⟨q,0,none⟩))):=⟨λW' h=>(h.cell (ω yl Xd.o.size) 0).trans Yf⟩;obtain⟨Sx,Xi⟩:∃Sx:World->Prop,Sx=λW'=>W'.cell? ⟨K,0,none⟩=some (.pointer (some ⟨q,0,none⟩)):=⟨_,rfl⟩;have z1:∀p':ZJV Sx,p'.w.cell? ⟨K,0,none⟩=some (.pointer (some ⟨q,0,none⟩)):=λp=>ZJV.get Xi p;have Xx:Sx w2.drew:=by rw[Xi];exact Yf
   have Zj:=hid Xi;have Yj:Inhabited (ZJV Sx):=⟨⟨_,Xx⟩⟩;clear Xi y0 Yf x0 Zf;refine Vv2 Sx 10 [([0,1,2,3,4,5,6,7,8],9),([],10)] [] (by kernel_rfl) (by kernel_rfl) Xx ?_;refine XGW ?_;simp only[XZy,ζ,ξ]
   repeat(go_big_quiet_step (fail))
   refine θ ?_;go_wp2_with(go_at_call 124;refine(Yd.o _ Xd.o.drew).mono ?_;rintro e w3 ⟨v2,rfl,Yt,Xs,Yi⟩;have Xv:=hid Yt;have U:=hid Xs;have G:=hid Yi;have Zh:=hid (CpS.field Z.o.1 Yi Y.o.1 rfl (Y.o.2.2.2 Y.o.1) Y.o.2.1 Zb.o);have u0:=Xs.rc.cc 0;clear Yt Xs Yi);refine⟨.inr (ZJV.of (by rw[Zj.o];exact u0)),?_⟩;refine XGW ?_;simp only[XZy,ζ,ξ];refine θ ?_;go_wp2_with(go_at_call 76;have Zd:=QRl U.o.vm Zh.o.1 Yc.o.2;unfold spV at Zd;refine Zd.mono ?_;rintro e w4 ⟨rfl,Yo,Yk⟩;have Xa:=hid Yo;have Zk:=hid Yk;clear Yo Yk);refine⟨.inl trivial,?_⟩;refine Z9U ?_;refine θ ?_;refine β ?_;clear z1 Xx Yj u0;go_wp2;have hzr:=HI.o.t.size;have hz2:=Xd.o.size;have hz3:=Xv.o.size;have hz4:=Xa.o.size;have hzd:w2.drew.heap.size=w2.heap.size:=rfl;have hbl:=HI.o.rh.lt;have hKr:=HI.o.cat.lt;go_round
   case rel=>
    have Za:=Cpd.set Z.o.1 G.o.nd G.o.rch G.o.cp G.o.kn (YCT Y.o.1 (pv:Int)).1 (t:=(t:Int)) (by rw[(YCT Y.o.1 (pv:Int)).2.2];exact Y.o.2.1) (by rw[(YCT Y.o.1 (pv:Int)).2.1,Y.o.2.2.2 Y.o.1];exact Zb.o)
     (by rw[(YCT Y.o.1 (pv:Int)).2.1,Y.o.2.2.2 Y.o.1,<-Xm.o];by_cases h0:(pv:Int)=0;(· exact .inl h0);(· exact .inr (Q9S.2 (.inr ⟨rfl,h0⟩)))) (x:=xN) (by rw[(YCT Y.o.1 (pv:Int)).2.1,Y.o.2.2.2 Y.o.1,<-Xm.o];exact Yc.o.1) (by have:=Yc.o.2;omega)
    refine⟨i+1,Yfl Oi (pv:Int),v2.st ((t:Int)+1+i) xN,plus (plus Si w2.drew) w3,by have:=Xq.o;omega,⟨⟨⟨?_,?_,Zk.o,?_,?_⟩,⟨G.o.nd,G.o.rch,Za.1,Za.2,.inl (YCT Y.o.1 (pv:Int)).1⟩,?_,?_,?_,?_,HI.o.lh,?_⟩⟩,by go_num⟩
    ·exact U.o.rc.touch Xa.o U.o.nK
    ·exact U.o.mp.touch Xa.o U.o.nM
    ·exact λh=>h.elim U.o.nK (λh=>by have:=U.o.lt.1;omega)
    ·exact λh=>h.elim U.o.nM (λh=>by have:=U.o.lt.2;omega)
    ·rw[Zg.o,QwE,<-HI.o.oi]
    ·intro b hb;rcases hb with(h|h)|h
     ·exact HI.o.sub b h
     ·right;omega
     ·right;omega
    ·refine(((HI.o.rh.gr Xd.o.drew).touch Xv.o (λh=>?_))).touch Xa.o (λh=>?_)
     ·have:=HI.o.lh;rcases h with(h|h)|h
      ·omega
      ·omega
      ·exact HI.o.nh h
     ·rcases h with h|h
      ·exact HI.o.nh h
      ·omega
    ·intro h;rcases h with(h|h)|h
     ·exact HI.o.nh h
     ·omega
     ·omega
    ·have t2:=HI.o.t.trans (Xd.o.drew.touch _)
     have t3:=t2.trans' Xv.o (λb hb h=>by
      rcases h with h|h
      ·exact .inl h
      ·exact(HI.o.sub b h).elim .inr (λh=>by omega))
     refine t3.trans' Xa.o (λb hb h=>?_);rcases h with h|h
     ·exact(HI.o.sub b h).elim .inr (λh=>by omega)
     ·omega
   case measure=>simp[intOf];omega
end
end
section
open Go.RowKit
inductive YCi where
 | fin (qs:List Nat)
 | one (qs:List Nat) (k:Nat) (t:YCi)
 | two (qs:List Nat) (k1:Nat) (t1:YCi) (k2:Nat) (t2:YCi)
def YCi.len:YCi->Nat
 | .fin qs=>qs.length
 | .one qs _ t=>qs.length+(t.len+1)
 | .two qs _ t1 _ _=>qs.length+(t1.len+1)
def ZFy(md:Region.Mode)(ops:Array Oper):List Nat->Array Bool->Option (Array Bool)
 | [],listed=>some listed
 | k :: r,listed=>if (Region.ready md ops listed).contains k&&Region.free md ops listed k&&((ops[k]?).any QK6)then ZFy md ops r (listed.setIfInBounds k true)else none
def X0z(md:Region.Mode)(ops:Array Oper):YCi->Array Bool->Bool
 | .fin qs,listed=>match ZFy md ops qs listed with
  | some l=>(Region.ready md ops l).isEmpty
  | none=>false
 | .one qs k t,listed=>match ZFy md ops qs listed with
  | some l=>decide (Region.ready md ops l=[k])&&X0z md ops t (l.setIfInBounds k true)
  | none=>false
 | .two qs k1 t1 k2 t2,listed=>match ZFy md ops qs listed with
  | some l=>decide (Region.ready md ops l=[k1,k2])&&decide (t1.len=t2.len)&&X0z md ops t1 (l.setIfInBounds k1 true)&&X0z md ops t2 (l.setIfInBounds k2 true)
  | none=>false
def JVQ(P:Program)(l:List Oper)(S:World->Prop)(Q:Exit->Act->World->Prop):YCi->Act->World->Prop
 | .fin qs,a,w=>wpQuiet P l.toArray S (λa'=>Q .normal a' w) (XZy l qs) a
 | .one qs k t,a,w=>wpQuiet P l.toArray S (λa'=>wpList P l.toArray (Exit.then (λa2 w2=>S w2/\JVQ P l S Q t a2 w2) Q) (XZy l [k]) a' w) (XZy l qs) a
 | .two qs k1 t1 k2 t2,a,w=>wpQuiet P l.toArray S (λa'=>wpList P l.toArray (Exit.then (λa2 w2=>S w2/\JVQ P l S Q t1 a2 w2) Q) (XZy l [k1]) a' w/\wpList P l.toArray (Exit.then (λa2 w2=>S w2/\JVQ P l S Q t2 a2 w2) Q) (XZy l [k2]) a' w) (XZy l qs) a
section
variable {P:Program} {l:List Oper} {Q:Exit->Act->World->Prop} {md:Region.Mode} {S:World->Prop} {z:Nat}
theorem V9C(hsel:Region.noSelect l.toArray=true)(hQ:∀c a b w,Q (.panic c) b w->Q (.panic c) a w)(hz:Xzl md l.toArray z=true){w:World}(hS:S w){K:Act->Prop}{f:Nat}{l':Array Bool}
  (hK:∀a,ZVQ md l.toArray l'->K a->Vnh P md l.toArray Q S z f l' a w):
  ∀(qs:List Nat) (listed:Array Bool) (a:Act),ZFy md l.toArray qs listed=some l'->ZVQ md l.toArray listed->wpQuiet P l.toArray S K (XZy l qs) a →
   Vnh P md l.toArray Q S z (qs.length+f) listed a w
 | [],listed,a,hB,hc,h=>by
  simp only[ZFy,Option.some.injEq]at hB;subst hB;simpa using hK a hc h
 | k :: qs,listed,a,hB,hc,h=>by
  simp only[ZFy]at hB
  split at hB
  ·rename_i hb;simp only[ζd]at hb;obtain⟨⟨hr,hf⟩,hq⟩:=hb;cases ho:l.toArray[k]? with
   | none=>rw[ho]at hq;cases hq
   | some o=>
    rw[ho]at hq;have hq:QK6 o=true:=hq;have Y:k∈Region.ready md l.toArray listed:=by simpa using hr
    rw[XJH ho]at h;simp only[wpQuiet]at h
    have hy:∃v,YieldsIf P l.toArray S o v a/\wpQuiet P l.toArray S K (XZy l qs) (a.put o.dst v):=by
     split at h
     ·rename_i hw;obtain⟨v,h1,h2⟩:=h;exact⟨v,XIs hq hw h1,h2⟩
     ·rename_i hw;exact⟨undef,.inr ⟨by simpa using hw,rfl⟩,h⟩
    obtain⟨v,hy,Z⟩:=hy;have X:(k :: qs).length+f=(qs.length+f)+1:=by simp;omega
    rw[X];exact JDV ho (Region.noSelect_spec hsel) (λc a w h=>hQ c a _ w h) hz _ listed a w hc (Region.free_spec ho hf) Y hy hS (V9C hsel hQ hz hS hK qs _ _ hB (hc.set Y) Z)
  ·cases hB
theorem Z7W(hsel:Region.noSelect l.toArray=true)(hQ:∀c a b w,Q (.panic c) b w->Q (.panic c) a w)(hz:Xzl md l.toArray z=true):
  ∀(t:YCi) (listed:Array Bool) (a:Act) (w:World),X0z md l.toArray t listed=true->ZVQ md l.toArray listed->S w->JVQ P l S Q t a w->Vnh P md l.toArray Q S z t.len listed a w
 | .fin qs,listed,a,w,hB,hc,hS,h=>by
  simp only[X0z]at hB
  split at hB
  ·rename_i l' hl;exact V9C (f:=0) (K:=λa'=>Q .normal a' w) hsel hQ hz hS (λa _ h=>⟨by simpa using hB,h⟩) qs listed a hl hc h
  ·cases hB
 | .one qs k t,listed,a,w,hB,hc,hS,h=>by
  simp only[X0z]at hB
  split at hB
  ·rename_i l' hl;simp only[ζd,ζe]at hB;obtain⟨hr,hB'⟩:=hB;refine V9C hsel hQ hz hS (λa hc h=>?_) qs listed a hl hc h;have X:k∈Region.ready md l.toArray l':=by rw[hr];simp
   refine⟨λh0=>(by rw[hr]at h0;cases h0),λi hi=>?_⟩;rw[hr]at hi;obtain rfl:i=k:=by simpa using hi
   obtain⟨_,o,ho,_⟩:=mem_ready.1 X;rw[XJH ho]at h;exact X8H ho (λa2 w2 h2=>⟨.inr h2.1,Z7W hsel hQ hz t _ a2 w2 hB' (hc.set X) h2.1 h2.2⟩) h
  ·cases hB
 | .two qs k1 t1 k2 t2,listed,a,w,hB,hc,hS,h=>by
  simp only[X0z]at hB
  split at hB
  ·rename_i l' hl;simp only[ζd,ζe]at hB;obtain⟨⟨⟨hr,Y⟩,Z⟩,J⟩:=hB;refine V9C hsel hQ hz hS (λa hc h=>?_) qs listed a hl hc h;refine⟨λh0=>(by rw[hr]at h0;cases h0),λi hi=>?_⟩;have X:i∈Region.ready md l.toArray l':=hi;rw[hr]at hi;obtain⟨_,o,ho,_⟩:=mem_ready.1 X;have hi:i=k1\/i=k2:=by simpa using hi
   rcases hi with rfl|rfl
   ·have h:=h.1;rw[XJH ho]at h;exact X8H ho (λa2 w2 h2=>⟨.inr h2.1,Z7W hsel hQ hz t1 _ a2 w2 Z (hc.set X) h2.1 h2.2⟩) h
   ·have h:=h.2;rw[XJH ho]at h;rw[Y];exact X8H ho (λa2 w2 h2=>⟨.inr h2.1,Z7W hsel hQ hz t2 _ a2 w2 J (hc.set X) h2.1 h2.2⟩) h
  ·cases hB
theorem JzF{id:Nat}{a:Act}{w:World}(S:World->Prop)(t:YCi)(hm:P.follows .mixedOrders=true)
  (hB:(Region.noSelect l.toArray&&X0z .any l.toArray t (Array.replicate l.toArray.size false)&&t.len==l.toArray.size)=true) (hS:S w.drew)
  (h:JVQ P l (λw'=>∃p:ZJV S,w'=p.w) (NoPanic Q) t a w.drew):(Code.region id l.toArray true).wp P Q a w:=by
 simp only[ζd,ζZ]at hB;obtain⟨⟨Y,hB⟩,X⟩:=hB;refine wp_region_noPanic (wp_region_any hm ?_);have hz:Xzl .any l.toArray l.toArray.size=true:=by unfold Xzl;simp
 have:=Z7W (P:=P) (Q:=NoPanic Q) (S:=λw'=>∃p:ZJV S,w'=p.w) (md:=.any) Y (λc a b w h=>h) hz t _ a w.drew hB (ZVQ.none .any l.toArray) (ZJV.of hS) h;rw[X]at this;exact Zmi _ _ _ _ this
end
section
variable {F:Fence} {n:Nat}
def Yz8(F:Fence)(n:Nat)(P:Program)(l:List Oper)(S:World->Prop)(Q:Exit->Act->World->Prop):YCi->Act->World->Prop
 | .fin qs,a,w=>wpQuiet P l.toArray S (λa'=>Q .normal a' w) (XZy l qs) a
 | .one qs k t,a,w=>wpQuiet P l.toArray S (λa'=>wpListIn F n P l.toArray (Exit.then (λa2 w2=>S w2/\Yz8 F n P l S Q t a2 w2) Q) (XZy l [k]) a' w) (XZy l qs) a
 | .two qs k1 t1 k2 t2,a,w=>wpQuiet P l.toArray S (λa'=>wpListIn F n P l.toArray (Exit.then (λa2 w2=>S w2/\Yz8 F n P l S Q t1 a2 w2) Q) (XZy l [k1]) a' w/\wpListIn F n P l.toArray (Exit.then (λa2 w2=>S w2/\Yz8 F n P l S Q t2 a2 w2) Q) (XZy l [k2]) a' w) (XZy l qs) a
section
variable {P:Program} {l:List Oper} {Q:Exit->Act->World->Prop} {md:Region.Mode} {S:World->Prop} {z:Nat}
theorem ZAo(hF:∀f,F.fn f)(hnd:XH2 l.toArray=true)(hsel:Region.noSelect l.toArray=true)(hQ:∀c a b w,Q (.panic c) b w->Q (.panic c) a w)(hz:Xzl md l.toArray z=true){w:World}(hS:S w){K:Act->Prop}{f:Nat}{l':Array Bool}
  (hK:∀a,ZVQ md l.toArray l'->K a->Vxn F n P md l.toArray Q S z f l' a w):
  ∀(qs:List Nat) (listed:Array Bool) (a:Act),ZFy md l.toArray qs listed=some l'->ZVQ md l.toArray listed->wpQuiet P l.toArray S K (XZy l qs) a →
   Vxn F n P md l.toArray Q S z (qs.length+f) listed a w
 | [],listed,a,hB,hc,h=>by
  simp only[ZFy,Option.some.injEq]at hB;subst hB;simpa using hK a hc h
 | k :: qs,listed,a,hB,hc,h=>by
  simp only[ZFy]at hB
  split at hB
  ·rename_i hb;simp only[ζd]at hb;obtain⟨⟨hr,hf⟩,hq⟩:=hb;cases ho:l.toArray[k]? with
   | none=>rw[ho]at hq;cases hq
   | some o=>
    rw[ho]at hq;have hq:QK6 o=true:=hq;have Y:k∈Region.ready md l.toArray listed:=by simpa using hr
    rw[XJH ho]at h;simp only[wpQuiet]at h
    have hy:∃v,YieldsIf P l.toArray S o v a/\wpQuiet P l.toArray S K (XZy l qs) (a.put o.dst v):=by
     split at h
     ·rename_i hw;obtain⟨v,h1,h2⟩:=h;exact⟨v,XIs hq hw h1,h2⟩
     ·rename_i hw;exact⟨undef,.inr ⟨by simpa using hw,rfl⟩,h⟩
    obtain⟨v,hy,Z⟩:=hy;have X:(k :: qs).length+f=(qs.length+f)+1:=by simp;omega
    rw[X];exact Qio hF hnd ho (Region.noSelect_spec hsel) (λc a w h=>hQ c a _ w h) hz _ listed a w hc (Region.free_spec ho hf) Y hy hS (ZAo hF hnd hsel hQ hz hS hK qs _ _ hB (hc.set Y) Z)
  ·cases hB
theorem JL0(hF:∀f,F.fn f)(hnd:XH2 l.toArray=true)(hsel:Region.noSelect l.toArray=true)(hQ:∀c a b w,Q (.panic c) b w->Q (.panic c) a w)(hz:Xzl md l.toArray z=true):
  ∀(t:YCi) (listed:Array Bool) (a:Act) (w:World),X0z md l.toArray t listed=true->ZVQ md l.toArray listed->S w->Yz8 F n P l S Q t a w->Vxn F n P md l.toArray Q S z t.len listed a w
 | .fin qs,listed,a,w,hB,hc,hS,h=>by
  simp only[X0z]at hB
  split at hB
  ·rename_i l' hl;exact ZAo (n:=n) (f:=0) (K:=λa'=>Q .normal a' w) hF hnd hsel hQ hz hS (λa _ h=>⟨by simpa using hB,h⟩) qs listed a hl hc h
  ·cases hB
 | .one qs k t,listed,a,w,hB,hc,hS,h=>by
  simp only[X0z]at hB
  split at hB
  ·rename_i l' hl;simp only[ζd,ζe]at hB;obtain⟨hr,hB'⟩:=hB;refine ZAo hF hnd hsel hQ hz hS (λa hc h=>?_) qs listed a hl hc h;have X:k∈Region.ready md l.toArray l':=by rw[hr];simp
   refine⟨λh0=>(by rw[hr]at h0;cases h0),λi hi=>?_⟩;rw[hr]at hi;obtain rfl:i=k:=by simpa using hi
   obtain⟨_,o,ho,_⟩:=mem_ready.1 X;rw[XJH ho]at h;exact ZRK ho (λa2 w2 h2=>⟨.inr h2.1,JL0 hF hnd hsel hQ hz t _ a2 w2 hB' (hc.set X) h2.1 h2.2⟩) h
  ·cases hB
 | .two qs k1 t1 k2 t2,listed,a,w,hB,hc,hS,h=>by
  simp only[X0z]at hB
  split at hB
  ·rename_i l' hl;simp only[ζd,ζe]at hB;obtain⟨⟨⟨hr,Y⟩,Z⟩,J⟩:=hB;refine ZAo hF hnd hsel hQ hz hS (λa hc h=>?_) qs listed a hl hc h;refine⟨λh0=>(by rw[hr]at h0;cases h0),λi hi=>?_⟩;have X:i∈Region.ready md l.toArray l':=hi;rw[hr]at hi;obtain⟨_,o,ho,_⟩:=mem_ready.1 X;have hi:i=k1\/i=k2:=by simpa using hi
   rcases hi with rfl|rfl
   ·have h:=h.1;rw[XJH ho]at h;exact ZRK ho (λa2 w2 h2=>⟨.inr h2.1,JL0 hF hnd hsel hQ hz t1 _ a2 w2 Z (hc.set X) h2.1 h2.2⟩) h
   ·have h:=h.2;rw[XJH ho]at h;rw[Y];exact ZRK ho (λa2 w2 h2=>⟨.inr h2.1,JL0 hF hnd hsel hQ hz t2 _ a2 w2 J (hc.set X) h2.1 h2.2⟩) h
  ·cases hB
theorem Jav{id:Nat}{a:Act}{w:World}(S:World->Prop)(t:YCi)(hF:∀f,F.fn f)(hm:P.follows .mixedOrders=true)
  (hB:(XH2 l.toArray&&Region.noSelect l.toArray&&X0z .any l.toArray t (Array.replicate l.toArray.size false)&&t.len==l.toArray.size)=true) (hS:S w.drew)
  (h:Yz8 F n P l (λw'=>∃p:ZJV S,w'=p.w) (NoPanic Q) t a w.drew):(Code.region id l.toArray true).wpIn F n P Q a w:=by
 simp only[ζd,ζZ]at hB;obtain⟨⟨⟨Z,Y⟩,hB⟩,X⟩:=hB;refine wpIn_mono (wpIn_region_any hm ?_) NoPanic.imp;have hz:Xzl .any l.toArray l.toArray.size=true:=by unfold Xzl;simp
 have:=JL0 (F:=F) (n:=n) (P:=P) (Q:=NoPanic Q) (S:=λw'=>∃p:ZJV S,w'=p.w) (md:=.any) hF Z Y (λc a b w h=>h) hz t _ a w.drew hB (ZVQ.none .any l.toArray) (ZJV.of hS) h;rw[X]at this;exact J9t _ _ _ _ this
theorem YAC{qs:List Nat}{a:Act}{w:World}(h:wpQuiet P l.toArray S (λa'=>Q .normal a' w) (XZy l qs) a):Yz8 F n P l S Q (.fin qs) a w:=h
theorem VyF{qs:List Nat}{k:Nat}{t:YCi}{a:Act}{w:World}(h:wpQuiet P l.toArray S (λa'=>wpListIn F n P l.toArray (Exit.then (λa2 w2=>S w2/\Yz8 F n P l S Q t a2 w2) Q) (XZy l [k]) a' w) (XZy l qs) a):Yz8 F n P l S Q (.one qs k t) a w:=h
theorem QtW{qs:List Nat}{k1 k2:Nat}{t1 t2:YCi}{a:Act}{w:World}(h:wpQuiet P l.toArray S (λa'=>wpListIn F n P l.toArray (Exit.then (λa2 w2=>S w2/\Yz8 F n P l S Q t1 a2 w2) Q) (XZy l [k1]) a' w/\wpListIn F n P l.toArray (Exit.then (λa2 w2=>S w2/\Yz8 F n P l S Q t2 a2 w2) Q) (XZy l [k2]) a' w) (XZy l qs) a):Yz8 F n P l S Q (.two qs k1 t1 k2 t2) a w:=h
end
end
section
variable {P:Program} {l:List Oper} {S:World->Prop} {Q:Exit->Act->World->Prop}
theorem Vy6{qs:List Nat}{a:Act}{w:World}(h:wpQuiet P l.toArray S (λa'=>Q .normal a' w) (XZy l qs) a):JVQ P l S Q (.fin qs) a w:=h
theorem QbJ{qs:List Nat}{k:Nat}{t:YCi}{a:Act}{w:World}(h:wpQuiet P l.toArray S (λa'=>wpList P l.toArray (Exit.then (λa2 w2=>S w2/\JVQ P l S Q t a2 w2) Q) (XZy l [k]) a' w) (XZy l qs) a):JVQ P l S Q (.one qs k t) a w:=h
theorem JbS{qs:List Nat}{k1 k2:Nat}{t1 t2:YCi}{a:Act}{w:World}(h:wpQuiet P l.toArray S (λa'=>wpList P l.toArray (Exit.then (λa2 w2=>S w2/\JVQ P l S Q t1 a2 w2) Q) (XZy l [k1]) a' w/\wpList P l.toArray (Exit.then (λa2 w2=>S w2/\JVQ P l S Q t2 a2 w2) Q) (XZy l [k2]) a' w) (XZy l qs) a):JVQ P l S Q (.two qs k1 t1 k2 t2) a w:=h
end
end
section
open Go.RowKit Word
theorem YV8(k:Nat)(hk:k<=10):2 ^ k<=1024:=Nat.pow_le_pow_right (by decide) hk
theorem QCZ{n:Int}(h:Y1d n=true):∃k:Nat,k<=10/\n=((2 ^ k:Nat):Int):=by
 simp[Y1d]at h;rcases h with rfl|rfl|rfl|rfl|rfl|rfl|rfl|rfl|rfl|rfl|rfl
 ·exact⟨0,by decide,rfl⟩
 ·exact⟨1,by decide,rfl⟩
 ·exact⟨2,by decide,rfl⟩
 ·exact⟨3,by decide,rfl⟩
 ·exact⟨4,by decide,rfl⟩
 ·exact⟨5,by decide,rfl⟩
 ·exact⟨6,by decide,rfl⟩
 ·exact⟨7,by decide,rfl⟩
 ·exact⟨8,by decide,rfl⟩
 ·exact⟨9,by decide,rfl⟩
 ·exact⟨10,by decide,rfl⟩
theorem XB7{x k:Nat}(hk:k<=63)(hx:x<18446744073709551616):x &&& (18446744073709551615-(2 ^ k-1))=x/2 ^ k*2 ^ k:=by
 have h2:2 ^ k<=2 ^ 63:=Nat.pow_le_pow_right (by decide) hk;have h3:0<2 ^ k:=Nat.two_pow_pos k
 have e:18446744073709551615-(2 ^ k-1)=(2 ^ (64-k)-1)*2 ^ k:=by
  rw[Nat.sub_mul,<-Nat.pow_add,show 64-k+k=64 by omega]
  show _=18446744073709551616-1*2 ^ k
  omega
 rw[e];apply ξH;intro i;rw[ξo,Nat.testBit_mul_two_pow,Nat.testBit_mul_two_pow,Nat.testBit_div_two_pow,Nat.testBit_two_pow_sub_one];by_cases hi:k<=i
 ·rw[κ hi,show i-k+k=i by omega];by_cases h64:i<64
  ·rw[κ (show i-k<64-k by omega)];simp
  ·have:x.testBit i=false:=Nat.testBit_lt_two_pow (ω (show x<2 ^ 64 from hx) (Nat.pow_le_pow_right (by decide) Ω));rw[this];simp
 ·rw[ψ (show ¬i>=k by omega)];simp
theorem ZgG{x k:Nat}(hk:k<=10)(hx:x<9223372036854775808):bits .andNot .i64 (x:Int) ((2 ^ k:Nat)-1:Int)=((x/2 ^ k*2 ^ k:Nat):Int):=by
 have hp:=YV8 k hk;have h3:0<2 ^ k:=Nat.two_pow_pos k
 have h1:(BitVec.ofInt 64 (x:Int)).toNat=x:=by
  rw[BitVec.ofInt_natCast,BitVec.toNat_ofNat];exact ξD Ω
 have e:((2 ^ k:Nat)-1:Int)=((2 ^ k-1:Nat):Int):=Ω
 have h2:(BitVec.ofInt 64 ((2 ^ k:Nat)-1:Int)).toNat=2 ^ k-1:=by
  rw[e,BitVec.ofInt_natCast,BitVec.toNat_ofNat];exact ξD Ω
 show IntKind.i64.wrap ((BitVec.ofInt 64 (x:Int) &&& ~~~ BitVec.ofInt 64 ((2 ^ k:Nat)-1:Int)).toNat:Int)=_
 rw[BitVec.toNat_and,BitVec.toNat_not,h1,h2];have:2 ^ 64-1-(2 ^ k-1)=18446744073709551615-(2 ^ k-1):=rfl;rw[this,XB7 Ω Ω];have hle:x/2 ^ k*2 ^ k<=x:=ζm x _;exact ζA _ Ω
theorem JRC(n:Nat)(hn:n<=1152921504606846976){u:Int}(hu:Y1d u=true)(w:World):
  Calls prog 221 #[.int .i64 n,.int .i64 u] w λe w'=>e=.returned (.bool true)/\w=w':=by
 have hb:=Quq hu;have HP:Hid (XuW u=true):=⟨by rw[XYi]at hu;simp at hu;exact hu.1⟩;clear hu;have d1:decide ((n:Int)<=1152921504606846976)=true:=κ Ω;go_enter func221,ntmps221;go_wp2_with(go_at_call 119;refine(VWY u Ω _).mono ?_;rintro e w1 ⟨rfl,rfl⟩;rw[HP.o]);go_ret;exact⟨rfl,rfl⟩
theorem Xnz(n B:Nat)(hn:n<=1152921504606846976)(hB:Y1d B=true)(w:World):
  Calls prog 196 #[.int .i64 n,.int .i64 B] w λe w'=>e=.returned (.int .i64 ((n+B-1)/B*B:Nat))/\w=w':=by
 have hb:=Quq hB;obtain⟨k,hk,e⟩:=QCZ hB;have e':B=2 ^ k:=Int.ofNat.inj e
 have HE:Hid (bits .andNot .i64 ((n:Int)+(B:Int)-1) ((B:Int)-1)=(((n+B-1)/B*B:Nat):Int)):=⟨by
  have:=ZgG (x:=n+B-1) hk Ω;rw[<-e']at this
  rw[<-this];congr 1;omega⟩
 have HB:=hid hB;clear hB e e';go_enter func196,ntmps196;go_wp2_with(go_at_call 221;refine(JRC n hn HB.o _).mono ?_;rintro e w1 ⟨rfl,rfl⟩);go_ret;exact⟨ZzN HE.o,rfl⟩
end
section
open Go.RowKit Word
structure Cf where
 fr:Nat
 tp:Nat
 to:Nat
 lm:Nat
 bk:Nat
 st:Nat
 ah:Nat
def cfV(c:Cf):Value:=.agg #[.int .i64 c.fr,.int .i64 c.tp,.int .i64 c.to,.int .i64 c.lm,.int .i64 c.bk,.int .i64 c.st,.int .i64 c.ah]
def upN(n B:Nat):Nat:=(n+B-1)/B*B
structure VeB(pg n:Nat)(c:Cf):Prop where
 bk:Y1d c.bk=true
 st:1<=c.st/\c.st<=4096
 ah:c.ah<=16
 fr:pg<=c.fr
 tp:c.fr<=c.tp
 tn:c.tp<=n
 to:pg<=c.to
 lm:c.to<=c.lm
 ln:c.lm<=n
 af:c.fr%pg=0
 at_:c.to%pg=0
 al:c.lm%pg=0
 ap:¬(c.fr<upN c.tp pg/\c.to<c.lm/\c.fr<c.lm/\c.to<upN c.tp pg)
section
variable {w:World} {S:Nat->Prop} {q:Nat} {v:Vm}
theorem VBT{b cp:Nat}{lo md hi:Nat->Nat}(hb:b<w.heap.size)
  (hc:∀j,j<7->w.cell? ⟨b,j*3,none⟩=some (.int .i64 (lo j))/\w.cell? ⟨b,j*3+1,none⟩=some (.int .i64 (md j))/\w.cell? ⟨b,j*3+2,none⟩=some (.int .i64 (hi j)))
  (ho:∀j,j<7->lo j<=md j/\md j<=hi j):V4y prog 195 #[.slice (some ⟨b,0,none⟩) 7 cp] w (.bool true):=by
 have HC:=hid hc;have HO:=hid ho;clear hc ho;unfold V4y;go_enter func195,ntmps195;go_wp2
 go_loopw [7] (λs7 wr=>∃j:Nat,j<=7/\Hid (Gr w wr)/\s7=.int .i64 j) (λs7 _=>7-(intOf s7).toNat)
 case atStart=>exact⟨0,by omega,⟨Gr.refl w⟩,rfl⟩
 case round=>
  obtain⟨j,hj,HG,rfl⟩:=hrel;by_cases X:j=7
  ·subst X;go_wp2;go_ret;exact⟨rfl,HG.o⟩
  ·obtain⟨k0,k1,k2⟩:=HC.o j Ω;obtain⟨o1,o2⟩:=HO.o j Ω;have c0:=(HG.o.cell hb _).trans k0;have c1:=(HG.o.cell hb _).trans k1;have c2:=(HG.o.cell hb _).trans k2;have hjI:(j:Int)<7:=Ω
   have d0:decide ((md j:Int)<(lo j:Int))=false:=ψ Ω;have d1:decide ((hi j:Int)<(md j:Int))=false:=ψ Ω;have HL:=hid X;clear X k0 k1 k2;generalize lo j=x at *
   generalize md j=y at *
   generalize hi j=z at *
   go_wp2;go_round
   case rel=>exact⟨j+1,by have:=HL.o;omega,⟨HG.o.alloc _⟩,by go_num⟩
   case measure=>have:=HL.o;simp[intOf];omega
theorem JcE{a b c d:Prop}(h:¬(a/\b/\c/\d)):¬a\/(a/\¬b)\/(a/\b/\¬c)\/(a/\b/\c/\¬d):=by
 by_cases ha:a
 ·by_cases hb:b
  ·by_cases hc:c
   ·exact .inr (.inr (.inr ⟨ha,hb,hc,λhd=>h ⟨ha,hb,hc,hd⟩⟩))
   ·exact .inr (.inr (.inl ⟨ha,hb,hc⟩))
  ·exact .inr (.inl ⟨ha,hb⟩)
 ·exact .inl ha
theorem QzK(hV:QXZ w S q v){c:Cf}(hc:VeB v.pl.pg v.n c):Calls prog 153 #[.pointer (some ⟨q,0,none⟩),cfV c] w λe w'=>e=.returned (.int .i64 0)/\Gr w w':=by
 have Xj:=hV.ok.page;have Xl:=hV.ok.n2;have B:=hV.ok.pl.pg;obtain⟨fr,tp,to,lm,bk,st,ah⟩:=c;obtain⟨h1,h2,h3,h4,h5,h6,h7,h8,h9,U,V,J,Z⟩:=hc;dsimp only at h1 h2 h3 h4 h5 h6 h7 h8 h9 U V J Z;have hbp:=Quq h1
 have I:XuW bk=true:=by
  have:=XYi bk;rw[h1]at this;exact(ζ0.1 this.symm).1
 have Xe:=hid (λW=>VWY (bk:Int) Ω W);rw[I]at Xe;have Xd:=hid (λ(W:World) (g:Gr w W)=>VML (hV.gr g));have Xc:=hid (λ(W:World) (g:Gr w W)=>Xwn (hV.gr g));have G:=hid (λW=>Xnz tp v.pl.pg Ω B W);obtain⟨pg,N⟩:∃pg,pg=v.pl.pg:=⟨_,rfl⟩;obtain⟨n,Xa⟩:∃n,n=v.n:=⟨_,rfl⟩;rw[<-N]at Xd G Xj h4 h7 U V J Z;rw[<-Xa]at Xc Xl h6 h9
 have Xi:=hid (λ(W:World) (b:Nat) (cp:Nat) (R:Rec W b 42 [.int .i64 1,.int .i64 bk,.int .i64 1024,.int .i64 1,.int .i64 st,.int .i64 4096,.int .i64 0,.int .i64 ah,.int .i64 16,.int .i64 pg,.int .i64 fr,.int .i64 n,.int .i64 fr,.int .i64 tp,.int .i64 n,.int .i64 pg,.int .i64 to,.int .i64 n,.int .i64 to,.int .i64 lm,.int .i64 n])=>
  VBT (w:=W) (b:=b) (cp:=cp) (lo:=λj=>[1,1,0,pg,fr,pg,to].getD j 0) (md:=λj=>[bk,st,ah,fr,tp,to,lm].getD j 0) (hi:=λj=>[1024,4096,16,n,n,n,n].getD j 0) R.lt
   (λj hj=>by
    rcases(by omega:j=0\/j=1\/j=2\/j=3\/j=4\/j=5\/j=6)with rfl|rfl|rfl|rfl|rfl|rfl|rfl <;> exact⟨R.cell rfl,R.cell rfl,R.cell rfl⟩)
   (λj hj=>by
    rcases(by omega:j=0\/j=1\/j=2\/j=3\/j=4\/j=5\/j=6)with rfl|rfl|rfl|rfl|rfl|rfl|rfl <;> (refine⟨?_,?_⟩ <;> simp <;> omega)))
 have m1:((fr:Int)).tmod (pg:Int)=0:=by rw[<-Int.ofNat_tmod,U];rfl
 have m2:((to:Int)).tmod (pg:Int)=0:=by rw[<-Int.ofNat_tmod,V];rfl
 have m3:((lm:Int)).tmod (pg:Int)=0:=by rw[<-Int.ofNat_tmod,J];rfl
 have R0:=Rec.new w 156 [.int .i64 fr,.int .i64 tp,.int .i64 to,.int .i64 lm,.int .i64 bk,.int .i64 st,.int .i64 ah];have Xb:=hid (JcE Z)
 have Xk:upN tp pg<=1048576:=by
  unfold upN;have:=ζm (tp+pg-1) pg;omega
 obtain⟨up,X⟩:∃up,up=upN tp pg:=⟨_,rfl⟩;rw[<-X]at Xb Xk;rw[show (tp+pg-1)/pg*pg=up from X.symm]at G;have b0:((pg:Int)==0)=false:=by simp;omega
 have b1:(pg:Int)≠0:=Ω
 unfold cfV;have Xh:=hid R0;have z0:=R0.cc 0;have z1:=R0.cc 1;have z2:=R0.cc 2;have z3:=R0.cc 3;have z4:=R0.cc 4;have z5:=R0.cc 5;have z6:=R0.cc 6;have zl:=R0.lt;obtain⟨W1,E⟩:∃W1,W1=w.alloc (.cells #[.int .i64 fr,.int .i64 tp,.int .i64 to,.int .i64 lm,.int .i64 bk,.int .i64 st,.int .i64 ah] 156):=⟨_,rfl⟩;have A:Hid (Gr w W1):=⟨by rw[E];exact(Gr.refl w).alloc _⟩;clear N Xa X R0 hV Z I B h1 U V J;go_enter func153,ntmps153;go_upto_region 1 with(fail);rw[<-E]at z0 z1 z2 z3 z4 z5 z6 zl Xh⊢;clear E
 go_upto_region 6 with(first
  | (go_at_call 126;refine(Xd.o _ A.o).mono ?_;rintro e w1 ⟨rfl,rfl⟩)
  | (go_at_call 52;refine(Xc.o _ A.o).mono ?_;rintro e w1 ⟨rfl,rfl⟩)
  | (go_at_call 119;refine(Xe.o _).mono ?_;rintro e w1 ⟨rfl,rfl⟩)
  | (go_at_call 195;refine(Xi.o _ _ _ (Rec.new _ _ _)).mono ?_;rintro e w2 ⟨rfl,Xg⟩;have Xf:=hid (((Gr.refl _).alloc _).trans Xg);have Y:=hid (Xh.o.gr Xf.o);have y0:=Y.o.cc 0;have y1:=Y.o.cc 1;have y2:=Y.o.cc 2;have y3:=Y.o.cc 3;have yl:=Y.o.lt;clear Xg))
 go_quiet (fail);go_upto_region 9 with(go_at_call 196;refine(G.o _).mono ?_;rintro e w1 ⟨rfl,rfl⟩);have hG:=A.o.trans Xf.o;rcases Xb.o with h|⟨h,h'⟩|⟨h,h',D⟩|⟨h,h',D,h3⟩
 ·have e0:decide ((fr:Int)<(up:Int))=false:=ψ Ω;have f0:decide (fr<up)=false:=ψ h;go_wp2;go_ret;exact⟨rfl,hG.drewN _⟩
 ·have e0:decide ((fr:Int)<(up:Int))=true:=κ Ω;have e1:decide ((to:Int)<(lm:Int))=false:=ψ Ω;have f0:decide (fr<up)=true:=κ h;have f1:decide (to<lm)=false:=ψ h';go_wp2;go_ret;exact⟨rfl,hG.drewN _⟩
 ·have e0:decide ((fr:Int)<(up:Int))=true:=κ Ω;have e1:decide ((to:Int)<(lm:Int))=true:=κ Ω;have e2:decide ((fr:Int)<(lm:Int))=false:=ψ Ω;have f0:decide (fr<up)=true:=κ h;have f1:decide (to<lm)=true:=κ h';have f2:decide (fr<lm)=false:=ψ D;go_wp2;go_ret;exact⟨rfl,hG.drewN _⟩
 ·have e0:decide ((fr:Int)<(up:Int))=true:=κ Ω;have e1:decide ((to:Int)<(lm:Int))=true:=κ Ω;have e2:decide ((fr:Int)<(lm:Int))=true:=κ Ω;have e3:decide ((to:Int)<(up:Int))=false:=ψ Ω;have f0:decide (fr<up)=true:=κ h;have f1:decide (to<lm)=true:=κ h';have f2:decide (fr<lm)=true:=κ D;have f3:decide (to<up)=false:=ψ h3;go_wp2;go_ret;exact⟨rfl,hG.drewN _⟩
end
end
section
open Go.RowKit Word
def YxD(T:Nat->Prop)(w:World)(A:Option Addr)(l:List Int):Prop:=∀i (h:i<l.length),∃b o,A=some ⟨b,o,none⟩/\b<w.heap.size/\¬T b/\w.cell? ⟨b,o+i,none⟩=some (.int .i64 l[i])
theorem YxD.touch{T S:Nat->Prop}{w w':World}{A:Option Addr}{l:List Int}(h:YxD T w A l)(t:XF4 S w w')(hs:∀b,b<w.heap.size->S b->T b):YxD T w' A l:=λi hi=>by
 obtain⟨b,o,e,hb,hT,hc⟩:=h i hi;exact⟨b,o,e,ω hb t.size,hT,(t.cell hb (λx=>hT (hs b hb x)) _).trans hc⟩
theorem YxD.gr{T:Nat->Prop}{w w':World}{A:Option Addr}{l:List Int}(h:YxD T w A l)(t:Gr w w'):YxD T w' A l:=h.touch (t.touch (λ_=>False)) (λ_ _ h=>h.elim)
theorem YxD.mono{T T':Nat->Prop}{w:World}{A:Option Addr}{l:List Int}(h:YxD T w A l)(hs:∀b,b<w.heap.size->T' b->T b):YxD T' w A l:=λi hi=>by
 obtain⟨b,o,e,hb,hT,hc⟩:=h i hi;exact⟨b,o,e,hb,λx=>hT (hs b hb x),hc⟩
def zs(l:List Int):List Value:=l.map λx=>.int .i64 x
theorem JbU{l:List Int}{i:Nat}(h:i<l.length):(zs l)[i]?=some (.int .i64 l[i]):=by simp[zs,h]
structure QH2(w:World)(S:Nat->Prop)(s:Nat)(l:List Int)(R:Nat)(lost:Bool):Prop where
 ss:S s
 r1:1<=R/\R<=4096
 le:l.length<=R
 row:∃vl hi,Rec w s 224 [vl,.int .i64 R,.int .i64 hi,.bool lost]/\w.ownsRow 0 3 1 vl l.length (zs l)/\∀g,vl.ownBlock=some g->S g
theorem QH2.touch{S T:Nat->Prop}{w w':World}{s:Nat}{l:List Int}{R:Nat}{b:Bool}(h:QH2 w S s l R b)(t:XF4 T w w')(hS:∀k,S k->k<w.heap.size->¬T k):QH2 w' S s l R b:=by
 obtain⟨h1,h2,h3,vl,hi,hr,ho,hs⟩:=h;exact⟨h1,h2,h3,vl,hi,hr.touch t (hS _ h1 hr.lt),Zs2 ho t (λg hg=>hS g (hs g hg) (Vvr ho hg).2),hs⟩
theorem QH2.gr{S:Nat->Prop}{w w':World}{s:Nat}{l:List Int}{R:Nat}{b:Bool}(h:QH2 w S s l R b)(t:Gr w w'):QH2 w' S s l R b:=h.touch (t.touch (λ_=>False)) (λ_ _ _ h=>h)
theorem QH2.mono{S T:Nat->Prop}{w:World}{s:Nat}{l:List Int}{R:Nat}{b:Bool}(h:QH2 w S s l R b)(hT:∀k,S k->T k):QH2 w T s l R b:=by
 obtain⟨h1,h2,h3,vl,hi,hr,ho,hs⟩:=h;exact⟨hT _ h1,h2,h3,vl,hi,hr,ho,λg hg=>hT g (hs g hg)⟩
theorem QH2.cut{S:Nat->Prop}{w:World}{s:Nat}{l:List Int}{R:Nat}{b:Bool}(h:QH2 w S s l R b):QH2 w (ZOk S w) s l R b:=by
 obtain⟨h1,h2,h3,vl,hi,hr,ho,hs⟩:=h;exact⟨⟨h1,hr.lt⟩,h2,h3,vl,hi,hr,ho,λg hg=>⟨hs g hg,(Vvr ho hg).2⟩⟩
section
variable {w:World} {S:Nat->Prop} {s R:Nat} {l:List Int} {lost:Bool}
theorem JIb(h:QH2 w S s l R lost):Calls prog 220 #[.pointer (some ⟨s,0,none⟩)] w λe w'=>e=.returned (.int .i64 (l.length:Nat))/\w=w':=by
 obtain⟨h1,h2,h3,vl,hi,hr,ho,hs⟩:=h;obtain⟨A,c,rfl,hc1,hc2⟩:=ZfN ho;have c0:=hr.cc 0;clear hr ho hs;go_enter func220,ntmps220;go_wp2;go_ret;exact⟨rfl,rfl⟩
theorem XPh(h:QH2 w S s l R lost):Calls prog 144 #[.pointer (some ⟨s,0,none⟩)] w λe w'=>e=.returned (.bool lost)/\w=w':=by
 obtain⟨h1,h2,h3,vl,hi,hr,ho,hs⟩:=h;have c3:=hr.cc 3;clear hr ho hs;go_enter func144,ntmps144;go_wp2;go_ret;exact⟨rfl,rfl⟩
theorem Qf8(h:QH2 w S s l R lost):Calls prog 145 #[.pointer (some ⟨s,0,none⟩)] w λe w'=>e=.returned (.tuple #[])/\XF4 S w w'/\QH2 w' S s l R false:=by
 obtain⟨h1,h2,h3,vl,hi,hr,ho,hs⟩:=h;have c3:=hr.cc 3;have f3:=hr.free 3;have HR:=hid hr;have HO:=hid ho;have HS:=hid hs;clear hr ho hs;go_enter func145,ntmps145;go_wp2;refine ζF (ζr rfl _ _ _) rfl ?_;exact⟨rfl,(XF4.refl S w).setCell (a:=⟨s,3,none⟩) (λ_=>h1) _,h1,h2,h3,vl,hi,Rec.set HR.o 3 _,VDR HO.o _ (λg hg=>YnK HO.o HR.o (by decide) hg rfl),HS.o⟩
def Xjk(w:World)(S:Nat->Prop)(s:Nat)(l:List Int)(R:Nat)(lost:Bool)(e:Ending)(w':World):Prop:=
 (l=[]/\e=.returned (.tuple #[.int .i64 0,.bool false])/\w=w')\/(∃l' a,l=l'++[a]/\e=.returned (.tuple #[.int .i64 a,.bool true])/\XF4 S w w'/\QH2 w' S s l' R lost)
theorem ZtN(h:QH2 w S s l R lost):Calls prog 192 #[.pointer (some ⟨s,0,none⟩)] w (Xjk w S s l R lost):=by
 have HL:=hid (JIb h);obtain⟨h1,h2,h3,vl,hi,hr,ho,hs⟩:=h;rcases List.eq_nil_or_concat l with rfl|⟨l',a,rfl⟩
 ·clear hr ho hs;go_enter func192,ntmps192;go_wp2_with(go_at_call 220;refine HL.o.mono ?_;rintro e w1 ⟨rfl,rfl⟩);go_ret2;exact .inl ⟨rfl,rfl,rfl⟩
 ·rw[List.concat_eq_append]at *
  have X:(l'++[a]).length=l'.length+1:=by simp
  rw[X]at HL ho h3;obtain⟨g,c,rfl,-,Z,J,-⟩:=YTP ho Ω;unfold maxLen at J;have c0:=hr.cc 0;have f0:=hr.free 0;have kb:=ZBn ho (j:=l'.length) (u:=.int .i64 a) (by simp[zs]);have HR:=hid hr;have HO:=hid ho;have HS:=hid hs;obtain⟨N,hN⟩:∃N,N=l'.length:=⟨_,rfl⟩;rw[<-hN]at HL c0 kb h3 Z;have HN:=hid hN;clear hr ho hs X hN;go_enter func192,ntmps192;go_wp2_with(go_at_call 220;refine HL.o.mono ?_;rintro e w1 ⟨rfl,rfl⟩);go_ret2;refine .inr ⟨l',a,rfl,rfl,(XF4.refl S w).setCell (a:=⟨s,0,none⟩) (λ_=>h1) _,h1,h2,by have:=HN.o;omega,.slice (some ⟨g,0,none⟩) N c,hi,Rec.set HR.o 0 _,?_,λg' hg=>HS.o g' hg⟩;have Y:=HO.o;rw[show zs (l'++[a])=zs l'++[.int .i64 a]by unfold zs;rw[ζO];rfl]at Y;have hp:=JTC Y;rw[HN.o];exact VDR hp _ (λg' hg=>YnK hp HR.o (by decide) hg rfl)
def Zxv(w:World)(R:Int)(e:Ending)(w':World):Prop:=
 ((R<1\/4096<R)/\e=.returned (.tuple #[.pointer none,.int .i64 5])/\w=w') ∨
 (1<=R/\R<=4096/\e=.returned (.tuple #[.pointer (some ⟨w.heap.size,0,none⟩),.int .i64 0])/\Gr w w'/\QH2 w' (λk=>w.heap.size<=k) w.heap.size [] R.toNat false)
theorem VgV(R:Int)(w:World):Calls prog 95 #[.int .i64 R] w (Zxv w R):=by
 rcases(by omega:R<1\/(1<=R/\4096<R)\/(1<=R/\R<=4096))with h|h|h
 ·have d0:decide (R<1)=true:=κ h;go_enter func95,ntmps95;go_wp2;go_ret2;exact .inl ⟨.inl h,rfl,rfl⟩
 ·have d0:decide (R<1)=false:=ψ Ω;have d1:decide (4096<R)=true:=κ h.2;go_enter func95,ntmps95;go_wp2;go_ret2;exact .inl ⟨.inr h.2,rfl,rfl⟩
 ·obtain⟨m,rfl⟩:∃m:Nat,R=m:=⟨R.toNat,by omega⟩;have d0:decide ((m:Int)<1)=false:=ψ Ω;have d1:decide (4096<(m:Int))=false:=ψ Ω;go_enter func95,ntmps95;go_wp2;go_ret2;refine .inr ⟨h.1,h.2,rfl,(Gr.refl w).alloc _,π _,?_,ζh _,.slice none 0 0,0,?_,Vm9 _ _ _ _,(λg hg=>by cases hg)⟩
  ·rw[τ];omega
  ·rw[τ];exact Rec.new w _ _
theorem J0c:(prog.info? 3).map (λi=>(i.zero,i.size,i.bytes))=some (some (.int .i64 0),1,8):=by kernel_rfl
def Jva(w:World)(S:Nat->Prop)(s:Nat)(l:List Int)(R:Nat)(lost:Bool)(a:Int)(e:Ending)(w':World):Prop:=
 (R<=l.length/\e=.returned (.bool false)/\XF4 S w w'/\QH2 w' (plus S w) s l R true)\/(l.length<R/\e=.returned (.bool true)/\XF4 S w w'/\QH2 w' (plus S w) s (l++[a]) R lost)
theorem Y4L(h:QH2 w S s l R lost)(a:Int):Calls prog 191 #[.pointer (some ⟨s,0,none⟩),.int .i64 a] w (Jva w S s l R lost a):=by
 obtain⟨h1,h2,h3,vl,hi,hr,ho,hs⟩:=h;obtain⟨A,c,rfl,Xk,Xm⟩:=ZfN ho;unfold maxLen at Xm;have hmax:=V9O prog;have c0:=hr.cc 0;have c1:=hr.cc 1;have c3:=hr.cc 3;have f3:=hr.free 3;have hsl:=hr.lt;have HR:=hid hr;have HO:=hid ho;have HS:=hid hs;obtain⟨N,hN⟩:∃N,N=l.length:=⟨_,rfl⟩;rw[<-hN]at c0 h3 Xk;have HN:=hid hN;have z0:∀m,(w.drewN m).cell? ⟨s,0,none⟩=some (.slice A N c):=λm=>c0;have z1:∀m,(w.drewN m).cell? ⟨s,1,none⟩=some (.int .i64 R):=λm=>c1;have z3:∀m,(w.drewN m).cell? ⟨s,3,none⟩=some (.bool lost):=λm=>c3;have zf:∀m,(w.drewN m).frozen? ⟨s,3,none⟩=false:=λm=>f3;clear hr ho hs hN;by_cases X:R<=N
 ·have d0:decide (R<=N)=true:=κ X;go_enter func191,ntmps191;go_wp2;go_quiet (fail);go_wp2;go_ret;have hg:Gr w (w.drewN nq):=(Gr.refl w).drewN nq;refine .inl ⟨by rw[<-HN.o];exact X,rfl,(hg.touch S).setCell (a:=⟨s,3,none⟩) (λ_=>h1) _,.inl h1,h2,by rw[<-HN.o];exact h3,_,hi,Rec.set (HR.o.gr hg) 3 _,VDR (Y9I HO.o hg) _ (λg hg'=>YnK HO.o HR.o (by decide) hg' rfl),λg hg'=>.inl (HS.o g hg')⟩
 ·have d0:decide (R<=N)=false:=ψ X;obtain⟨ii,Xi,Xe,Xg,Xl⟩:=info_parts J0c;go_enter func191,ntmps191;go_wp2;go_quiet (fail);have hg:Gr w (w.drewN nq):=(Gr.refl w).drewN nq;have HG:=hid hg;have D:=Y9I HO.o hg;rw[<-HN.o]at D;have Xc:=hid D;have Xb:=hid (HR.o.gr hg);clear hg D z0 z1 z3 zf;go_wp2_with(at_builtin;refine wpList_append_lies _ rfl _ _ 66 rfl 0 3 ii _ 1 8 underlying66 Xi Xe Xg Xl rfl (by decide) (.slice A N c) N (zs l) rfl (Xc.o.alloc _) ⟨(w.drewN nq).heap.size,0,none⟩ 1 1 [.int .i64 a] rfl rfl (ξI (cs:=#[.int .i64 a]) (t:=3) (fr:=(0,0)) (heap_alloc_new (w.drewN nq) (.cells #[.int .i64 a] 3))) (by simp[Value.oneCell']) Ω (by unfold maxLen;omega) Ω (ζh _) ((w.drewN nq).heap.size+1) (by simp) ?_;intro g2 c2 w2 Z Y I E;have t2:XF4 (λk=>(Value.slice A N c).ownBlock=some k) (w.drewN nq) w2:=(((Gr.refl _).alloc _).touch _).trans (VxQ Y _ (λk e _=>e));have V:=hid (Xb.o.touch t2 (λe=>YnK Xc.o Xb.o (by decide) e rfl rfl));have k0:=V.o.cc 0;have kf:=V.o.free 0;have Xd:=hid t2;have Xa:=hid Z;have Xj:=hid (ν I E);clear Z Y I E t2);obtain⟨W3,J⟩:∃W3,W3=w2.setCell ⟨s,0,none⟩ (.slice (some ⟨g2,0,none⟩) (N+1) c2):=⟨_,rfl⟩;rw[<-J];have R3:Rec W3 s 224 [.slice (some ⟨g2,0,none⟩) (N+1) c2,.int .i64 R,.int .i64 hi,.bool lost]:=by rw[J];exact Rec.set V.o 0 _
  have O3:=VDR (q:=s) (j:=0) Xa.o (.slice (some ⟨g2,0,none⟩) (N+1) c2) (λg hg=>YnK Xa.o V.o (by decide) hg rfl);rw[<-J]at O3
  have T3:XF4 S w W3:=by
   rw[J];exact((HG.o.touch S).trans (Xd.o.mono (λk _ hk=>HS.o k (by rw[<-HN.o];exact hk)))).setCell (a:=⟨s,0,none⟩) (λ_=>h1) _
  have y0:=R3.cc 0;have y2:=R3.cc 2;have yf:=R3.free 2;have Xf:=hid (ν R3 (ν O3 T3));have hsz:(w.drewN nq).heap.size=w.heap.size:=rfl;clear J R3 O3 T3 k0 kf c0 c1 c3 f3;obtain⟨Sx,U⟩:∃Sx:World->Prop,Sx=λW'=>W'.cell? ⟨s,0,none⟩=some (.slice (some ⟨g2,0,none⟩) (N+1) c2)/\W'.cell? ⟨s,2,none⟩=some (.int .i64 hi):=⟨_,rfl⟩;have x0:∀p':ZJV Sx,p'.w.cell? ⟨s,0,none⟩=some (.slice (some ⟨g2,0,none⟩) (N+1) c2):=λp'=>(ZJV.get U p').1;have x2:∀p':ZJV Sx,p'.w.cell? ⟨s,2,none⟩=some (.int .i64 hi):=λp'=>(ZJV.get U p').2;have G:Sx W3.drew:=by rw[U];exact⟨y0,y2⟩
  clear U;have B:Inhabited (ZJV Sx):=⟨⟨_,G⟩⟩;refine Vv2 Sx 13 [([0,1,2,3,4,5,6,7,8,9,10,11,12],13)] [] (by kernel_rfl) (by kernel_rfl) G ?_;refine XGW ?_;simp only[XZy,ζ,ξ]
  repeat(go_big_quiet_step (fail))
  refine θ ?_;go_wp2;refine⟨.inl trivial,?_⟩;refine Z9U ?_;refine θ ?_;refine β ?_;clear x0 x2 G B;clear Sx;go_wp2;go_ret;obtain⟨R3,O3,T3⟩:=Xf.o;have Xh:=Xj.o;refine .inr ⟨by rw[<-HN.o];omega,rfl,(T3.setCell (a:=⟨s,2,none⟩) (λ_=>h1) _).drew,.inl h1,h2,by rw[ζk,<-HN.o];simp;omega,.slice (some ⟨g2,0,none⟩) (N+1) c2,max hi ((N:Int)+1),Rec.gr (Rec.set R3 2 _) (Gr.refl _).drew,?_,λg hg=>?_⟩
  ·rw[ζk,<-HN.o,show zs (l++[a])=zs l++[.int .i64 a]by unfold zs;rw[ζO];rfl];exact Y9I (VDR O3 _ (λg hg=>YnK O3 R3 (by decide) hg rfl)) (Gr.refl _).drew
  ·cases hg;rcases Xh.1 with h|h
   ·exact .inl (HS.o _ (by rw[<-HN.o];exact h))
   ·right
    show w.heap.size<=g2
    omega
end
end
section
open Go.RowKit Word
structure V5d(w:World)(r g:Nat)(rs:List Int):Prop where
 rcd:Rec w r 152 [.slice (some ⟨g,0,none⟩) rs.length rs.length]
 row:w.ownsRow 0 3 1 (.slice (some ⟨g,0,none⟩) rs.length rs.length) rs.length (zs rs)
 ne:rs≠[]
 le:rs.length<=64
theorem YR5(l:List Int)(i:Nat)(a:Int):(zs l).set i (.int .i64 a)=zs (l.set i a):=by unfold zs;rw[ξG]
theorem V5d.touch{S:Nat->Prop}{w w':World}{r g:Nat}{rs:List Int}(h:V5d w r g rs)(t:XF4 S w w')(h1:¬S r)(h2:¬S g):V5d w' r g rs:=
 ⟨h.rcd.touch t h1,Zs2 h.row t (λg' hg=>by cases hg;exact h2),h.ne,h.le⟩
theorem V5d.gr{w w':World}{r g:Nat}{rs:List Int}(h:V5d w r g rs)(t:Gr w w'):V5d w' r g rs:=⟨h.rcd.gr t,Y9I h.row t,h.ne,h.le⟩
theorem V5d.lt{w:World}{r g:Nat}{rs:List Int}(h:V5d w r g rs):r<w.heap.size/\g<w.heap.size:=⟨h.rcd.lt,(Vvr h.row rfl).2⟩
theorem V5d.dif{w:World}{r g:Nat}{rs:List Int}(h:V5d w r g rs):g≠r:=YnK h.row h.rcd (by decide) rfl rfl
theorem V5d.set{w:World}{r g:Nat}{rs:List Int}(h:V5d w r g rs)(i:Nat)(a:Int):V5d (w.setCell ⟨g,i,none⟩ (.int .i64 a)) r g (rs.set i a):=by
 have hl:(rs.set i a).length=rs.length:=υ;refine⟨?_,?_,λe=>h.ne ?_,by rw[hl];exact h.le⟩
 ·rw[hl];exact VDR h.rcd _ (λg' hg e=>by cases hg;exact h.dif e.symm)
 ·rw[hl];have:=(World.ownsRow.stored h.row i (.int .i64 a)).1;rw[YR5]at this;exact this
 ·have:(rs.set i a).length=0:=by rw[e];rfl
  rw[hl]at this;exact ζv this
theorem V5d.cell{w:World}{r g:Nat}{rs:List Int}(h:V5d w r g rs){i:Nat}(hi:i<rs.length):w.cell? ⟨g,i,none⟩=some (.int .i64 rs[i]):=ZBn h.row (JbU hi)
section
variable {w:World} {r g:Nat} {rs:List Int}
def slE(rs:List Int)(i:Int):Int:=if 0<=i/\i<rs.length then 0 else 17
theorem Vs4(h:V5d w r g rs){b:Nat}{i:Int}(hc:w.cell? ⟨b,0,none⟩=some (.int .i64 i)):Calls prog 101 #[.pointer (some ⟨r,0,none⟩),.slice (some ⟨b,0,none⟩) 1 1] w λe w'=>e=.returned (.int .i64 (slE rs i))/\w=w':=by
 have c0:=h.rcd.cc 0;have X:=h.le;have hbl:=ZQf hc;clear h;obtain⟨n,hn⟩:∃n,n=rs.length:=⟨_,rfl⟩;unfold slE;rw[<-hn]at c0 X⊢;rcases(by omega:i<0\/(0<=i/\(n:Int)<=i)\/(0<=i/\i<n))with h1|h1|h1
 ·have d0:decide (i<0)=true:=κ h1;have e0:(if 0<=i/\i<(n:Int)then (0:Int)else 17)=17:=ϑ Ω;rw[e0];go_enter func101,ntmps101;go_wp2
  go_loopw [11] (λs11 wr=>wr=w/\s11=.int .i64 0) (λ_ _=>0)
  case atStart=>exact⟨rfl,rfl⟩
  case round=>
   obtain⟨rfl,rfl⟩:=hrel;go_wp2;go_ret;exact⟨rfl,rfl⟩
 ·obtain⟨h1,h2⟩:=h1;have d0:decide (i<0)=false:=ψ Ω;have d1:decide ((n:Int)<=i)=true:=κ h2;have e0:(if 0<=i/\i<(n:Int)then (0:Int)else 17)=17:=ϑ Ω;rw[e0];go_enter func101,ntmps101;go_wp2
  go_loopw [11] (λs11 wr=>wr=w/\s11=.int .i64 0) (λ_ _=>0)
  case atStart=>exact⟨rfl,rfl⟩
  case round=>
   obtain⟨rfl,rfl⟩:=hrel;go_wp2;go_ret;exact⟨rfl,rfl⟩
 ·obtain⟨h1,h2⟩:=h1;have d0:decide (i<0)=false:=ψ Ω;have d1:decide ((n:Int)<=i)=false:=ψ Ω;have e0:(if 0<=i/\i<(n:Int)then (0:Int)else 17)=0:=μ ⟨h1,h2⟩;rw[e0];go_enter func101,ntmps101;go_wp2
  go_loopw [11] (λs11 wr=>∃j:Nat,j<=1/\wr=w/\s11=.int .i64 j) (λs11 _=>1-(intOf s11).toNat)
  case atStart=>exact⟨0,by omega,by simp⟩
  case round=>
   obtain⟨j,hj,rfl,rfl⟩:=hrel;rcases(by omega:j=0\/j=1)with rfl|rfl
   ·go_wp2;go_round
    case rel=>exact⟨1,by omega,trivial,by go_num⟩
    case measure=>simp[intOf]
   ·go_wp2;go_ret;exact⟨rfl,rfl⟩
theorem YeU(h:V5d w r g rs):Calls prog 152 #[.pointer (some ⟨r,0,none⟩)] w λe w'=>e=.returned (.int .i64 (rs.length:Nat))/\w=w':=by
 have c0:=h.rcd.cc 0;clear h;go_enter func152,ntmps152;go_wp2;go_ret;exact⟨rfl,rfl⟩
theorem Jwg(h:V5d w r g rs){i:Nat}(hi:i<rs.length):Calls prog 55 #[.pointer (some ⟨r,0,none⟩),.int .i64 i] w λe w'=>e=.returned (.tuple #[.int .i64 rs[i],.int .i64 0])/\Gr w w':=by
 have HC:=hid (Vs4 (h.gr ((Gr.refl w).alloc (.cells #[.int .i64 i] 3))) (b:=w.heap.size) (i:=i) ((Rec.new w 3 [.int .i64 i]).cell (j:=0) rfl));rw[show slE rs i=0 from μ ⟨by omega,by omega⟩]at HC;have h':=h.gr ((Gr.refl w).alloc (.cells #[.int .i64 i] 3));have c0:=h'.rcd.cc 0;have c1:=h'.cell hi;have X:=h'.le;obtain⟨x,hx⟩:∃x,x=rs[i]:=⟨_,rfl⟩;rw[<-hx]at c1⊢;obtain⟨n,hn⟩:∃n,n=rs.length:=⟨_,rfl⟩;rw[<-hn]at c0 X hi;clear h h' hx hn;go_enter func55,ntmps55;go_wp2_with(go_at_call 101;refine HC.o.mono ?_;rintro e w1 ⟨rfl,rfl⟩);go_ret2;exact⟨rfl,(Gr.refl w).alloc _⟩
theorem VHr(h:V5d w r g rs){i:Nat}(hi:i<rs.length){a:Int}(ha:0<=a):Calls prog 60 #[.pointer (some ⟨r,0,none⟩),.int .i64 i,.int .i64 a] w λe w'=>e=.returned (.int .i64 0)/\XF4 (λk=>k=g) w w'/\V5d w' r g (rs.set i a):=by
 have HC:=hid (Vs4 (h.gr ((Gr.refl w).alloc (.cells #[.int .i64 i] 3))) (b:=w.heap.size) (i:=i) ((Rec.new w 3 [.int .i64 i]).cell (j:=0) rfl));rw[show slE rs i=0 from μ ⟨by omega,by omega⟩]at HC;have h':=h.gr ((Gr.refl w).alloc (.cells #[.int .i64 i] 3));have HR:=hid h';have c0:=h'.rcd.cc 0;have c1:=h'.cell hi;have cf:=QxS h'.row i;have X:=h'.le;have d0:decide (a<0)=false:=ψ Ω;obtain⟨n,hn⟩:∃n,n=rs.length:=⟨_,rfl⟩;rw[<-hn]at c0 X hi;clear h h' hn;go_enter func60,ntmps60;go_wp2_with(go_at_call 101;refine HC.o.mono ?_;rintro e w1 ⟨rfl,rfl⟩);go_ret;exact⟨rfl,XF4.setCell (S:=λk=>k=g) (((Gr.refl w).alloc _).touch _) (a:=⟨g,i,none⟩) (λ_=>rfl) _,HR.o.set i a⟩
theorem YSY(n:Nat):(madeCells #[.int .i64 0] n).toList=zs (List.replicate n 0):=by
 unfold madeCells zs;apply ζ9
 ·simp
 ·intro i h1 h2;simp[ψi]
theorem QEf:(prog.info? 3).map (λi=>(i.zero,i.size,i.bytes))=some (some (.int .i64 0),1,8):=by kernel_rfl
theorem YuH{n:Nat}(h1:1<=n)(h2:n<=64)(w:World):Calls prog 41 #[.int .i64 n] w λe w'=>∃r g,e=.returned (.tuple #[.pointer (some ⟨r,0,none⟩),.int .i64 0])/\Gr w w'/\V5d w' r g (List.replicate n 0)/\w.heap.size<=r/\w.heap.size<=g:=by
 obtain⟨i0,hi,J,V,U⟩:=info_parts QEf;have HB:Hid (i0.bytes*n<=281474976710656):=⟨by rw[U];omega⟩;have HM:Hid (n<=maxLen):=⟨by unfold maxLen;omega⟩;have d0:decide ((n:Int)<1)=false:=ψ Ω;have d1:decide (64<(n:Int))=false:=ψ Ω;go_enter func41,ntmps41;go_wp2_with(at_make;refine wpList_make_full _ rfl _ _ 66 rfl w.heap.size 3 i0 (.int .i64 0) 1 underlying66 hi J V .i64 .i64 _ _ n rfl rfl ?h1 ?h2 HB.o HM.o (π _) ?h3)
 case h1=>omega
 case h2=>omega
 case h3=>
  intro w1 Y X;have Z:Gr w w1:=(JEA X (λ_=>False) (λk e _=>by cases e)).gr;have HO:=hid Y;have HG:=hid Z;clear Y X Z;go_wp2;go_ret2;obtain⟨g,c,hv,hg2,-,-⟩:=YS7 HO.o Ω;simp only[Value.slice.injEq,Option.some.injEq,Addr.mk.injEq,and_true,true_and]at hv;have hl:(List.replicate n (0:Int)).length=n:=ζC;refine⟨w1.heap.size,w.heap.size,Qh8 rfl rfl,HG.o.alloc _,⟨?_,?_,λe=>?_,by rw[hl];exact h2⟩,HG.o.size,π _⟩
  ·rw[hl];exact Rec.new w1 _ _
  ·rw[hl];have:=Y9I (XZg HO.o) ((Gr.refl w1).alloc (.cells #[.slice (some ⟨w.heap.size,0,none⟩) n n] 152));rw[YSY]at this;exact this
  ·have:=congrArg List.length e;rw[hl]at this;simp at this;omega
theorem Qgq{n b cap:Nat}{l:List Int}(hn:n=l.length)(hn0:n≠0)(hb:b<w.heap.size)(hc:∀i (h:i<l.length),w.cell? ⟨b,i,none⟩=some (.int .i64 l[i]))(hl:n<=64):
  Calls prog 100 #[.slice (some ⟨b,0,none⟩) n cap] w λe w'=>∃g c,e=.returned (.slice (some ⟨g,0,none⟩) n c)/\Gr w w'/\w.heap.size<=g/\w'.ownsRow 0 3 1 (.slice (some ⟨g,0,none⟩) n c) n (zs l):=by
 obtain⟨i0,hi,E,A,G⟩:=info_parts QEf;have hsn:=Lib.run_eql_slice_nil (P:=prog) w 66 3 (some ⟨b,0,none⟩) n cap 0 0 underlying66
 have J:(w.alloc (.cells #[] 3)).ownsRow w.heap.size 3 1 (.slice (some ⟨w.heap.size,0,none⟩) 0 0) 0 []:=
  ⟨rfl,.inr ⟨w.heap.size,0,#[],rfl,π _,heap_alloc_new w _,π _,by unfold maxLen;omega,rfl,rfl⟩⟩
 have X:∀(j:Nat) (u:Value),(zs l)[j]?=some u->(w.alloc (.cells #[] 3)).cell? (Addr.add ⟨b,0,none⟩ j)=some u:=λj u hj=>by
  have N:j<l.length:=by
   rcases γ j l.length with h|h
   ·exact h
   ·rw[ζf (by simpa[zs]using h)]at hj;cases hj
  rw[JbU N]at hj;cases hj;have e:Addr.add ⟨b,0,none⟩ j=⟨b,j,none⟩:=by unfold Addr.add;split <;> simp_all
  rw[e,ψh (h:=hb),hc j N]
 have V:∀u∈zs l,u.oneCell'=true:=λu hu=>by
  obtain⟨i,_,rfl⟩:=ξp.1 hu;rfl
 have HO:=hid J;have HC:=hid X;have H1:=hid V;have HL:=hid (show n=(zs l).length by rw[hn];simp[zs]);have D:=hid hn0;clear J X V hn0 hc hn;go_enter func100,ntmps100;go_wp2_with(at_builtin;(refine wpList_append_own _ rfl _ _ 66 rfl w.heap.size 3 i0 (.int .i64 0) 1 8 underlying66 hi E A G rfl (by decide) _ _ _ rfl HO.o ⟨b,0,none⟩ n cap (zs l) rfl (by rw[<-HL.o];omega) HC.o H1.o (by unfold maxLen;omega) Ω (by simp) ?_);intro v' w1 Y U _;obtain⟨g,c,hv,I,hg2,hg3⟩:=YS7 Y (by have:=D.o;omega);subst hv);go_ret;have Z:(w.alloc (.cells #[] 3)).grownBy w1 (some w.heap.size):=U;refine⟨g,c,by simp,?_,I,by simpa using XZg Y⟩;refine XF4.gr ((((Gr.refl w).alloc _).touch _).trans' (JEA Z (λk=>k=w.heap.size) (λk e _=>by cases e;rfl)) ?_);rintro i hi rfl;omega
theorem ZbJ(h:V5d w r g rs):Calls prog 54 #[.pointer (some ⟨r,0,none⟩)] w λe w'=>∃g c,e=.returned (.slice (some ⟨g,0,none⟩) rs.length c)/\Gr w w'/\w.heap.size<=g/\w'.ownsRow 0 3 1 (.slice (some ⟨g,0,none⟩) rs.length c) rs.length (zs rs):=by
 have c0:=h.rcd.cc 0;have J:=hid (Qgq (w:=w) (b:=g) (cap:=rs.length) rfl (λe=>h.ne (ζv e)) h.lt.2 (λi hi=>h.cell hi) h.le);clear h;go_enter func54,ntmps54;go_wp2_with(go_at_call 100;refine J.o.mono ?_;rintro e w1 ⟨g1,c1,rfl,X,Y,ho⟩;have U:=hid X;have Z:=hid Y;have V:=hid ho;clear X Y ho);go_ret;exact⟨g1,c1,rfl,U.o,Z.o,V.o⟩
end
end
section
open Go.RowKit Word
section
variable {w:World} {r g:Nat} {rs:List Int}
def ZCk(g r:Nat)(rs:List Int)(i:Nat)(out:List Int)(J:Nat->World->List Int->Prop)(e:Ending)(W':World):Prop:=
 ∃b:Int,e=.returned (.int .i64 b)/\V5d W' r g (out++rs.drop i)/\∀W'',XF4 (λk=>k=g) W' W''->J (i+1) W'' (out++[max b 0])
theorem V3M{out rs:List Int}{i:Nat}(hi:i<rs.length)(ho:out.length=i)(b:Int):(out++rs.drop i).set i b=(out++[b])++rs.drop (i+1):=by
 subst ho;rw[List.set_append_right _ _ (π _),Nat.sub_self,ξB hi,ζw,ζX];rfl
theorem Vy9{out rs:List Int}{i:Nat}(hi:i<rs.length)(ho:out.length=i)(h:i<(out++rs.drop i).length):(out++rs.drop i)[i]=rs[i]:=by
 subst ho;simp
theorem ZOv{F:Nat}{pre caps:Array Value}(J:Nat->World->List Int->Prop)(hcf:∀args w,(callFunc F args).run prog w=.ok (.enter F args) w)
  (h:V5d w r g rs) (h0:J 0 w [])
  (hz:∀i (hi:i<rs.length) W out,out.length=i->J i W out->rs[i]=0->J (i+1) W (out++[0]))
  (hF:∀i (hi:i<rs.length) W out,out.length=i->J i W out->V5d W r g (out++rs.drop i)->rs[i]≠0->∀W0,Gr W W0->Calls prog F (pre++#[.int .i64 rs[i]]++caps) W0 (ZCk g r rs i out J)):
  Calls prog 123 #[.pointer (some ⟨r,0,none⟩),.func (.func F) pre caps] w λe w'=>e=.returned (.tuple #[])/\∃out,out.length=rs.length/\J rs.length w' out/\V5d w' r g out:=by
 have Xc:=h.le;obtain⟨n,hn⟩:∃n,n=rs.length:=⟨_,rfl⟩;have c0:=h.rcd.cc 0;have HN:=hid hn;have HR:=hid h;have Xd:=hid h0;have HZ:=hid hz;have HF:=hid hF;rw[<-hn]at c0 Xc⊢;clear h h0 hz hF hn;go_enter func123,ntmps123;go_wp2
 go_loopw [13] (λs13 wr=>∃(i:Nat) (out:List Int),i<=n/\Hid (out.length=i)/\Hid (J i wr out)/\Hid (V5d wr r g (out++rs.drop i))/\s13=.int .i64 i) (λs13 _=>n-(intOf s13).toNat)
 case atStart=>exact⟨0,[],by omega,⟨rfl⟩,Xd,HR,rfl⟩
 case round=>
  obtain⟨i,out,hi,HO,HJ,HT,rfl⟩:=hrel;clear c0;by_cases Z:i=n
  ·subst Z;go_wp2;refine ζF (ζr rfl _ _ _) rfl ?_;refine⟨rfl,out,HO.o,HJ.o,?_⟩;have:=HT.o;rw[HN.o,List.drop_length,ξ8]at this;exact this
  ·have B:i<rs.length:=by have:=HN.o;omega
   have X:(out++rs.drop i).length=n:=by have:=HO.o;have:=HN.o;simp;omega
   have hiI:(i:Int)<(n:Int):=Ω
   have c1:=HT.o.cell (i:=i) (by rw[X];omega);rw[Vy9 B HO.o]at c1;obtain⟨a,ha⟩:∃a,a=rs[i]:=⟨_,rfl⟩;have HA:=hid ha;have I:=hid B;have Xa:=hid X;have U:=hid Z;rw[<-ha]at c1;clear ha Z;by_cases E:a=0
   ·subst E;clear X;go_wp2;go_round
    case rel=>
     refine⟨i+1,out++[0],by have:=U.o;omega,⟨by have:=HO.o;simp[this]⟩,⟨HZ.o i I.o _ out HO.o HJ.o HA.o.symm⟩,⟨?_⟩,by go_num⟩;have:=HT.o;rw[ξB I.o,<-HA.o]at this;simpa using this
    case measure=>have:=U.o;simp[intOf];omega
   ·have d0:(a !=0)=true:=by simpa using E
    have Y:=hid (HF.o i I.o wr out HO.o HJ.o HT.o (by rw[<-HA.o];exact E) _ (Gr.refl wr).drew);rw[<-HA.o]at Y;unfold ZCk at Y;have y0:=HT.o.rcd.cc 0;rw[X]at y0;have hrl:=HT.o.lt;clear X;go_upto_region 5 with(fail);obtain⟨Sx,N⟩:∃Sx:World->Prop,Sx=λW'=>W'.cell? ⟨r,0,none⟩=some (.slice (some ⟨g,0,none⟩) n n):=⟨_,rfl⟩;have x0:∀p':ZJV Sx,p'.w.cell? ⟨r,0,none⟩=some (.slice (some ⟨g,0,none⟩) n n):=λp'=>ZJV.get N p';have D:Sx wr.drew:=by rw[N];exact y0
    have Xe:=hid N;clear N;have A:Inhabited (ZJV Sx):=⟨⟨_,D⟩⟩;have hmax:=V9O prog;refine Vv2 Sx 10 [([0,1,2,3,4,5,6],7),([8,9],10)] [] (by kernel_rfl) (by kernel_rfl) D ?_;refine XGW ?_;simp only[XZy,ζ,ξ]
    repeat(go_big_quiet_step (fail))
    refine θ ?_;go_wp2_with(refine Y.o.mono ?_;rintro e w3 ⟨b,rfl,V,G⟩;have Xb:=hid V;have Xf:=hid G;have z0:=V.rcd.cc 0;have z1:=V.cell (i:=i) (by rw[Xa.o];have:=U.o;omega);have zf:=QxS V.row i;rw[Xa.o]at z0;clear V G);refine⟨.inr (ZJV.of (by rw[Xe.o];exact z0)),?_⟩;refine XGW ?_;simp only[XZy,ζ,ξ]
    repeat(go_big_quiet_step (fail))
    refine θ ?_;go_wp2;refine⟨.inl trivial,?_⟩;refine Z9U ?_;refine θ ?_;refine β ?_;clear x0 D A;go_wp2;go_round
    case rel=>
     refine⟨i+1,out++[max b 0],by have:=U.o;omega,⟨by have:=HO.o;simp[this]⟩,⟨Xf.o _ ?_⟩,⟨?_⟩,by go_num⟩
     ·exact XF4.setCell (S:=λk=>k=g) (XF4.refl _ _) (a:=⟨g,i,none⟩) (λ_=>rfl) _
     ·have:=Xb.o.set i (max b 0);rw[V3M I.o HO.o]at this;exact this
    case measure=>have:=U.o;simp[intOf];omega
end
end
end Go.Proofs.YteihjlcmjecmfaaGreatDoor
