/- Part 5 of what QueuePlays leans on: my own lemmas, merged by shake.py. -/
import Derived.Test.YtggjoonlcjjgkaaGreatDoorQueuePlaysD
import Derived.Defers
import Derived.Recover
import Derived.Laws.Pointers
import Derived.Maps.OwnSet
namespace Go.Proofs.YtggjoonlcjjgkaaGreatDoor
open _root_.Go.Proofs.Tryz
set_option maxHeartbeats 3200000
set_option maxRecDepth 100000
open Go.RowKit Word
variable{l':Array Bool}{caps:Array Value}{Q:Exit->Act->World->Prop}{a:Int}{O l out rs:List Int}{qs:List Nat}{L:List Ob}{xs:List Value}{F K M R b b4 bA bH bT bW c f g i id j k k1 k2 m n p q r s to x:Nat}{S S2 Sx T:Nat->Prop}{A:Option Addr}{P:Program}{md:Region.Mode}{e:TypeId}{sp z:Value}{v v':Vm}{w w':World}{G:World->Prop}
abbrev Lg:=List (Int×Nat)
variable{H:Int->Int->Vm->Lg->(Nat->Prop)->(Nat->Prop)->World->Prop}
def lgV(l:Lg):List Value:=l.flatMap λx=>[iI x.1,uU (x.2:Nat)]
structure CW(w:World)(S:Nat->Prop)(k:Nat)(sp:Value)(l:Lg):Prop where
 sk:S k
 ll:l.length<=1048576
 lv:∀x∈l,x.2<18446744073709551616
 row:∃vl,Rec w k 204 [sp,vl]/\w.ownsRow 0 230 2 vl l.length (lgV l)/\∀g,vl.ownBlock=some g->S g
theorem CW.touch{l:Lg}(h:CW w S k sp l)(t:AB T w w')(hS:∀k,S k->k<w.heap.size->¬T k):CW w' S k sp l:=by
 obtain⟨h1,h2,h3,vl,hr,ho,hs⟩:=h;exact⟨h1,h2,h3,vl,hr.touch t (hS _ h1 hr.lt),BV ho t (λg hg=>hS g (hs g hg) (BE ho hg).2),hs⟩
theorem CW.gr{l:Lg}(h:CW w S k sp l)(t:Gr w w'):CW w' S k sp l:=h.touch (t.touch (λ_=>False)) (λ_ _ _ h=>h)
theorem CW.mono{l:Lg}(h:CW w S k sp l)(hT:∀k,S k->T k):CW w T k sp l:=by
 obtain⟨h1,h2,h3,vl,hr,ho,hs⟩:=h;exact⟨hT _ h1,h2,h3,vl,hr,ho,λg hg=>hT g (hs g hg)⟩
def H5(why at':Int):Value:=.iface 247 (.agg #[iI why,iI at'])
theorem S6(a:Addr)(w:World):(binOp BinOp.eql 114 (.iface 78 (.pointer (some a))) .nilIface).run prog w=.ok (.bool false) w:=by kernel_rfl
section
variable{l:Lg}
theorem Y3{T:TypeId}{rv:Value}(n0:∀w,(binOp BinOp.eql 114 (.iface T rv) .nilIface).run prog w=.ok (.bool false) w)(hW:CW w S k (.iface T rv) l)(why a:Int):Calls prog 154 #[pP k,iI why,iI a] w λe w'=>e=.panicked [{v:=H5 why a,recovered:=false}]/\w=w':=by
 obtain⟨vl,hr,-⟩:=hW.row;have c0:=hr.cc 0;go_enter func154,ntmps154;go_wp2;exact⟨rfl,rfl,rfl⟩
theorem QD(n:Nat)(a:Addr)(w:World):(nilAhead (n+1) 78 (.pointer (some a)) "Store").run prog w=.ok (some false) w:=by kernel_rfl
theorem PG(n:Nat)(a:Addr)(w:World):(method (n+1) 78 (.pointer (some a)) "Store").run prog w=.ok (169,.pointer (some a)) w:=by kernel_rfl
def Z1x(w:World)(v:Vm)(a:Int)(e:Ending)(w':World):Prop:=Gr w w'/\(v.ldE a=0->e=.returned (uU (v.ldV a:Nat)))/\(v.ldE a≠0->e=.panicked [{v:=H5 (v.ldE a) a,recovered:=false}])
theorem XN(hW:CW w S k (spV q) l)(hV:AC w S2 q v)(a:Int):Calls prog 153 #[pP k,iI a] w (Z1x w v a):=by
 have HW:=hW;have HL:=(λ(w':World) (g:Gr w w')=>JN (hV.gr g) a);obtain⟨vl,hr,-⟩:=hW.row;have c0:=hr.cc 0;unfold spV at c0;have n0:=S6;have n1:=WS;have n2:=UL;clear hr hW hV;by_cases h0:v.ldE a=0
 ·have HE:=h0;rw[h0]at HL;clear h0;go_enter func153,ntmps153;go_wp2_with(go_at_call 190;refine(HL _ (Gr.refl w)).mono ?_;rintro e w1 ⟨rfl,X⟩;have Y:=X;clear X);go_ret;exact⟨Y,λ_=>rfl,λh=>absurd HE h⟩
 ·have HE:=h0;obtain⟨y,hy⟩:∃y,y=v.ldE a:=⟨_,rfl⟩;have d2:(y==0)=false:=by rw[hy];simpa using h0
  rw[<-hy]at HL;have HY:=ι hy;clear h0 hy;go_enter func153,ntmps153
  go_wp2_with(first
   | (go_at_call 190;refine(HL _ (Gr.refl w)).mono ?_;rintro e w1 ⟨rfl,X⟩;have Y:=X;clear X)
   | (go_at_call 154;refine(Y3 (S6 _) (HW.gr Y) y a).mono ?_;rintro e w2 ⟨rfl,rfl⟩))
  exact⟨rfl,Y,λh=>absurd h HE,λ_=>by rw[<-HY.o]⟩
def GY(v:Vm)(l:Lg):Vm:=l.foldr (λx v=>v.st x.1 x.2) v
theorem XV1(v:Vm)(l:Lg)(x:Int×Nat):GY v (l++[x])=GY (v.st x.1 x.2) l:=by
 unfold GY;simp_all
theorem Z1(h:AE v)(ha:v.ldE a=0)(x:Nat):(v.st a x).st a (v.ldV a)=v:=by
 have e1:v.st a x={v with pl:={v.pl with wd:=v.pl.wd.set (v.at a) x}}:=θ ha;have e2:(v.st a x).ldE a=0:=by grind [FN]
 have e3:(v.st a x).st a (v.ldV a)={v with pl:={v.pl with wd:=(v.pl.wd.set (v.at a) x).set (v.at a) (v.ldV a)}}:=by
  rw[e1]at e2⊢;exact θ e2
 have e4:v.ldV a=v.pl.wd.getD (v.at a) 0:=θ ha;have hl:=h.place_lt ha
 simp_all
def JZ7(w:World)(S S2:Nat->Prop)(k q:Nat)(v:Vm)(l:Lg)(a:Int)(x:Nat)(e:Ending)(w':World):Prop:=
 (v.ldE a≠0/\Gr w w'/\e=.panicked [{v:=H5 (v.ldE a) a,recovered:=false}]) ∨
 (v.ldE a=0/\e=.returned (.tuple #[])/\AB (λi=>S i\/S2 i) w w'/\AC w' (AD S2 w) q (v.st a x)/\CW w' (plus S w) k (spV q) (l++[(a,v.ldV a)]))
theorem Qbw:(prog.info? 230).map (λi=>(i.zero,i.size,i.bytes))=some (some (.agg #[iI 0,uU 0]),2,16):=by kernel_rfl
theorem TO(hW:CW w S k (spV q) l)(hV:AC w S2 q v)(hd:∀i,S i->¬S2 i)(hl:l.length<1048576)(a:Int)(hx:x<18446744073709551616):
  Calls prog 111 #[pP k,iI a,uU x] w (JZ7 w S S2 k q v l a x):=by
 have HW:=hW;have HV:=hV;have HX:=hx;have HD:=hd;obtain⟨vl,hr,ho,hs⟩:=hW.row;have c0:=hr.cc 0;unfold spV at c0;have n0:=S6;have n1:=QD;have n2:=PG;by_cases h0:v.ldE a=0
 ·have HE:=h0;obtain⟨A,c,rfl,Xl,Xe⟩:=DF ho;unfold maxLen at Xe;have HR:=hr;have HO:=ho;have HS:=hs;obtain⟨N,hN⟩:∃N,N=l.length:=⟨_,rfl⟩;have HN:=ι hN;rw[<-hN]at hl Xl;obtain⟨ii,Xj,Xi,Xk,Xm⟩:=info_parts Qbw;have Xf:=hr.lt;have E:=hW.sk;clear hr hW hV h0 ho hs hN hd;go_enter func111,ntmps111
  go_wp2_with(first
   | (go_at_call 153;refine(XN HW HV a).mono ?_;rintro e w1 ⟨Z,he,-⟩;obtain rfl:=he HE;have k0:=(Z.cell Xf 0).trans c0;have X:=Z;clear Z he)
   | (go_at_call 169;refine(KU (HV.cut.gr X) a HX).mono ?_;rintro e w2 ⟨rfl,I,Xc⟩;rw[HE];have U:=((HR.gr X).touch I (λh=>HD _ E h.1));have d1:=U.cc 1;have df:=U.free 1;have B:=(BV (CM HO X) I (λg hg h=>HD _ (HS g hg) h.1));rw[<-HN.o]at d1 B;have Xd:=I;have Xo:=Xc;clear I Xc)
   | (at_builtin;refine wpList_append_lies _ rfl _ _ 202 rfl 0 230 ii _ 2 16 underlying202 Xj Xi Xk Xm rfl (by decide) (.slice A N c) N (lgV l) rfl (B.alloc _) ⟨w2.heap.size,0,none⟩ 1 1 [iI a,uU (v.ldV a:Nat)] rfl rfl (ξs (cs:=#[iI a,uU (v.ldV a:Nat)]) (t:=230) (fr:=(0,0)) (heap_alloc_new w2 (.cells #[.int .i64 a,.int .u64 (v.ldV a:Nat)] 230))) (by simp[Value.oneCell']) Ω (by unfold maxLen;omega) Ω (ζc _) (w2.heap.size+1) (by simp) ?_;intro g3 c3 w3 J Y D G;have t3:AB (λk=>(Value.slice A N c).ownBlock=some k) w2 w3:=(((Gr.refl _).alloc _).touch _).trans (EC Y _ (λk e _=>e));have V:=(U.touch t3 (λe=>AO B U (by decide) e rfl rfl));have d3:=V.cc 1;have df3:=V.free 1;have Xa:=t3;have Xb:=J;have Xg:=(ψ D G);clear J Y D G t3))
  refine ζt (ζk rfl _ _ _) rfl ?_;have hsz1:=X.size;have hsz2:=Xd.size;have Xh:=Xg;have hT:AB (λi=>S i\/S2 i) w w3:=((X.touch _).trans (Xd.mono (λi _ hi=>.inr hi.1))).trans (Xa.mono (λi _ hi=>.inl (HS i (by rw[<-HN.o];exact hi))));have Xn:∀i,AD S2 w i->¬(Value.slice A N c).ownBlock=some i:=λi hi e=>HD i (HS i (by rw[<-HN.o];exact e)) hi.1;refine .inr ⟨HE,rfl,hT.setCell (a:=⟨k,1,none⟩) (λ_=>.inl E) _,?_,.inl E,by rw[ζo,<-HN.o];simp;omega,λy hy=>(ζg.1 hy).elim (HW.lv y) (λh=>by simp at h;subst h;exact HV.ok.ldV_lt a),.slice (some ⟨g3,0,none⟩) (N+1) c3,Rec.set V 1 _,?_,λg hg=>?_⟩
  ·exact(Xo.touch Xa (λi hi _=>Xn i hi)).touch ((AB.refl (λi=>i=k) w3).setCell (a:=⟨k,1,none⟩) (λ_=>rfl) _) (λi hi _ e=>by subst e;exact HD i E hi.1)
  ·rw[ζo,<-HN.o,show lgV (l++[(a,v.ldV a)])=lgV l++[iI a,uU (v.ldV a:Nat)]by unfold lgV;rw[List.flatMap_append];rfl];exact AW Xb _ (λg hg=>AO Xb V (by decide) hg rfl)
  ·cases hg;rcases Xh.1 with h|h
   ·exact .inl (HS _ (by rw[<-HN.o];exact h))
   ·right
    show w.heap.size<=g3
    omega
 ·have HE:=h0;clear hr hW hV h0 ho hs hd;go_enter func111,ntmps111;go_wp2_with(go_at_call 153;refine(XN HW HV a).mono ?_;rintro e w1 ⟨Z,-,he⟩;obtain rfl:=he HE;have X:=Z;clear Z he);exact⟨rfl,.inl ⟨HE,X,rfl⟩⟩
theorem Y4S(v:Vm){l:Lg}(h:j<l.length):GY v (l.drop j)=(GY v (l.drop (j+1))).st l[j].1 l[j].2:=by
 rw[ξu h];rfl
theorem XHY{l:Lg}(h:j<l.length):(lgV l)[j*2]?=some (iI l[j].1)/\(lgV l)[j*2+1]?=some (uU (l[j].2:Nat)):=by
 induction l generalizing j with
 | nil=>grind
 | cons x l ih=>
  have e:lgV (x :: l)=iI x.1 :: uU (x.2:Nat) :: lgV l:=rfl;cases j with
  | zero=>simp_all
  | succ j=>
   grind
theorem Zp0{E size:Nat}(h:w.ownsRow 0 E size (.slice A n c) n xs):w.ownsRow 0 E size (.slice A 0 c) 0 []:=by
 obtain⟨h1,⟨h,_⟩|⟨g,cap,X,e1,e2,e3,e4,e5,e6,e7⟩⟩:=h
 ·cases h;exact⟨by simp,.inl ⟨rfl,rfl⟩⟩
 ·obtain⟨rfl,-,rfl⟩:=e1;exact⟨by simp,.inr ⟨g,c,X,rfl,e2,e3,ζc _,e5,e6,by simp⟩⟩
def Ju8(w:World)(S S2:Nat->Prop)(k q:Nat)(v:Vm)(l:Lg)(e:Ending)(w':World):Prop:=
 e=.returned (.tuple #[])/\AB (λi=>S i\/S2 i) w w'/\AC w' S2 q (GY v l)/\CW w' S k (spV q) []
theorem ZSY(hW:CW w S k (spV q) l)(hV:AC w S2 q v)(hd:∀i,S i->¬S2 i):Calls prog 175 #[pP k,iI 0] w (Ju8 w S S2 k q v l):=by
 have HW:=hW;have HV:=hV;have HD:=hd;obtain⟨vl,hr,ho,hs⟩:=hW.row;obtain⟨A,c,rfl,Xf,Xc⟩:=DF ho;unfold maxLen at Xc;have c1:=hr.cc 1;have HR:=hr;have HO:=ho;have HS:=hs;have Xa:=hW.ll;obtain⟨N,hN⟩:∃N,N=l.length:=⟨_,rfl⟩;have HN:=hN;rw[<-hN]at c1 Xf Xa;have hkl:=hr.lt;have U:=hW.sk;go_enter func175,ntmps175;go_wp2
 go_loopw [4] (λi wr=>∃m:Nat,m<=N/\Hid (AB S2 w wr)/\Hid (AC wr S2 q (GY v (l.drop m)))/\i=iI ((m:Int)-1)) (λi _=>(intOf i+1).toNat)
 case atStart=>exact⟨N,ϑ _,⟨AB.refl S2 w⟩,⟨by rw[HN,List.drop_length];exact HV⟩,by go_num⟩
 case round=>
  obtain⟨m,hm,HT,HK,rfl⟩:=hrel;have X:=(HR.touch HT.o (HD _ U));have Y:=(BV HO HT.o (λg hg h=>HD _ (HS g hg) h));have e1:=X.cc 1;have ef:=X.free 1;rw[<-HN]at e1;by_cases Xh:m=0
  ·subst Xh;go_wp2;refine ζt (ζk rfl _ _ _) rfl ?_;have hdd:∀i,S2 i->i≠k:=λi hi e=>HD k U (by simp_all);refine⟨rfl,(HT.o.mono (λi _ hi=>.inr hi)).setCell (a:=⟨k,1,none⟩) (λ_=>.inl U) _,?_,U,ζc _,(λx hx=>by cases hx),.slice A 0 c,Rec.set X 1 _,?_,λg hg=>HS g (by cases A with|none=>cases hg|some a=>exact hg)⟩
   ·have:=HK.o.touch ((AB.refl (λi=>i=k) wr).setCell (a:=⟨k,1,none⟩) (λ_=>rfl) (.slice A 0 c)) (λi hi _=>hdd i hi)
    assumption
   ·exact AW (Zp0 Y) _ (λg hg=>AO (Zp0 Y) X (by decide) hg rfl)
  ·obtain⟨j,rfl⟩:∃j,m=j+1:=⟨m-1,by omega⟩;have J:j<l.length:=Ω
   have D:=Y4S v J;obtain⟨g,c',e2,-,-,-,-⟩:=ET Y Ω;simp only[Value.slice.injEq]at e2;obtain⟨rfl,-,rfl⟩:=e2;have r1:=BP Y (XHY J).1;have r2:=BP Y (XHY J).2;have B:=HW.lv _ (μ J);obtain⟨⟨xa,xw⟩,Xi⟩:∃x,x=l[j]:=⟨_,rfl⟩;rw[<-Xi]at r1 r2 B D;have Xe:=B;have HUD:=D;have E:=(BE Y (g:=g) rfl).2;have n1:=QD;have n2:=PG;have e0:=X.cc 0;unfold spV at e0;have V:=X.lt
   have KS:Hid (∀W',Gr wr W'->W'.cell? ⟨k,0,none⟩=some (.iface 78 (pP q))/\W'.cell? ⟨k,1,none⟩=some (.slice (some ⟨g,0,none⟩) N c)/\W'.cell? ⟨g,j*2,none⟩=some (iI xa)/\W'.cell? ⟨g,j*2+1,none⟩=some (uU (xw:Nat))):=
    ⟨λW' h=>⟨(h.cell V 0).trans e0,(h.cell V 1).trans e1,(h.cell E _).trans r1,(h.cell E _).trans r2⟩⟩
   have hjN:(j:Int)<(N:Int):=Ω
   go_upto_region 3 with(fail);obtain⟨Sx,Z⟩:∃Sx:World->Prop,Sx=λW'=>Gr wr W':=⟨_,rfl⟩;have x1:∀p:AA Sx,p.w.cell? ⟨k,0,none⟩=some (.iface 78 (pP q)):=λp=>(KS.o _ (AA.get Z p)).1;have x2:∀p:AA Sx,p.w.cell? ⟨k,1,none⟩=some (.slice (some ⟨g,0,none⟩) N c):=λp=>(KS.o _ (AA.get Z p)).2.1;have x3:∀p:AA Sx,p.w.cell? ⟨g,j*2,none⟩=some (iI xa):=λp=>(KS.o _ (AA.get Z p)).2.2.1;have x4:∀p:AA Sx,p.w.cell? ⟨g,j*2+1,none⟩=some (uU (xw:Nat)):=λp=>(KS.o _ (AA.get Z p)).2.2.2;have I:Sx wr.drew:=by rw[Z];exact(Gr.refl wr).drew
   have G:Inhabited (AA Sx):=⟨⟨_,I⟩⟩;clear Z;refine AV Sx 22 [([0,1,2,3,4,5,6,7,8,9,10,11,12,13,14,15,16,17,18,19,20,21],22)] [] I ?_;refine AH ?_;go_wp2_with(go_at_call 169;refine(KU (HK.o.gr (Gr.refl wr).drew) xa Xe).mono ?_;rintro e w1 ⟨rfl,Xb,Xd⟩;have Xg:=Xb;have HV1:=Xd);refine⟨.inl trivial,?_⟩;refine EN ?_;refine ζb ?_;refine ζA ?_;clear x1 x2 x3 x4 I G;go_wp2;go_round
   case rel=>
    refine⟨j,by omega,⟨HT.o.trans (((Gr.refl wr).drew.touch _).trans Xg)⟩,⟨?_⟩,by go_num⟩
    simp_all
   case measure=>simp[intOf]
end
section
variable{l:Lg}
theorem Ypt(x y z r:Value):#[x,y,z]++((Array.replicate 19 undef).setIfInBounds 3 r).setIfInBounds 0 r =
  #[x, y, z, r, undef, undef, r, undef, undef, undef, undef, undef, undef, undef, undef, undef, undef, undef, undef, undef, undef, undef] := by kernel_rfl
theorem Jv4(p2 p5 p4:Addr)(w:World):CallsD prog 174 #[.pointer (some p2),.pointer (some p5),.pointer (some p4)] .returning w λe u' w'=>e=.returned (.tuple #[])/\u'=.returning/\w'=w:=by
 refine callsD_of_wpS func174 rfl λc₀ cs hu=>?_;apply wpS_seq;apply wpS_region;simp[wpOpsS,go_sem,recoverD,hu,ntmps174,Exit.thenS];rw[Ypt];refine wpS_of_wp ?_;go_wp2;refine⟨rfl,.returning,?_,_,ζk rfl _ _ _,rfl,rfl,rfl⟩;cases c₀
 simp_all
def YTl(w:World)(S S2:Nat->Prop)(b4 k q:Nat)(v:Vm)(l:Lg)(why a:Int)(w':World):Prop:=
 AB (λi=>S i\/S2 i\/i=b4) w w'/\AC w' S2 q (GY v l)/\CW w' S k (spV q) []/\Rec w' b4 163 [iI why,iI a]
theorem JR1{b2 b5:Nat}(hW:CW w S k (spV q) l)(hV:AC w S2 q v)(hd:∀i,S i->¬S2 i)(why a:Int)(older:List PanicEntry)
  (r2:w.cell? ⟨b2,0,none⟩=some (pP k)) (r5:w.cell? ⟨b5,0,none⟩=some (iI 0)) (r4:Rec w b4 163 [iI 0,iI 0]) (n4:¬S b4) (m4:¬S2 b4):
  CallsD prog 174 #[pP b2,pP b5,pP b4] (.panicking ({v:=H5 why a,recovered:=false} :: older)) w λe u' w'=>
   e=.returned (.tuple #[])/\u'=.panicking ({v:=H5 why a,recovered:=true} :: older)/\YTl w S S2 b4 k q v l why a w':=by
 have hta:∀(x y:Int) (w:World),(Instr.typeAssert (.iface 247 (.agg #[iI x,iI y])) 20 247 true).run prog w=.ok (.tuple #[.agg #[iI x,iI y],.bool true]) w:=λ_ _ _=>by kernel_rfl
 have hnn:∀(x:Value) (w:World),(binOp BinOp.eql 20 (.iface 247 x) .nilIface).run prog w=.ok (.bool false) w:=λ_ _=>by kernel_rfl
 have HW:=hW;have HV:=hV;have HD:=hd;refine callsD_of_wpS func174 rfl λc₀ cs hu=>?_;apply wpS_seq;apply wpS_region;unfold H5 at hu⊢;simp[wpOpsS,go_sem,recoverD,hu,ntmps174,Exit.thenS];rw[Ypt];refine wpS_of_wp ?_;go_wp2_with(go_at_call 175;refine(ZSY HW HV HD).mono ?_;rintro e w1 ⟨rfl,Y,V,D⟩;have X:=(r4.touch Y (λh=>h.elim n4 m4));have d0:=X.cc 0;have d1:=X.cc 1;have df:=X.free;have hb4:=X.lt;have U:=Y;have J:=V;have I:=D);have E:∀i,S2 i->i≠b4:=λi hi e=>m4 (by simp_all);have Z:∀i,S i->i≠b4:=λi hi e=>n4 (by simp_all);have hT:=((AB.refl (λi=>i=b4) w1).setCell (a:=⟨b4,0,none⟩) (λ_=>rfl) (iI why)).setCell (a:=⟨b4,1,none⟩) (λ_=>rfl) (iI a);have N:AB (λi=>S i\/S2 i\/i=b4) w _:=(U.mono (λi _ hi=>hi.elim Or.inl (λh=>Or.inr (Or.inl h)))).trans (hT.mono (λi _ hi=>Or.inr (Or.inr hi)));refine⟨rfl,_,rfl,_,ζk rfl _ _ _,rfl,rfl,?_⟩;exact⟨N.alloc _,(J.touch hT (λi hi _=>E i hi)).gr ((Gr.refl _).alloc _),(I.touch hT (λi hi _=>Z i hi)).gr ((Gr.refl _).alloc _),Rec.gr (Rec.set (Rec.set X 0 _) 1 _) ((Gr.refl _).alloc _)⟩
end
def OU(q k b4:Nat)(Sx:Nat->Prop)(w0:World)(G:World->Prop)(H:Int->Int->Vm->Lg->(Nat->Prop)->(Nat->Prop)->World->Prop)(e:Ending)(w1:World):Prop:=
 AB Sx w0 w1/\((e=.returned (.tuple #[])/\G w1) ∨
  ∃why a v l S S2,e=.panicked [{v:=H5 why a,recovered:=false}]/\CW w1 S k (spV q) l/\AC w1 S2 q v/\(∀i,S i->¬S2 i)/\¬S b4/\¬S2 b4/\H why a v l S S2 w1)
section
variable{l:Lg}
def E0(w:World)(k:Nat):World:=((w.alloc (.cells #[.pointer (some ⟨k,0,none⟩)] 159)).alloc (.cells #[.int .i64 0,.int .i64 0] 163)).alloc (.cells #[.int .i64 0] 3)
def XL(w:World)(k q:Nat)(Sx:Nat->Prop)(G:World->Prop)(H:Int->Int->Vm->Lg->(Nat->Prop)->(Nat->Prop)->World->Prop)(e:Ending)(w':World):Prop:=
 ∃w1,AB Sx (E0 w k) w1/\((G w1/\e=.returned (.agg #[iI 0,iI 0])/\w'=(w1.setCell ⟨w.heap.size+1,0,none⟩ (.int .i64 0)).setCell ⟨w.heap.size+1,1,none⟩ (.int .i64 0)) ∨
  ∃why a v l S S2,H why a v l S S2 w1/\e=.returned (.agg #[iI why,iI a])/\YTl w1 S S2 (w.heap.size+1) k q v l why a w')
theorem X1(W:World)(blk:Nat)(p q:Value)(h0:W.cell? ⟨blk,0,none⟩=some p)(h1:W.cell? ⟨blk,1,none⟩=some q):(loadVar 163 ⟨blk,0,none⟩).run prog W=.ok (.agg #[p,q]) W:=by
 have a1:(isAgg 163).run prog W=.ok true W:=by kernel_rfl
 have a2:(sizeOf 163).run prog W=.ok 2 W:=by kernel_rfl
 simp[loadVar,Sem.run_bind,a1,a2,Result.andThen,loadCells,go_sem,h0,h1]
theorem JNc
  (hcf:∀args w,(callFunc F args).run prog w=.ok (.enter F args) w)  (hW:CW w S k sp []) (hF:Calls prog F (#[pP k]++caps) (E0 w k) (OU q k (w.heap.size+1) Sx (E0 w k) G H)) (hx:∀i,w.heap.size<=i->i<=w.heap.size+2->¬Sx i):
  Calls prog 125 #[pP k,.func (.func F) #[] caps] w (XL w k q Sx G H):=by
 have hmf:∀(fn:Fn) (first cap:Array Value) (w:World),(Instr.makeFunc fn first cap).run prog w=.ok (.func fn first cap) w:=λ_ _ _ _=>rfl;obtain⟨vl,hr,ho,-⟩:=hW.row;obtain⟨A,c,rfl,hc1,hc2⟩:=DF ho;have c1:=hr.cc 1;have hkl:=hr.lt
 go_enter_defers func125,ntmps125
 have r2:Rec (E0 w k) w.heap.size 159 [pP k]:=Rec.gr (Rec.gr (Rec.new w _ _) ((Gr.refl _).alloc _)) ((Gr.refl _).alloc _)
 have r4:Rec (E0 w k) (w.heap.size+1) 163 [iI 0,iI 0]:=by
  have:=Rec.gr (Rec.new (w.alloc (.cells #[.pointer (some ⟨k,0,none⟩)] 159)) 163 [iI 0,iI 0]) ((Gr.refl _).alloc (.cells #[.int .i64 0] 3));rw[χ]at this;exact this
 have r5:Rec (E0 w k) (w.heap.size+1+1) 3 [iI 0]:=by
  have:=Rec.new ((w.alloc (.cells #[.pointer (some ⟨k,0,none⟩)] 159)).alloc (.cells #[.int .i64 0,.int .i64 0] 163)) 3 [iI 0];rw[χ,χ]at this;exact this
 have E:=r2;have Xc:=r4;have D:=r5;go_wp2;refine hF.mono ?_;rintro e w1 ⟨X,he⟩;have q2:=E.touch X (hx _ (ϑ _) Ω);have q4:=Xc.touch X (hx _ Ω Ω);have q5:=D.touch X (hx _ Ω Ω);have J:=X;rcases he with⟨rfl,U⟩|⟨Z,a,v,l,S',S2,rfl,Xd,B,Xa,n4,m4,I⟩
 ·have HG:=U;have k0:=q4.cc 0;have k1:=q4.cc 1;have kf:=q4.free;have Y:=q4;go_wp2;have R6:=Rec.set (Rec.set Y 0 (iI 0)) 1 (iI 0);refine leaves_cons (f:=174) (args:=#[pP w.heap.size,pP (w.heap.size+1+1),pP (w.heap.size+1)]) (by simp) (by simp[go_sem]) ?_;refine(Jv4 _ _ _ _).mono ?_;rintro e u' w2 ⟨rfl,rfl,rfl⟩;have hl:=X1 _ (w.heap.size+1) _ _ (R6.cc 0) (R6.cc 1);simp only[Leaves,settle];refine⟨_,?_,w1,J,.inl ⟨HG,rfl,rfl⟩⟩;simp[results,results125,asAddr,hl]
 ·have Xb:=Xd;have N:=B;have V:=Xa;have HH:=I;have HN:=(ψ n4 m4);have k2:=q2.cc 0;have k5:=q5.cc 0;have Y:=q4;go_wp2;refine leaves_cons (f:=174) (args:=#[pP w.heap.size,pP (w.heap.size+1+1),pP (w.heap.size+1)]) (by simp) (by simp[go_sem]) ?_;refine(JR1 Xb N V Z a [] k2 k5 Y HN.1 HN.2).mono ?_;rintro e u' w2 ⟨rfl,rfl,hc⟩;have hl:=X1 _ (w.heap.size+1) _ _ (hc.2.2.2.cell (j:=0) rfl) (hc.2.2.2.cell (j:=1) rfl);simp only[settle,List.dropWhile_nil,Leaves];refine⟨_,?_,w1,J,.inr ⟨Z,a,v,l,S',S2,HH,rfl,hc⟩⟩;simp[results,results125,asAddr,hl]
def AL(w:World)(sp:Value):World:=(w.alloc (.cells #[.int .i64 0,.int .i64 0] 163)).alloc (.cells #[sp,.slice none 0 0] 204)
theorem QO(w:World)(sp:Value):CW (AL w sp) (λi=>i=w.heap.size+1) (w.heap.size+1) sp []:=by
 have:=Rec.new (w.alloc (.cells #[.int .i64 0,.int .i64 0] 163)) 204 [sp,.slice none 0 0];rw[χ]at this;exact⟨rfl,ζc _,(λx hx=>by cases hx),.slice none 0 0,this,GR _ _ _ _,(λg hg=>by cases hg)⟩
def V3L(w:World)(sp:Value)(q:Nat)(Sx:Nat->Prop)(G:World->Prop)(H:Int->Int->Vm->Lg->(Nat->Prop)->(Nat->Prop)->World->Prop)(e:Ending)(w':World):Prop:=
 ∃w2,∃x y,XL (AL w sp) (w.heap.size+1) q Sx G H (.returned (.agg #[iI x,iI y])) w2/\e=.returned (.agg #[iI x,iI y])/\w'=(w2.setCell ⟨w.heap.size,0,none⟩ (.int .i64 x)).setCell ⟨w.heap.size,1,none⟩ (.int .i64 y)
theorem XV
  (hsp:∃T rv,sp=.iface T rv) (hcf:∀args w,(callFunc F args).run prog w=.ok (.enter F args) w)
  (hF:Calls prog F (#[pP (w.heap.size+1)]++caps) (E0 (AL w sp) (w.heap.size+1)) (OU q (w.heap.size+1) (w.heap.size+3) Sx (E0 (AL w sp) (w.heap.size+1)) G H))
  (hx:∀i,w.heap.size+2<=i->i<=w.heap.size+4->¬Sx i) (hx0:¬Sx w.heap.size) (hH:∀why a v l S S2 w1,H why a v l S S2 w1->¬S w.heap.size/\¬S2 w.heap.size):
  Calls prog 87 #[sp,.func (.func F) #[] caps] w (V3L w sp q Sx G H):=by
 obtain⟨T,rv,rfl⟩:=hsp;have Y:(AL w (.iface T rv)).heap.size=w.heap.size+2:=by unfold AL;rw[χ,χ]
 have HP:=(JNc (k:=w.heap.size+1) (w:=AL w (.iface T rv)) (Sx:=Sx) (G:=G) (H:=H) hcf (QO w _) (by rw[Y];exact hF) (by rw[Y];exact λi h1 h2=>hx i h1 Ω));have J:=(Rec.gr (Rec.new w 163 [iI 0,iI 0]) ((Gr.refl _).alloc (.cells #[.iface T rv,.slice none 0 0] 204)))
 have V:Hid (∀e w',XL (AL w (.iface T rv)) (w.heap.size+1) q Sx G H e w'->∃x y,e=.returned (.agg #[iI x,iI y])/\Rec w' w.heap.size 163 [iI 0,iI 0]):=⟨by
  rintro e w' ⟨w1,t1,h⟩;have r0:Rec (E0 (AL w (.iface T rv)) (w.heap.size+1)) w.heap.size 163 [iI 0,iI 0]:=J.gr (((((Gr.refl _).alloc _).alloc _).alloc _));have r1:=r0.touch t1 hx0;rw[Y]at h;rcases h with⟨-,rfl,rfl⟩|⟨why,a,v,l,S,S2,hh,rfl,hc⟩
  ·exact⟨0,0,rfl,AW (AW r1 _ (λg hg=>by cases hg;show w.heap.size≠w.heap.size+2+1;omega)) _ (λg hg=>by cases hg;show w.heap.size≠w.heap.size+2+1;omega)⟩
  ·obtain⟨n1,n2⟩:=hH _ _ _ _ _ _ _ hh
   exact⟨why,a,rfl,r1.touch hc.1 (λh=>by rcases h with h|h|h;exact n1 h;exact n2 h;omega)⟩⟩
 go_enter func87,ntmps87;go_wp2_with(go_at_call 125;refine HP.mono ?_;intro e w2 Z;obtain⟨x,y,rfl,X⟩:=V.o _ _ Z;have k0:=X.cc 0;have k1:=X.cc 1;have kf:=X.free;have U:=X;have HQ:=Z);have R3:=Rec.set (Rec.set U 0 (iI x)) 1 (iI y);have hl:=X1 _ w.heap.size _ _ (R3.cc 0) (R3.cc 1);refine ζF (v:=.agg #[iI x,iI y]) ?_ rfl ⟨w2,x,y,HQ,rfl,rfl⟩;simp[results,results87,asAddr,hl]
end
def mkV(v:Vm)(a:Int)(x:Nat):Nat->Vm
 | 0=>v.st a x
 | m+1=>(mkV v a x m).st (a+1+m) 0
def mkE(v:Vm)(a:Int):Nat->Int
 | 0=>v.ldE a
 | m+1=>if mkE v a m≠0 then mkE v a m else v.ldE (a+1+m)
theorem ZU(v:Vm)(a:Int)(x:Nat)(m:Nat)(b:Int):(mkV v a x m).ldE b=v.ldE b:=by
 induction m with
 | zero=>exact FN ..
 | succ m ih=>unfold mkV;rw[FN,ih]
theorem ZGy(h:mkE v a m≠0)(hn:m<=n):mkE v a n=mkE v a m:=by
 induction n with
 | zero=>simp_all
 | succ n ih=>
  rcases δ n m with h'|h'
  ·grind
  ·have:=ih h'
   show (if mkE v a n≠0 then mkE v a n else _)=_
   omega
def wkS(w:World)(k i:Nat):Prop:=i=k\/w.heap.size<=i
def mkG(q:Nat)(S2:Nat->Prop)(v:Vm)(a:Int)(x n:Nat)(w1:World):Prop:=mkE v a n=0/\AC w1 S2 q (mkV v a x n)
def mkH(w:World)(k:Nat)(S2:Nat->Prop)(v:Vm)(a:Int)(n:Nat)(why _a:Int)(v':Vm)(l:Lg)(S S2':Nat->Prop)(_w1:World):Prop:=
 why=mkE v a n/\mkE v a n≠0/\GY v' l=v/\S=wkS w k/\S2'=S2
structure Vcw(w wr:World)(S2:Nat->Prop)(k q:Nat)(v:Vm)(a:Int)(x m:Nat)(l:Lg):Prop where
 e:mkE v a m=0
 wk:CW wr (wkS w k) k (spV q) l
 vm:AC wr S2 q (mkV v a x m)
 un:GY (mkV v a x m) l=v
 ll:l.length=m+1
 t:AB (λi=>wkS w k i\/S2 i) w wr
theorem YIO(hs:p+f+c<=255)(hx:x<18446744073709551616)(hW:CW w (λi=>i=k) k (spV q) [])(hV:AC w S2 q v)(hS:∀i,S2 i->i<w.heap.size)(hk:¬S2 k)
  (cA:Rec w bA 3 [iI a]) (cW:Rec w bW 22 [uU x]) (cH:Rec w bH 72 [iI p,iI f,iI c]) (nA:¬S2 bA) (nH:¬S2 bH) (n4:¬S2 b4) (m4:b4<w.heap.size) (d4:b4≠k):
  Calls prog 110 #[pP k,pP bA,pP bW,pP bH] w
   (OU q k b4 (λi=>wkS w k i\/S2 i) w (mkG q S2 v a x (p+f+c)) (mkH w k S2 v a (p+f+c))):=by
 have kA:=cA.cc 0;have kW:=cW.cc 0;obtain⟨vl,hr,-⟩:=hW.row;have Xs:bA≠k:=AO cA hr (by decide) rfl rfl;have Xy:bH≠k:=AO cH hr (by decide) rfl rfl;have hkl:=hr.lt
 have hd:∀i,wkS w k i->¬S2 i:=λi hi h=>by
  rcases hi with rfl|hi
  ·exact hk h
  ·have:=hS i h;omega
 have A:CW w (wkS w k) k (spV q) []:=hW.mono (λi hi=>.inl hi);have HD:=hd;have Xj:=A;have Xf:=(TO A hV hd (by simp) a hx);have hN:CE ⟨p,f,c⟩=1+(p:Int)+f+c:=θ (EQ hs);have I:=(λW=>LM ⟨p,f,c⟩ W);rw[hN]at I;unfold AJ at I;have HV:=hV;have Xa:=cA;have Xg:=cH;have Y:=(ψ nA (ψ nH (ψ n4 (ψ Xs Xy))));have Xe:=(show ¬wkS w k b4 from λh=>by rcases h with h|h;exact d4 h;omega);by_cases h0:v.ldE a=0
 ·have HE:=h0;have har:=J9 h0;have hn2:=HV.ok.n2;go_enter func110,ntmps110
  go_wp2_with(first
   | (go_at_call 111;refine Xf.mono ?_;rintro e w1 (⟨h,-⟩|⟨-,rfl,B,Xq,Xi⟩);(exact absurd HE h);have Z:=Xg.touch B (λh=>h.elim (λh=>h.elim Y.2.2.2.2 (λh=>absurd Xg.lt (ξf h))) Y.2.1);have j0:=Z.cc 0;have j1:=Z.cc 1;have j2:=Z.cc 2;have HH1:=Z;have Xx:=B;have Xw:=Xq;have Xu:=Xi)
   | (go_at_call 69;refine(I _).mono ?_;rintro e w2 ⟨rfl,Xn⟩;have E:=Xn))
  have Xk:Hid (Vcw w w2 S2 k q v a x 0 [(a,v.ldV a)]):=⟨⟨HE,(Xu.gr E).mono (λi hi=>hi.elim id .inr),(Xw.gr E).mono (λi hi=>hi.1),Z1 HV.ok HE x,rfl,Xx.trans (E.touch _)⟩⟩
  go_loopw [13] (λi wr=>∃(m:Nat) (l:Lg),m<=p+f+c/\Hid (Vcw w wr S2 k q v a x m l)/\i=iI m) (λi _=>p+f+c-(intOf i).toNat)
  case atStart=>exact⟨0,_,by omega,Xk,rfl⟩
  case round=>
   obtain⟨m,l,hm,HI,rfl⟩:=hrel;have Xt:=Xa.touch HI.o.t (λh=>h.elim (λh=>h.elim Y.2.2.2.1 (λh=>absurd Xa.lt (ξf h))) Y.1);have kA1:=Xt.cc 0;by_cases X:m=p+f+c
   ·have d0:decide ((m:Int)<1+(p:Int)+f+c-1)=false:=ζ Ω;have HM:=X;go_wp2;refine ζt (ζk rfl _ _ _) rfl ?_;refine⟨HI.o.t,.inl ⟨rfl,?_⟩⟩;rw[<-HM];exact⟨HI.o.e,HI.o.vm⟩
   ·have d0:decide ((m:Int)<1+(p:Int)+f+c-1)=true:=ξ Ω;have Xh:=HI.o.ll;have N:=(TO HI.o.wk HI.o.vm HD Ω (a+1+m) (x:=0) Ω)
    have V:mkE v a (m+1)=v.ldE (a+1+m):=by
     show (if mkE v a m≠0 then mkE v a m else _)=_
     rw[φ (λh=>h HI.o.e)]
    have J:=ZU v a x m (a+1+m);by_cases h1:v.ldE (a+1+m)=0
    ·have H1:=ι (J.trans h1);have U:=ι (V.trans h1);have Xc:=X;go_wp2_with(go_at_call 111;refine N.mono ?_;rintro e w3 (⟨h,-⟩|⟨-,rfl,Xp,Xm,Xv⟩);(exact absurd H1.o h);have Xl:=Xp;have Xo:=Xm;have Xr:=Xv);go_round
     case rel=>
      refine⟨m+1,l++[(a+1+m,(mkV v a x m).ldV (a+1+m))],by have:=Xc;omega,⟨U.o,Xr.mono (λi hi=>hi.elim id (λh=>.inr (γ HI.o.t.size h))),Xo.mono (λi hi=>hi.1),?_,by rw[ζo,HI.o.ll];rfl,HI.o.t.trans Xl⟩,by go_num⟩;rw[XV1]
      show GY (((mkV v a x m).st (a+1+m) 0).st _ _) l=v
      rw[Z1 HI.o.vm.ok H1.o];exact HI.o.un
     case measure=>have:=Xc;simp[intOf];omega
    ·have H1:Hid ((mkV v a x m).ldE (a+1+m)≠0):=⟨by rw[J];exact h1⟩;have U:Hid (mkE v a (p+f+c)=(mkV v a x m).ldE (a+1+m)):=⟨by rw[J,<-V];exact ZGy (by rw[V];exact h1) Ω⟩;clear J h1 V X Xh;go_wp2_with(go_at_call 111;refine N.mono ?_;rintro e w3 (⟨-,Xd,rfl⟩|⟨h,-⟩);rotate_left;(exact absurd h H1.o);have G:=Xd;clear Xd);exact⟨rfl,HI.o.t.trans (G.touch _),.inr ⟨_,_,_,l,wkS w k,S2,rfl,HI.o.wk.gr G,HI.o.vm.gr G,HD,Xe,Y.2.2.1,U.o.symm,by rw[U.o];exact H1.o,HI.o.un,rfl,rfl⟩⟩
 ·have HE:=h0;clear h0;go_enter func110,ntmps110;go_wp2_with(go_at_call 111;refine Xf.mono ?_;rintro e w1 (⟨-,Xb,rfl⟩|⟨h,-⟩);rotate_left;(exact absurd h HE);have D:=Xb;clear Xb);have he:mkE v a (p+f+c)=v.ldE a:=ZGy (m:=0) HE (ζc _);exact⟨rfl,D.touch _,.inr ⟨v.ldE a,a,v,[],wkS w k,S2,rfl,Xj.gr D,HV.gr D,HD,Xe,Y.2.2.1,he.symm,by rw[he];exact HE,rfl,rfl,rfl⟩⟩
theorem Xnm(args:Array Value)(w:World):(callFunc 110 args).run prog w=.ok (.enter 110 args) w:=by kernel_rfl
theorem X1o(x y:Value)(w:World):(Instr.field 163 (.agg #[x,y]) 0).run prog w=.ok x w:=by kernel_rfl
theorem QOP{h:Hdr}(he:CU h≠0)(w:World):Calls prog 109 #[AJ h] w λe w'=>e=.returned (.tuple #[uU 0,iI 15])/\Gr w w':=by
 have HC:=(λW=>NG h W);have h15:CU h=15:=(VK h).resolve_left he;unfold AJ at HC⊢;go_enter func109,ntmps109;go_wp2_with(go_at_call 67;refine(HC _).mono ?_;rintro e w1 ⟨rfl,X⟩;have HG1:=(((Gr.refl w).alloc _).trans X));go_ret2
 simp_all
def YWG(w:World)(S:Nat->Prop)(q:Nat)(v:Vm)(a:Int)(x n:Nat)(e:Ending)(w':World):Prop:=
 ∃b:Int,e=.returned (.agg #[iI (mkE v a n),iI b])/\AB S w w'/\AC w' S q (if mkE v a n=0 then mkV v a x n else v)
theorem YxQ(hV:AC w S q v)(hs:p+f+c<=255)(hx:x<18446744073709551616)
  (cA:Rec w bA 3 [iI a]) (cW:Rec w bW 22 [uU x]) (cH:Rec w bH 72 [iI p,iI f,iI c]) (nA:¬S bA) (nH:¬S bH):
  Calls prog 87 #[spV q,.func (.func 110) #[] #[pP bA,pP bW,pP bH]] w (YWG w S q v a x (p+f+c)):=by
 have E:(AL w (spV q)).heap.size=w.heap.size+2:=by unfold AL;rw[χ,χ]
 obtain⟨W0,Y⟩:∃W0,W0=E0 (AL w (spV q)) (w.heap.size+1):=⟨_,rfl⟩;have hsz0:W0.heap.size=w.heap.size+5:=by rw[Y];unfold E0;rw[χ,χ,χ,E]
 have g1:Gr w (AL w (spV q)):=((Gr.refl w).alloc _).alloc _;have g2:Gr (AL w (spV q)) W0:=by rw[Y];exact(((Gr.refl _).alloc _).alloc _).alloc _
 have g:Gr w W0:=g1.trans g2;have Z:∀i,AD S w i->i<w.heap.size:=λi hi=>hi.2;have U:=YIO (b4:=w.heap.size+3) (S2:=AD S w) hs hx ((QO w (spV q)).gr g2) (hV.cut.gr g) (λi hi=>by have:=Z i hi;omega) (λh=>by have:=Z _ h;omega) (cA.gr g) (cW.gr g) (cH.gr g) (λh=>nA h.1) (λh=>nH h.1) (λh=>by have:=Z _ h;omega) Ω Ω
 have N:=XV (w:=w) (sp:=spV q) (q:=q) (F:=110) (caps:=#[pP bA,pP bW,pP bH]) ⟨_,_,rfl⟩ (Sx:=λi=>wkS W0 (w.heap.size+1) i\/AD S w i)
  (G:=mkG q (AD S w) v a x (p+f+c)) (H:=mkH W0 (w.heap.size+1) (AD S w) v a (p+f+c)) Xnm (by rw[<-Y];exact U)
  (λi h1 h2 h=>by
   rcases h with(h|h)|h
   ·omega
   ·omega
   ·have:=h.2;omega)
  (λh=>by
   rcases h with(h|h)|h
   ·omega
   ·omega
   ·exact absurd h.2 (ζN _))
  (λD a' v' l S' S2 w1 h=>by
   obtain⟨-,-,-,rfl,rfl⟩:=h;refine⟨λh=>?_,λh=>absurd h.2 (ζN _)⟩
   rcases h with h|h <;> omega)
 refine N.mono ?_;rintro e w' ⟨w2,fx,fy,⟨w1,I,hp⟩,rfl,rfl⟩;rw[<-Y]at I;rw[E]at hp;have V:∀(X:World) (T:AB (λi=>w.heap.size<=i\/S i) w X),AB S w X:=λX T=>T.mono (λi hi h=>h.resolve_left Ω)
 have T1:AB (λi=>w.heap.size<=i\/S i) w w1:=(g.touch _).trans' I (λi hi h=>by
  rcases h with(h|h)|h
  ·left;omega
  ·left;omega
  ·exact .inr h.1)
 rcases hp with⟨⟨e0,A⟩,he,rfl⟩|⟨D,a',v',l,S',S2,⟨rfl,e0,hu,rfl,rfl⟩,he,hc⟩
 ·have J:fx=0/\fy=0:=by simpa using he
  obtain⟨rfl,rfl⟩:=J;have hT:=(((AB.refl (λi=>w.heap.size<=i) w1).setCell (a:=⟨w.heap.size+2+1,0,none⟩) (λ_=>by show w.heap.size<=w.heap.size+2+1;omega) (iI 0)).setCell (a:=⟨w.heap.size+2+1,1,none⟩) (λ_=>by show w.heap.size<=w.heap.size+2+1;omega) (iI 0)).setCell (a:=⟨w.heap.size,0,none⟩) (λ_=>ϑ _) (iI 0) |>.setCell (a:=⟨w.heap.size,1,none⟩) (λ_=>ϑ _) (iI 0);refine⟨0,by rw[e0],V _ (T1.trans (hT.mono (λi _ h=>.inl h))),?_⟩;rw[θ e0];exact(A.touch hT (λi hi _ h=>by have:=hi.2;omega)).mono (λi hi=>hi.1)
 ·have J:fx=mkE v a (p+f+c)/\fy=a':=by simpa using he
  obtain⟨rfl,rfl⟩:=J;have hT:=λz1 z2=>((AB.refl (λi=>w.heap.size<=i) w2).setCell (a:=⟨w.heap.size,0,none⟩) (λ_=>ϑ _) z1).setCell (a:=⟨w.heap.size,1,none⟩) (λ_=>ϑ _) z2;refine⟨fy,rfl,V _ ((T1.trans' hc.1 (λi hi h=>?_)).trans ((hT _ _).mono (λi _ h=>.inl h))),?_⟩
  ·rcases h with(h|h)|h|h
   ·left;omega
   ·left;omega
   ·exact .inr h.1
   ·left;omega
  ·rw[φ e0];have:=(hc.2.1.touch (hT (iI (mkE v a (p+f+c))) (iI fy)) (λi hi _ h=>by have:=hi.2;omega)).mono (λi hi=>hi.1);rw[hu]at this;exact this
def E7(v:Vm)(a:Int)(h:Hdr):Int:=if a<=0 then 5 else if CU h≠0 then 15 else mkE v a (h.p+h.f+h.k).toNat
def mkVm(v:Vm)(a:Int)(h:Hdr):Vm:=if E7 v a h=0 then mkV v a (C9 h.p.toNat h.f.toNat h.k.toNat) (h.p+h.f+h.k).toNat else v
theorem XT{a:Nat}(hs:a+b+c<=255):C9 a b c<18446744073709551616:=by
 have:=Vts hs;unfold C9;omega
theorem V9e(hV:AC w S q v)(a:Int)(h:Hdr):Calls prog 70 #[spV q,iI a,AJ h] w λe w'=>e=.returned (iI (E7 v a h))/\AB S w w'/\AC w' (plus S w) q (mkVm v a h):=by
 have HV:=hV;have hmf:∀(fn:Fn) (first cap:Array Value) (w:World),(Instr.makeFunc fn first cap).run prog w=.ok (.func fn first cap) w:=λ_ _ _ _=>rfl;have Y:Hid (E7 v a h≠0->∀w',Gr w w'->AB S w w'/\AC w' (plus S w) q (mkVm v a h)):=⟨λhn w' g=>⟨g.touch S,by unfold mkVm;rw[φ hn];exact(hV.gr g).mono (λk hk=>.inl hk)⟩⟩;by_cases h0:a<=0
 ·have HR:Hid (E7 v a h=5):=⟨θ h0⟩;have d0:decide (a<=0)=true:=ξ h0;unfold spV AJ;go_enter func70,ntmps70;go_wp2;go_ret;exact⟨AM HR.o.symm,Y.o (by rw[HR.o];decide) _ (((Gr.refl w).alloc _).alloc _)⟩
 ·have d0:decide (a<=0)=false:=ζ h0;by_cases h1:CU h=0
  ·obtain⟨p,f,c,rfl,hs⟩:=OI h1
   have hR:E7 v a ⟨p,f,c⟩=mkE v a (p+f+c):=by
    unfold E7;rw[φ h0,φ (λh=>h h1)];congr 1
   have HR:=ι hR
   have HM:Hid (mkVm v a ⟨p,f,c⟩=if mkE v a (p+f+c)=0 then mkV v a (C9 p f c) (p+f+c)else v):=⟨by
    unfold mkVm;rw[hR]
    congr 1⟩
   have HP:=(λW=>Jii hs W)
   have Z:=(λ(W:World) (g:Gr w W) (bW:Nat) (cA:Rec W w.heap.size 3 [iI a]) (cW:Rec W bW 22 [uU (C9 p f c:Nat)]) (cH:Rec W (w.heap.size+1) 72 [iI p,iI f,iI c])=>
    YxQ (hV.cut.gr g) hs (XT hs) cA cW cH (λh=>absurd h.2 (ζN _)) (λh=>by have:=h.2;omega))
   unfold AJ at HP;unfold spV AJ;unfold spV at Z;have hfl:=X1o;go_enter func70,ntmps70
   go_wp2_with(first
    | (go_at_call 109;refine(HP _).mono ?_;rintro e w1 ⟨rfl,J⟩;have X:=J)
    | (go_at_call 87;have cA:=(((Rec.new w 3 [iI a]).gr ((Gr.refl _).alloc _)).gr X).gr ((Gr.refl w1).alloc (.cells #[.int .u64 (C9 p f c:Nat)] 22));have cH:=((Rec.new (w.alloc (.cells #[.int .i64 a] 3)) 72 [iI p,iI f,iI c]).gr X).gr ((Gr.refl w1).alloc (.cells #[.int .u64 (C9 p f c:Nat)] 22));rw[χ]at cH;have cW:=Rec.new w1 22 [uU (C9 p f c:Nat)];refine(Z _ (((((Gr.refl w).alloc _).alloc _).trans X).alloc _) _ cA cW cH).mono ?_;rintro e w2 ⟨b,rfl,U,N⟩;have V:=U;have I:=N))
   go_ret;refine⟨AM HR.o.symm,((((((Gr.refl w).alloc _).alloc _).trans X).alloc _).touch S).trans (V.mono (λi _ hi=>hi.1)),?_⟩;rw[HM.o];exact I.mono (λi hi=>.inl hi.1)
  ·have HR:Hid (E7 v a h=15):=⟨by unfold E7;rw[φ h0,θ h1]⟩;have HP:=(λW=>QOP h1 W);unfold spV AJ;go_enter func70,ntmps70;go_wp2_with(go_at_call 109;refine(HP _).mono ?_;rintro e w1 ⟨rfl,J⟩;have X:=((((Gr.refl w).alloc _).alloc _).trans J));go_ret;exact⟨AM HR.o.symm,Y.o (by rw[HR.o];decide) _ (X.alloc _)⟩
def cwL(v:Vm)(a:Int)(n m:Nat):List Nat:=(List.range n).map λj=>if j<m then v.ldV (a+j)else 0
theorem QGZ(v:Vm)(a:Int)(n m:Nat):(cwL v a n m).length=n:=by simp[cwL]
theorem NH(v:Vm)(a:Int)(hj:j<n):(CO (cwL v a n m))[j]?=some (uU ((if j<m then v.ldV (a+j)else 0:Nat):Int)):=by
 rw[ZpD (by grind [QGZ])];simp[cwL]
theorem Z0I(v:Vm)(a:Int)(n m:Nat):(CO (cwL v a n m)).set m (uU (v.ldV (a+m):Nat))=CO (cwL v a n (m+1)):=by
 apply List.ext_getElem?;intro j;rw[ψg];have hl:∀m,(CO (cwL v a n m)).length=n:=λm=>by simp[CO,cwL]
 grind [NH]
theorem YkC(v:Vm)(a:Int)(n:Nat):CO (cwL v a n 0)=List.replicate n (uU 0):=by
 apply List.ext_getElem?;intro j;by_cases hj:j<n
 ·rw[NH v a hj,ξc,θ hj];rfl
 ·rw[ζJ (by simp[CO,cwL];omega),ξc,φ hj]
theorem YJ3(n:Nat):(madeCells #[uU 0] n).toList=List.replicate n (uU 0):=by
 unfold madeCells;apply ξo
 ·simp
 grind
def cpG(q:Nat)(S2:Nat->Prop)(v:Vm)(a t:Int)(n:Nat)(w1:World):Prop:=AC w1 S2 q (cpV v a t n)
def noH(_ _:Int)(_:Vm)(_:Lg)(_ _:Nat->Prop)(_:World):Prop:=False
structure YC(w wg wr:World)(S2:Nat->Prop)(k q g:Nat)(v:Vm)(a t:Int)(n m:Nat)(l:Lg):Prop where
 wk:CW wr (wkS wg k) k (spV q) l
 vm:AC wr S2 q (cpV v a t m)
 ll:l.length=m
 row:wr.ownsRow 0 22 1 (.slice (some ⟨g,0,none⟩) n n) n (CO (cwL v a n n))
 t:AB (λi=>wkS w k i\/S2 i) w wr
 wz:wg.heap.size<=wr.heap.size
 gk:g≠k
theorem Q5n{t:Int}(hs:p+f+c<=255)(hn:n=1+p+f+c)(hW:CW w (λi=>i=k) k (spV q) [])(hV:AC w S2 q v)(hS:∀i,S2 i->i<w.heap.size)(hk:¬S2 k)
  (cA:Rec w bA 3 [iI a]) (cT:Rec w bT 3 [iI t]) (cH:Rec w bH 72 [iI p,iI f,iI c]) (nA:¬S2 bA) (nT:¬S2 bT)
  (hl:∀m:Nat,m<n->v.ldE (a+m)=0) (ht:∀m:Nat,m<n->v.ldE (t+m)=0):
  Calls prog 210 #[pP k,pP bH,pP bA,pP bT] w
   (OU q k b4 (λi=>wkS w k i\/S2 i) w (cpG q S2 v a t n) noH):=by
 have kA:=cA.cc 0;have kT:=cT.cc 0;obtain⟨j0,j1,j2,hHl⟩:=cH.k3;have hAl:=cA.lt;obtain⟨vl,hr,-⟩:=hW.row;have Xs:bA≠k:=AO cA hr (by decide) rfl rfl;have Xt:bT≠k:=AO cT hr (by decide) rfl rfl;have hkl:=hr.lt;have hN:CE ⟨p,f,c⟩=(n:Int):=by rw[show CE ⟨p,f,c⟩=1+(p:Int)+f+c from θ (EQ hs)];omega
 have D:=(λW=>LM ⟨p,f,c⟩ W);rw[hN]at D;unfold AJ at D;have HW:=hW;have HV:=hV;have Xo:=cA;have Xa:=cT;have I:=(ψ nA (ψ nT (ψ Xs (ψ Xt hk))));have HL:=hl;have Xn:=ht;have HS:=hS;obtain⟨i0,hi,Xu,Xr,Xw⟩:=info_parts PB;have hn256:n<=256:=Ω
 have hn1:1<=n:=Ω
 have hn2:=hV.ok.n2;have har:=J9 (hl 0 Ω);have har2:=J9 (hl (n-1) Ω);have htr:=J9 (ht 0 Ω);have htr2:=J9 (ht (n-1) Ω);have HB:Hid (i0.bytes*n<=281474976710656):=⟨by rw[Xw];omega⟩;have HM:Hid (n<=maxLen):=⟨by unfold maxLen;omega⟩;clear hr hW hV hS hk nA nT hN cA cT cH hl ht hs hn;go_enter func210,ntmps210
 go_wp2_with(first
  | (go_at_call 69;refine(D _).mono ?_;rintro e w1 ⟨rfl,Xf⟩;have Xh:=Xf;clear Xf)
  | (at_make;refine wpList_make_full _ rfl _ _ 41 rfl w1.heap.size 22 i0 (uU 0) 1 underlying41 hi Xu Xr .i64 .i64 _ _ n rfl rfl ?h1 ?h2 HB.o HM.o (ϑ _) ?h3))
 case h1=>omega
 case h2=>omega
 case h3=>
  intro w2 N U;have Xc:Gr w1 w2:=(J3 U (λ_=>False) (λk e _=>by cases e)).gr;have HO:Hid (w2.ownsRow 0 22 1 (.slice (some ⟨w1.heap.size,0,none⟩) n n) n (CO (cwL v a n 0))):=⟨by rw[YkC,<-YJ3];exact Q8 N⟩;have Xv:=ι (Xh.trans Xc);obtain⟨g,hg⟩:∃g,g=w1.heap.size:=⟨_,rfl⟩;have Xl:w.heap.size<=g:=by rw[hg];exact Xh.size
  have Xp:Hid (g≠k):=⟨by omega⟩;rw[<-hg]at HO⊢;clear N U Xc hg j0 j1 j2;go_wp2
  go_loopw [14] (λs14 wr=>∃m:Nat,m<=n/\Hid (Gr w wr)/\Hid (wr.ownsRow 0 22 1 (.slice (some ⟨g,0,none⟩) n n) n (CO (cwL v a n m)))/\s14=iI m) (λs14 _=>n-(intOf s14).toNat)
  case atStart=>exact⟨0,by omega,Xv,HO,rfl⟩
  case round=>
   obtain⟨m,hm,Y,J,rfl⟩:=hrel;clear HO kA kT;by_cases X:m=n
   ·subst X;go_wp2;obtain⟨wg,Xe⟩:∃wg,wg=wr:=⟨_,rfl⟩;rw[<-Xe]at Y J⊢;clear Xe;have Xg:=ι (ψ Xl (BE J.o rfl).2);have B:Hid (YC w wg wg S2 k q g v a t m 0 []):=⟨⟨(HW.gr Y.o).mono (λi hi=>.inl hi),HV.gr Y.o,rfl,J.o,Y.o.touch _,ϑ _,Xp.o⟩⟩;have hcz:=Y.o.size;clear hm
    go_loopw [28] (λs28 wr=>∃(j:Nat) (l:Lg),j<=m/\Hid (YC w wg wr S2 k q g v a t m j l)/\s28=iI j) (λs28 _=>m-(intOf s28).toNat)
    case atStart=>exact⟨0,_,by omega,B,rfl⟩
    case round=>
     obtain⟨j,l,hj,HI,rfl⟩:=hrel;clear B;by_cases X:j=m
     ·subst X;go_wp2;refine ζt (ζk rfl _ _ _) rfl ?_;exact⟨HI.o.t,.inl ⟨rfl,HI.o.vm⟩⟩
     ·have Xx:(j:Int)<(m:Int):=Ω
      have kT:=(Xa.touch HI.o.t (λh=>h.elim (λh=>h.elim I.2.2.2.1 (λh=>absurd Xa.lt (ξf h))) I.2.1)).cell (j:=0) rfl;have kc:=BP HI.o.row (NH v a (m:=m) (show j<m by omega));rw[θ Ω]at kc
      have HD:Hid (∀i,wkS wg k i->¬S2 i):=⟨λi hi h=>by
       rcases hi with rfl|hi
       ·exact I.2.2.2.2 h
       ·have:=HS i h;omega⟩
      have Xk:=HV.ok.ldV_lt (a+j);obtain⟨y,hy⟩:∃y,y=v.ldV (a+j):=⟨_,rfl⟩;rw[<-hy]at kc Xk;have HY:=ι hy;have Xm:=HI.o.ll;have Xz:=ι (TO HI.o.wk HI.o.vm HD.o Ω (t+j) Xk);have HE:Hid ((cpV v a t j).ldE (t+j)=0):=⟨by rw[(VS v a t j).ldE];exact Xn j Ω⟩;have Z:=ι X;clear X hy Xm;go_wp2_with(go_at_call 111;refine Xz.o.mono ?_;rintro e w3 (⟨h,-⟩|⟨-,rfl,Xd,Xb,Xi⟩);(exact absurd HE.o h);have E:=ι Xd;have Xq:=ι Xb;have Ya:=ι Xi;clear Xd Xb Xi);go_round
      case rel=>
       have hz:=HI.o.t.size;have Xj:wg.heap.size<=wr.heap.size:=HI.o.wz;refine⟨j+1,l++[(t+j,(cpV v a t j).ldV (t+j))],by have:=Z.o;omega,⟨⟨Ya.o.mono (λi hi=>hi.elim id (λh=>.inr (γ Xj h))),?_,by rw[ζo,HI.o.ll];rfl,BV HI.o.row E.o (λg' hg' h=>?_),HI.o.t.trans (E.o.mono (λi hi h=>?_)),γ Xj E.o.size,HI.o.gk⟩⟩,by go_num⟩
       ·have:=Xq.o.mono (T:=S2) (λi hi=>hi.1);rw[HY.o]at this;exact this
       ·cases hg';rcases h with(h|h)|h
        ·exact HI.o.gk h
        ·have h:wg.heap.size<=g:=h;have:=Xg.o.2;omega
        ·have:g<w.heap.size:=HS _ h;have:=Xg.o.1;omega
       ·rcases h with(h|h)|h
        ·exact .inl (.inl h)
        ·exact .inl (.inr Ω)
        ·exact .inr h
      case measure=>have:=Z.o;simp[intOf];omega
   ·have Xx:(m:Int)<(n:Int):=Ω
    have kA:=(Xo.gr Y.o).cell (j:=0) rfl;have A:=ι (XN (HW.gr Y.o) (HV.gr Y.o) (a+m));have hE:=HL m Ω;have HE:=ι hE;have Z:=ι X;obtain⟨y,hy⟩:∃y,y=v.ldV (a+m):=⟨_,rfl⟩;have HY:=ι hy;unfold Z1x at A;rw[<-hy]at A;have kc:=BP J.o (NH v a (m:=m) (show m<n by omega));have kf:=FT J.o m;clear X hE hy;go_wp2_with(go_at_call 153;refine A.o.mono ?_;rintro e w3 ⟨G,he,-⟩;obtain rfl:=he HE.o;have V:=ι (CM J.o G);have kc3:=BP V.o (NH v a (m:=m) (show m<n by have:=Z.o;omega));have kf3:=FT V.o m;have hgl3:=(BE V.o rfl).2;have Xy:=ι (Y.o.trans G);clear G he);go_round
    case rel=>
     refine⟨m+1,by have:=Z.o;omega,⟨?_⟩,⟨?_⟩,by go_num⟩
     ·refine((Xy.o.touch (λi=>w.heap.size<=i)).setCell (a:=⟨g,m,none⟩) (λ_=>Xl) _ |>.mono (T:=λ_=>False) (λi hi h=>by omega)).gr
     ·have:=(World.ownsRow.stored V.o m (uU (y:Nat))).1;rw[HY.o,Z0I]at this;rw[HY.o];exact this
    case measure=>have:=Z.o;simp[intOf];omega
theorem Z5j(args:Array Value)(w:World):(callFunc 210 args).run prog w=.ok (.enter 210 args) w:=by kernel_rfl
theorem VVs(hV:AC w S q v){t:Int}(hs:p+f+c<=255)(hn:n=1+p+f+c)
  (cA:Rec w bA 3 [iI a]) (cT:Rec w bT 3 [iI t]) (cH:Rec w bH 72 [iI p,iI f,iI c]) (nA:¬S bA) (nT:¬S bT)
  (hl:∀m:Nat,m<n->v.ldE (a+m)=0) (ht:∀m:Nat,m<n->v.ldE (t+m)=0):
  Calls prog 87 #[spV q,.func (.func 210) #[] #[pP bH,pP bA,pP bT]] w λe w'=>
   e=.returned (.agg #[iI 0,iI 0])/\AB S w w'/\AC w' S q (cpV v a t n):=by
 have I:(AL w (spV q)).heap.size=w.heap.size+2:=by unfold AL;simp_all
 obtain⟨W0,Y⟩:∃W0,W0=E0 (AL w (spV q)) (w.heap.size+1):=⟨_,rfl⟩;have hsz0:W0.heap.size=w.heap.size+5:=by rw[Y];unfold E0;simp_all
 have g1:Gr w (AL w (spV q)):=((Gr.refl w).alloc _).alloc _;have g2:Gr (AL w (spV q)) W0:=by rw[Y];exact(((Gr.refl _).alloc _).alloc _).alloc _
 have g:Gr w W0:=g1.trans g2;have hS2:∀i,AD S w i->i<w.heap.size:=λi hi=>hi.2;have hbody:=Q5n (b4:=w.heap.size+3) (S2:=AD S w) hs hn ((QO w (spV q)).gr g2) (hV.cut.gr g) (λi hi=>by grind) (λh=>by grind) (cA.gr g) (cT.gr g) (cH.gr g) (λh=>nA h.1) (λh=>nT h.1) hl ht
 have Z:=XV (w:=w) (sp:=spV q) (q:=q) (F:=210) (caps:=#[pP bH,pP bA,pP bT]) ⟨_,_,rfl⟩ (Sx:=λi=>wkS W0 (w.heap.size+1) i\/AD S w i)
  (G:=cpG q (AD S w) v a t n) (H:=noH) Z5j (by simp_all)
  (λi h1 h2 h=>by
   rcases h with(h|h)|h
   ·omega
   ·omega
   grind)
  (λh=>by
   rcases h with(h|h)|h
   ·omega
   ·omega
   grind)
  (λV a' v' l S' S2 w1 h=>h.elim)
 refine Z.mono ?_;rintro e w' ⟨w2,fx,fy,⟨w1,J,hp⟩,rfl,rfl⟩;rw[<-Y]at J;rw[I]at hp;have U:∀(X:World) (T:AB (λi=>w.heap.size<=i\/S i) w X),AB S w X:=λX T=>T.mono (λi hi h=>h.resolve_left Ω)
 have T1:AB (λi=>w.heap.size<=i\/S i) w w1:=(g.touch _).trans' J (λi hi h=>by
  rcases h with(h|h)|h
  ·left;omega
  ·left;omega
  ·exact .inr h.1)
 rcases hp with⟨E,he,rfl⟩|⟨V,a',v',l,S',S2,hh,-⟩
 ·have N:fx=0/\fy=0:=by simp_all
  obtain⟨rfl,rfl⟩:=N;have hT:=(((AB.refl (λi=>w.heap.size<=i) w1).setCell (a:=⟨w.heap.size+2+1,0,none⟩) (λ_=>by grind) (iI 0)).setCell (a:=⟨w.heap.size+2+1,1,none⟩) (λ_=>by grind) (iI 0)).setCell (a:=⟨w.heap.size,0,none⟩) (λ_=>ϑ _) (iI 0) |>.setCell (a:=⟨w.heap.size,1,none⟩) (λ_=>ϑ _) (iI 0);exact⟨rfl,U _ (T1.trans (hT.mono (λi _ h=>.inl h))),(E.touch hT (λi hi _ h=>by grind)).mono (λi hi=>hi.1)⟩
 ·exact hh.elim
theorem Vb7(hV:AC w S q v){t:Int}(hr:v.rdE a=0)(hn:(n:Int)=v.osz a)(h0:0<t)(hl:∀m:Nat,m<n->v.ldE (a+m)=0)(ht:∀m:Nat,m<n->v.ldE (t+m)=0):
  Calls prog 180 #[spV q,iI a,iI t] w λe w'=>e=.returned (iI 0)/\AB S w w'/\AC w' (plus S w) q (cpV v a t n):=by
 have d0:decide (t<=0)=false:=ζ Ω;obtain⟨-,-,p,f,c,hh,hs⟩:=F5 hr
 have V:n=1+p+f+c:=by
  unfold Vm.osz at hn;rw[hh,show CE ⟨p,f,c⟩=1+(p:Int)+f+c from θ (EQ hs)]at hn;omega
 have J:=(λ(w':World) (g:Gr w w')=>PC (hV.gr g) a)
 have Y:=(λ(W:World) (g:Gr w W) (bH:Nat) (cA:Rec W w.heap.size 3 [iI a]) (cT:Rec W (w.heap.size+1) 3 [iI t]) (cH:Rec W bH 72 [iI p,iI f,iI c])=>
  VVs (hV.cut.gr g) hs V cA cT cH (λh=>absurd h.2 (ζN _)) (λh=>by have:=h.2;omega) hl ht)
 have hfl:=X1o;unfold AJ at J;go_enter func180,ntmps180
 go_wp2_with(first
  | (go_at_call 104;refine(J _ (((Gr.refl w).alloc _).alloc _)).mono ?_;rintro e w1 ⟨rfl,Z⟩;have rt:=(Rec.new (w.alloc (.cells #[.int .i64 a] 3)) 3 [iI t]).gr Z;rw[χ]at rt;have kt:=rt.cc 0;have ktl:=rt.lt;have X:=Z)
  | (go_at_call 87;have cA:=(((Rec.new w 3 [iI a]).gr ((Gr.refl _).alloc _)).gr X).gr ((Gr.refl w1).alloc (.cells #[.int .i64 p,.int .i64 f,.int .i64 c] 72));have cT:=((Rec.new (w.alloc (.cells #[.int .i64 a] 3)) 3 [iI t]).gr X).gr ((Gr.refl w1).alloc (.cells #[.int .i64 p,.int .i64 f,.int .i64 c] 72));rw[χ]at cT;have cH:=Rec.new w1 72 [iI p,iI f,iI c];refine(Y _ (((((Gr.refl w).alloc _).alloc _).trans X).alloc _) _ cA cT cH).mono ?_;rintro e w2 ⟨rfl,U,I⟩;have N:=U;have E:=I))
 go_ret;refine⟨rfl,((((((Gr.refl w).alloc _).alloc _).trans X).alloc _).touch S).trans (N.mono (λi _ hi=>hi.1)),?_⟩;exact E.mono (λi hi=>.inl hi.1)
theorem QRl(hV:AC w S q v){i:Int}(hp:v.plE a i 1=0)(hx:x<=2147483647):Calls prog 102 #[spV q,iI a,iI i,iI x] w λe w'=>e=.returned (iI (v.ldE (a+1+i)))/\AB S w w'/\AC w' (plus S w) q (v.st (a+1+i) x):=by
 have X:=(JNY hV a i 1 (by decide));have hA:v.plA a i 1=a+1+i:=θ hp;rw[hp,hA]at X;have n1:=QD;have n2:=PG;have d0:decide ((x:Int)<0)=false:=ζ Ω;have d1:decide (2147483647<(x:Int))=false:=ζ Ω;have hw:IntKind.u64.wrap (x:Int)=(x:Int):=by rw[ξp];omega
 have Y:=(λ(w':World) (g:Gr w w')=>KU (hV.cut.gr g) (a+1+i) (x:=x) Ω);generalize a+1+i=at' at X Y⊢;unfold spV at X⊢;go_enter func102,ntmps102
 go_wp2_with(first
  | (go_at_call 149;refine X.mono ?_;rintro e w1 ⟨rfl,U⟩;have Z:=U)
  | (go_at_call 169;refine(Y _ Z).mono ?_;rintro e w2 ⟨rfl,J,N⟩;have V:=J;have I:=N))
 go_ret;exact⟨rfl,(Z.touch S).trans (V.mono (λi _ hi=>hi.1)),I.mono (λi hi=>.inl hi.1)⟩
def PH(v:Value):Option (DataW Value×List MemPlace):=some (.held v,[])
def BI(P:Program)(K:TypeId)(w:World)(b n:Nat)(f:Int->Option Value):Prop:=
 ∃D:DataW Value,w.ownsMap P K PH b n D/\∀x:Int,(Lit.int .i64 x).wf=true->Maps.has D (.int .i64 x)=(f x).isSome/\∀v,f x=some v->∀z,D.atKey (.int .i64 x) z=.held v
section
variable{K:TypeId}{f:Int->Option Value}
theorem BI.made(w:World):BI P K (w.alloc (.map #[] 0)) w.heap.size 0 (λ_=>none):=
 ⟨.map [],World.ownsMap_made _ _ _ _,λ_ _=>⟨rfl,λ_ h=>by cases h⟩⟩
theorem BI.lt(h:BI P K w b n f):b<w.heap.size:=by obtain⟨D,h,-⟩:=h;exact h.lt
theorem BI.touch(h:BI P K w b n f)(t:AB S w w')(hS:¬S b):BI P K w' b n f:=by
 obtain⟨D,h,hf⟩:=h;have Y:=h.lt;obtain⟨es,X,hb,r⟩:=h;exact⟨D,⟨es,X,(t.block b Y hS).trans hb,r⟩,hf⟩
theorem BI.gr(h:BI P K w b n f)(t:Gr w w'):BI P K w' b n f:=h.touch (t.touch (λ_=>False)) (λh=>h)
theorem BI.congr(h:BI P K w b n f){g:Int->Option Value}(hg:∀x,f x=g x):BI P K w b n g:=by
 have:f=g:=funext hg
 simp_all
theorem BI.ne{T:Nat}(h:BI P K w b n f)(hq:∃cs fr,w.heap[q]?=some (.cells cs T fr)):b≠q:=by
 rintro rfl;obtain⟨D,⟨es,clock,hb,-⟩,-⟩:=h
 simp_all
theorem BI.look_ok(h:BI P K w b n f)(KI:Maps.Keyed P K){t:TypeId}(ht:P.underlying t=some (.map K e))(hk:P.underlying K=some (.int .i64))(hz:(zeroValue e).run P w=.ok z w){x:Int}(hx:(Lit.int .i64 x).wf=true):
  (Instr.lookup t (.map (some b)) (.int .i64 x) true).run P w=.ok (.tuple #[(f x).getD z,.bool (f x).isSome]) w:=by
 obtain⟨D,hD,hf⟩:=h;obtain⟨v,ps,hr,hv⟩:=hD.look_ok KI ht hz (zd:=.held z) (zp:=[]) rfl (Maps.keyOf_int_mk hk hx);obtain⟨h1,h2⟩:=hf x hx;rw[hr,h1];unfold PH at hv;simp only[Option.some.injEq,Prod.mk.injEq]at hv;cases hfx:f x with
 | none=>
  rw[hfx]at h1;have:=hv.1;rw[Maps.atKey_of_not_has h1]at this
  grind
 | some u=>
  simp_all
theorem BI.look(h:BI P K w b n f)(KI:Maps.Keyed P K){t:TypeId}(ht:P.underlying t=some (.map K e))(hk:P.underlying K=some (.int .i64))(hz:(zeroValue e).run P w=.ok z w){x:Int}(hx:(Lit.int .i64 x).wf=true):
  (Instr.lookup t (.map (some b)) (.int .i64 x) false).run P w=.ok ((f x).getD z) w:=by
 obtain⟨D,hD,hf⟩:=h;obtain⟨v,ps,hr,hv⟩:=hD.lookup KI ht hz (zd:=.held z) (zp:=[]) rfl (Maps.keyOf_int_mk hk hx);obtain⟨h1,h2⟩:=hf x hx;rw[hr];unfold PH at hv;simp only[Option.some.injEq,Prod.mk.injEq]at hv;cases hfx:f x with
 | none=>
  rw[hfx]at h1;have:=hv.1;rw[Maps.atKey_of_not_has h1]at this
  grind
 | some u=>
  simp_all
end
theorem X9l(w:World){ops:Array Oper}{rest:List Oper}{o:Oper}{a:Act}
  (hg:o.guard=none) (m x v:Operand) (t:TypeId) (hop:o.op=Op.mapUpdate t m x v)
  (k e:TypeId) (K:Maps.Keyed P k) (ht:P.underlying t=some (.map k e)) (hk:P.underlying k=some (.int .i64)) (b n:Nat) (f:Int->Option Value)
  (hm:a.eval m=.map (some b)) (hown:BI P k w b n f) (hn:n<maxLen) (key:Int) (val:Value) (hx:a.eval x=.int .i64 key) (hv:a.eval v=val) (hw:(Lit.int .i64 key).wf=true)
  (hK:∀w',BI P k w' b (n+1) (λy=>if y=key then some val else f y)->AB (λi=>i=b) w w'->wpList P ops Q rest (a.put o.dst undef) w'):
  wpList P ops Q (o :: rest) a w:=by
 obtain⟨D,hD,hf⟩:=hown;have X:=Maps.keyOf_int_mk (P:=P) hk hw;refine wpList_mapUpdate_own w hg m x v t hop k e K ht PH b n D hm hD hn (.int .i64 key) val _ hx hv X (.held val) [] rfl λw' h1 h2=>?_;refine hK w' ⟨_,h1,λy hy=>?_⟩ (EC h2 _ (λi hi _=>by cases hi;rfl));by_cases e:y=key
 ·subst e;dsimp only;rw[θ rfl];refine⟨Maps.has_put_same hD.isMap (K.key X) _,λv hv z=>?_⟩;cases hv;exact Maps.atKey_put_same hD.isMap (K.key X) _ _
 ·dsimp only;rw[φ e];have Y:(Lit.int .i64 y)≠.int .i64 key:=λh=>e (by injection h);exact⟨(Maps.has_put_other Y _).trans (hf y hy).1,λv hv z=>(Maps.atKey_put_other Y _ _).trans ((hf y hy).2 v hv z)⟩
theorem XB(w:World):(zeroValue 3).run prog w=.ok (iI 0) w:=by kernel_rfl
theorem JE:Maps.Keyed prog 3:=Maps.int_keyed underlying3
def K0(v:Vm)(O:List Int)(to:Int)(x:Int):Option Value:=if x∈O then some (iI (BX v O to x))else none
structure CpS(v:Vm)(rs:List Int)(L:List Ob)(to:Nat)(O:List Int)(k i:Nat)(v':Vm):Prop where
 nd:O.Nodup
 rch:∀a∈O,Rch v rs a
 cp:Cpd v v' to O k i
 kn:LF v O k i
 lt:k<O.length\/(k=O.length/\i=0)
structure C8(w:World)(S:Nat->Prop)(K M q:Nat)(v:Vm)(to:Nat)(O:List Int)(v':Vm):Prop where
 rc:Rec w K 209 [pP q,.map (some M),iI ((to:Int)+AI v O)]
 mp:BI prog 3 w M O.length (K0 v O to)
 vm:AC w S q v'
 nK:¬S K
 nM:¬S M
theorem C8.gr(h:C8 w S K M q v to O v')(g:Gr w w'):C8 w' S K M q v to O v':=
 ⟨h.rc.gr g,h.mp.gr g,h.vm.gr g,h.nK,h.nM⟩
theorem IM{T:Nat}(h:Rec w q T xs):∃cs fr,w.heap[q]?=some (.cells cs T fr):=by
 obtain⟨cur,h1⟩:=QF h rfl
 simp_all
theorem C8.ne(h:C8 w S K M q v to O v'):M≠K:=h.mp.ne (IM h.rc)
def QE(w:World)(S:Nat->Prop)(K M q:Nat)(v:Vm)(rs:List Int)(L:List Ob)(to:Nat)(O:List Int)(k i:Nat)(a:Int)(e:Ending)(w':World):Prop:=
 ∃v'',e=.returned (iI (BX v (CN O a) to a))/\AB (λb=>(b=K\/b=M)\/S b) w w'/\C8 w' (plus S w) K M q v to (CN O a) v''/\CpS v rs L to (CN O a) k i v''
theorem C8.plus{w0:World}(h:C8 w S K M q v to O v')(hz:K<w0.heap.size/\M<w0.heap.size):C8 w (plus S w0) K M q v to O v':=
 ⟨h.rc,h.mp,h.vm.mono (λ_ h=>.inl h),λh'=>h'.elim h.nK (λh=>absurd hz.1 (ξf h)),λh'=>h'.elim h.nM (λh=>absurd hz.2 (ξf h))⟩
theorem C8.lt(h:C8 w S K M q v to O v'):K<w.heap.size/\M<w.heap.size:=⟨h.rc.lt,h.mp.lt⟩
theorem VYh(h:C8 w S K M q v to O v')(ha:-9223372036854775808<=a/\a<=9223372036854775807):
  (Instr.lookup 146 (.map (some M)) (iI a) true).run prog w=.ok (.tuple #[iI (if a∈O then BX v O to a else 0),.bool (decide (a∈O))]) w:=by
 rw[h.mp.look_ok JE underlying146 underlying3 (XB w) (WalkArith.wf_i64 ha)];unfold K0
 grind
theorem CpS.zero(c:DM v rs L to)(h:CpS v rs L to O k i v'):(0:Int)∉O:=λhm=>by
 have:=(DH (c.mks.sound.rd _ (h.rch 0 hm))).1;omega
theorem Zz2(hC:C8 w S K M q v to O v')(c:DM v rs L to)(hf:FV v L)(hs:CpS v rs L to O k i v'){a:Nat}(ha:a=0\/Rch v rs a)(ha2:a<=2147483647):
  Calls prog 136 #[pP K,.int .i64 a] w (QE w S K M q v rs L to O k i a):=by
 have Xp:=hs.zero c;have HC:=hC;have HS:=hs;by_cases h0:a=0
 ·subst h0;have X:CN O ((0:Nat):Int)=O:=θ (.inl rfl)
  have hE:Hid (QE w S K M q v rs L to O k i ((0:Nat):Int) (.returned (.int .i64 0)) w):=⟨by
   refine⟨v',?_,AB.refl _ _,?_,?_⟩
   ·rw[X,show BX v O to ((0:Nat):Int)=0 from OT v _ Xp]
   ·rw[X];exact hC.plus hC.lt
   ·rw[X];exact hs⟩
  clear hC c hf hs ha X;go_enter func136,ntmps136;go_wp2;go_ret;exact hE.o
 ·have d0:((a:Int)==0)=false:=by simp;omega
  have Xf:=VYh hC (a:=a) Ω;have c1:=hC.rc.cc 1;by_cases hm:(a:Int)∈O
  ·have X:CN O (a:Int)=O:=θ (.inr hm);rw[θ hm,ξ hm]at Xf
   have hE:Hid (QE w S K M q v rs L to O k i (a:Int) (.returned (.int .i64 (BX v O to a))) w):=⟨by
    refine⟨v',?_,AB.refl _ _,?_,?_⟩
    ·rw[X]
    ·rw[X];exact hC.plus hC.lt
    ·rw[X];exact hs⟩
   clear hC c hf hs ha X hm h0;generalize BX v O to a=y at *
   go_enter func136,ntmps136;go_wp2;go_ret;exact hE.o
  ·have X:CN O (a:Int)=O++[(a:Int)]:=φ (λh=>h.elim Ω hm);rw[φ hm,ζ hm]at Xf;have hr:=ha.resolve_left h0;obtain⟨q1,q2,q3,q4⟩:=c.same hf hs.nd hs.rch hs.cp hr;have I:v'.osz a=v.osz a:=by unfold Vm.osz;rw[q3]
   obtain⟨-,-,p,f,cc,hh,Xv⟩:=F5 q2;have hp:=DH q2;obtain⟨z,hz⟩:∃z:Nat,(z:Int)=v.osz a:=⟨(v.osz a).toNat,by omega⟩;obtain⟨t1,t2,t3,t4⟩:=Cpd.take c hf hs.nd hs.rch hs.cp hs.kn hs.lt hr hm z hz;obtain⟨tp,N⟩:∃tp:Nat,(tp:Int)=to+AI v O:=⟨((to:Int)+AI v O).toNat,by have:=GH v O;omega⟩;rw[<-N]at t1 t2 t3;have c0:=hC.rc.cc 0;have c2:=hC.rc.cc 2;rw[<-N]at c2;have hn2:=c.ok.n2;have hpos:=c.pos;have Xu:=GH v O;have A:=(λ(W:World) (g:Gr w W)=>PC (hC.vm.gr g) (a:Int));rw[q2,hh]at A;have hN:CE ⟨p,f,cc⟩=(z:Int):=by rw[hz,<-I];unfold Vm.osz;rw[hh]
   have Xe:=(λW=>LM ⟨p,f,cc⟩ W);rw[hN]at Xe;have Xs:=(λ(W:World) (g:Gr w W)=>Vb7 (hC.vm.cut.gr g) (a:=a) (t:=tp) (n:=z) q2 (by rw[hz,I]) Ω (λm hm=>(q4 m Ω).1) t1)
   have Xg:Hid (BX v (O++[(a:Int)]) to a=tp/\(to:Int)+AI v (O++[(a:Int)])=(tp:Int)+z):=⟨by
    rw[TS v _ _ hm,M7];refine⟨?_,?_⟩
    ·rw[N];exact θ rfl
    ·simp only[AI];omega⟩
   have Xz:Hid (CpS v rs L to (O++[(a:Int)]) k i (cpV v' a tp z)):=⟨⟨by
     have:=TT hs.nd (a:Int);rwa [X]at this,λb hb=>by
     rcases ζg.1 hb with hb|hb
     ·exact hs.rch b hb
     ·rw[ζO.1 hb];exact hr,t3,t4,by
     rw[ζo,ξh];rcases hs.lt with h|h <;> left <;> omega⟩⟩
   have Xl:O.length<9223372036854775807:=by
    have h1:=c.sum hs.nd hs.rch
    have h2:(O.length:Int)<=AI v O:=by
     have:∀l:List Int,(∀b∈l,Rch v rs b)->(l.length:Int)<=AI v l:=λl=>by
      induction l with
      | nil=>intro _;exact ψi _
      | cons b r ih=>
       intro hl;have:=ih (λx hx=>hl x (ζl _ hx));have:=(DH (c.mks.sound.rd _ (hl b (ζh ..)))).2.1;simp only[AI,ζB];push_cast;omega
     exact this O hs.rch
    have:=c.top;omega
   have HLK:=Xf;have J:=ι X;have Xh:=ι N;have Xb:=ι hC.lt;have Yb:Hid (O.length<maxLen):=⟨Xl⟩;have Xx:Hid ((Lit.int .i64 (a:Int)).wf=true):=⟨WalkArith.wf_i64 Ω⟩
   have Ya:Hid (∀y:Int,(if y=(a:Int)then some (Value.int .i64 tp)else K0 v O to y)=K0 v (O++[(a:Int)]) to y):=⟨λy=>by
    unfold K0;by_cases e:y=(a:Int)
    ·rw[θ e,θ (by rw[e];simp),e,Xg.o.1]
    ·rw[φ e];by_cases hy:y∈O
     ·rw[θ hy,θ (ζx _ hy),YAF v _ _ hy]
     ·rw[φ hy,φ (λh=>(ζg.1 h).elim hy (λh=>e (ζO.1 h)))]⟩
   have Xo:=ι hC.ne;have HMEM:=ι hm;unfold AJ at A Xe;unfold spV at A Xs;have hKl:=hC.lt;clear hC c hf hs ha X hm h0 hr q1 q2 q3 q4 I hh Xv hp hz t1 t3 t4 N hN Xp Xu Xl;go_enter func136,ntmps136
   go_upto_region 10 with(first
    | (go_at_call 104;refine(A _ (Gr.refl w)).mono ?_;rintro e w1 ⟨rfl,Xd⟩;have U:=ι Xd;have V:=ι (HC.rc.gr Xd);have x0:=V.o.cc 0;have x1:=V.o.cc 1;have x2:=V.o.cc 2;rw[<-Xh.o]at x2;have xl:=V.o.lt;clear Xd)
    | (go_at_call 180;refine(Xs _ (U.o.alloc _)).mono ?_;rintro e w2 ⟨rfl,D,Xk⟩;have Yd:=ι D;have Ye:=ι Xk;have E:=ι ((V.o.gr ((Gr.refl w1).alloc (.cells #[.int .i64 p,.int .i64 f,.int .i64 cc] 72))).touch D (λh=>HC.nK h.1));have Yc:=ι ((HC.mp.gr (U.o.alloc (.cells #[.int .i64 p,.int .i64 f,.int .i64 cc] 72))).touch D (λh=>HC.nM h.1));have Xy:=ι ((Rec.new w1 72 [.int .i64 p,.int .i64 f,.int .i64 cc]).touch D (λh=>by have h1:=h.2;have h2:=U.o.size;omega));have y0:=E.o.cc 0;have y1:=E.o.cc 1;have y2:=E.o.cc 2;rw[<-Xh.o]at y2;have yl:=E.o.lt;clear D Xk)
    | (at_mapUpdate;refine X9l _ rfl _ _ _ 146 rfl 3 3 JE underlying146 underlying3 M O.length (K0 v O to) rfl Yc.o Yb.o (a:Int) (.int .i64 tp) rfl rfl Xx.o ?_;intro w3 Xi G;have Xw:=ι (Xi.congr Ya.o);have Xj:=ι G;have Xa:=ι (E.o.touch G (λh=>Xo.o h.symm));have B:=ι (Xy.o.touch G (λh=>by have h1:=Xb.o.2;have h2:=U.o.size;omega));clear Xi G))
   have u2:=Xa.o.cc 2;rw[<-Xh.o]at u2;have uf:=Xa.o.free 2;have ul:=Xa.o.lt;obtain⟨e0,e1,e2,el⟩:=B.o.k3;obtain⟨hb,Xn⟩:∃hb,hb=w1.heap.size:=⟨_,rfl⟩;rw[<-Xn]at e0 e1 e2 el⊢;clear Xn
   have KS:Hid (∀W',Gr w3 W'->(W'.cell? ⟨K,2,none⟩=some (.int .i64 tp)/\W'.cell? ⟨hb,0,none⟩=some (.int .i64 p))/\W'.cell? ⟨hb,1,none⟩=some (.int .i64 f)/\W'.cell? ⟨hb,2,none⟩=some (.int .i64 cc)):=
    ⟨λW' h=>⟨⟨(h.cell ul 2).trans u2,(h.cell el 0).trans e0⟩,(h.cell el 1).trans e1,(h.cell el 2).trans e2⟩⟩
   obtain⟨Sx,Z⟩:∃Sx:World->Prop,Sx=λW'=>Gr w3 W':=⟨_,rfl⟩;have z1:∀p':AA Sx,p'.w.cell? ⟨K,2,none⟩=some (.int .i64 tp):=λp=>(KS.o _ (AA.get Z p)).1.1;have z2:∀p':AA Sx,p'.w.cell? ⟨hb,0,none⟩=some (.int .i64 p):=λp=>(KS.o _ (AA.get Z p)).1.2;have z3:∀p':AA Sx,p'.w.cell? ⟨hb,1,none⟩=some (.int .i64 f):=λp=>(KS.o _ (AA.get Z p)).2.1;have z4:∀p':AA Sx,p'.w.cell? ⟨hb,2,none⟩=some (.int .i64 cc):=λp=>(KS.o _ (AA.get Z p)).2.2;have Xc:Sx w3.drew:=by rw[Z];exact(Gr.refl w3).drew
   have Xt:=ι Z;have Xq:Inhabited (AA Sx):=⟨⟨_,Xc⟩⟩;clear Z x0 x1 x2 xl y0 y1 y2 yl c0 c1 c2 e0 e1 e2 el;simp only[Act.put];refine AV Sx 9 [([0,1,2,3,4],5),([6,7,8],9)] [] Xc ?_;refine AH ?_;go_wp2_with(go_at_call 69;refine(Xe _).mono ?_;rintro e w4 ⟨rfl,Xr⟩;have Y:=ι ((Gr.refl w3).drew.trans Xr);have uf4:=(Y.o.frozen ul 2).trans uf;have u4:=(Y.o.cell ul 2).trans u2;clear Xr);refine⟨.inr (AA.of (by rw[Xt.o];exact Y.o)),?_⟩;refine AH ?_;go_wp2;refine⟨.inl trivial,?_⟩;refine EN ?_;refine ζb ?_;refine ζA ?_;clear z1 z2 z3 z4 Xc Xq;go_wp2;go_ret;have hz1:=U.o.size;have T3:AB (λb=>(b=K\/b=M)\/S b) w w3:=(((U.o.alloc _).touch _).trans (Yd.o.mono (λb _ h=>.inr h.1))).trans (Xj.o.mono (λb _ h=>.inl (.inr h)));have T5:=(T3.trans (Y.o.touch _)).setCell (a:=⟨K,2,none⟩) (λ_=>.inl (.inl rfl)) (.int .i64 ((tp:Int)+z));have tK:=(AB.refl (λb=>b=K) w4).setCell (a:=⟨K,2,none⟩) (λ_=>rfl) (.int .i64 ((tp:Int)+z))
   have Xm:∀b,(b=K\/b=M)->¬plus (AD S w) (w1.alloc (.cells #[.int .i64 p,.int .i64 f,.int .i64 cc] 72)) b:=λb hb h=>by
    rw[plus,χ]at h;have:=Xb.o;rcases hb with rfl|rfl
    ·rcases h with h|h
     ·exact HC.nK h.1
     ·omega
    ·rcases h with h|h
     ·exact HC.nM h.1
     ·omega
   refine⟨cpV v' a tp z,?_,T5,⟨?_,?_,?_,?_,?_⟩,?_⟩
   ·rw[J.o,Xg.o.1];rfl
   ·rw[J.o,Xg.o.2];exact(Xa.o.gr Y.o).set 2 (.int .i64 ((tp:Int)+z))
   ·rw[J.o,ζo,ξh];exact(Xw.o.gr Y.o).touch tK Xo.o
   ·exact((((Ye.o.touch Xj.o (λb hb _ e=>Xm b (.inr e) hb)).gr Y.o).touch tK (λb hb _ e=>Xm b (.inl e) hb))).mono (λb hb=>by
     rcases hb with h|h
     ·exact .inl h.1
     ·rw[χ]at h;right;omega)
   ·exact λh=>h.elim HC.nK (λh=>by have:=Xb.o.1;omega)
   ·exact λh=>h.elim HC.nM (λh=>by have:=Xb.o.2;omega)
   ·rw[J.o];exact Xz.o
structure Z5(w wr:World)(S Si:Nat->Prop)(K M q hb:Nat)(v:Vm)(rs:List Int)(L:List Ob)(to:Nat)(O:List Int)(k:Nat)(ob:Int)(p f c i:Nat)(Oi:List Int)(vi:Vm):Prop where
 cat:C8 wr Si K M q v to Oi vi
 st:CpS v rs L to Oi k i vi
 oi:Oi=DL O ((DP v ob).take i)
 sub:∀b,Si b->plus S w b
 rh:Rec wr hb 72 [iI p,iI f,iI c]
 nh:¬Si hb
 lh:w.heap.size<=hb
 t:AB (λb=>(b=K\/b=M)\/S b) w wr
def Y7m(w:World)(S:Nat->Prop)(K M q:Nat)(v:Vm)(rs:List Int)(L:List Ob)(to:Nat)(O:List Int)(k:Nat)(e:Ending)(w':World):Prop:=
 ∃v'',e=.returned (iI ((to:Int)+AI v (O.take (k+1))))/\AB (λb=>(b=K\/b=M)\/S b) w w'/\C8 w' (plus S w) K M q v to (DL O (DP v (O.getD k 0))) v''/\CpS v rs L to (DL O (DP v (O.getD k 0))) (k+1) 0 v''
theorem IV(h:i<l.length):l.take (i+1)=l.take i++[l[i]]:=by simp_all
theorem LH(hj:j<l.length)(a:Int):∃h:j<(CN l a).length,(CN l a)[j]=l[j]/\(CN l a).take j=l.take j:=by
 obtain⟨Y,hY⟩:=V2 l a
 grind
theorem CpS.field(c:DM v rs L to)(hs:CpS v rs L to O k i v')(hj:j<l.length){b:Int}(hO:O=CN l b){t:Int}(ha:l[j]=a)(ht:t=to+AI v (l.take j))(hm:(m:Int)<(v.rdH a).p):
  v'.plE t m 1=0/\v'.ldE (t+1+m)=0:=by
 obtain⟨h1,h2,h3⟩:=LH hj b;subst hO;have:=(Cpd.copy c hs.nd hs.rch hs.cp h1 (t:=t) (by simp_all)).2.2.2 m
 simp_all
theorem ZQS(hC:C8 w S K M q v to O v')(c:DM v rs L to)(hf:FV v L)(hs:CpS v rs L to O k 0 v')(hk:k<O.length):
  Calls prog 137 #[pP K,iI ((to:Int)+AI v (O.take k))] w (Y7m w S K M q v rs L to O k):=by
 obtain⟨ob,Ya⟩:∃ob,ob=O.getD k 0:=⟨_,rfl⟩;have V:O[k]=ob:=by rw[Ya,β,ω hk];rfl
 obtain⟨t,ht⟩:∃t:Nat,(t:Int)=to+AI v (O.take k):=⟨((to:Int)+AI v (O.take k)).toNat,by have:=GH v (O.take k);omega⟩;have hr:=hs.rch _ (μ hk);rw[V]at hr;have Zd:=c.mks.sound.rd _ hr;obtain⟨-,-,p,f,cc,hh,Xr⟩:=F5 Zd;have Xn:v.osz ob=((1+p+f+cc:Nat):Int):=by unfold Vm.osz;rw[hh,show CE ⟨p,f,cc⟩=1+(p:Int)+f+cc from θ (EQ Xr)];push_cast;rfl
 have E:=Cpd.copy c hs.nd hs.rch hs.cp hk ht;rw[V]at E;have Xi:=(λ(W:World) (g:Gr w W)=>PC (hC.vm.gr g) (t:Int));rw[E.1,E.2.1,hh]at Xi;have Yb:=(λW=>LM ⟨p,f,cc⟩ W);rw[show CE ⟨p,f,cc⟩=1+(p:Int)+f+cc from θ (EQ Xr)]at Yb;have A:(DP v ob).length=p:=by rw[TI,hh];rfl
 have Xp:(to:Int)+AI v (O.take (k+1))=(t:Int)+(1+p+f+cc):=by
  rw[K8 v hk,V,Xn,ht];push_cast;omega
 have J:(t:Int)+(1+p+f+cc)<=v.n:=by
  have h1:=c.sum hs.nd hs.rch;have h2:=SI v O (k+1);have:=c.top;omega
 have hn2:=c.ok.n2;have c0:=hC.rc.cc 0;have HC:=hC;have HS:=hs;have Z:=(ψ c hf);have N:=(ψ Ya (ψ (show ∀h:k<O.length,O[k]=ob from λ_=>V) (ψ hr (ψ hh (ψ Xr A)))));have HK:=hk;have HT:=ι ht;have Yp:=ι Xp;have Zc:=hC.lt;rw[<-ht];have hplast:p<=255:=Ω
 unfold AJ at Xi Yb;unfold spV at Xi;clear hC hs c hf Ya V hr Zd hh Xn E A Xp ht hk;go_enter func137,ntmps137
 go_upto_region 2 with(first
  | (go_at_call 104;refine(Xi _ (Gr.refl w)).mono ?_;rintro e w1 ⟨rfl,Yo⟩;have Xc:=ι Yo;have Yf:=ι (Rec.new w1 72 [iI p,iI f,iI cc]);clear Yo))
 have e0:=Yf.o.cc 0;have el:=Yf.o.lt;have Zg:=Xc.o.size
 have Xt:Hid (Z5 w (w1.alloc (.cells #[.int .i64 p,.int .i64 f,.int .i64 cc] 72)) S (AD S w) K M q w1.heap.size v rs L to O k ob p f cc 0 O v'):=⟨
  ⟨⟨(HC.gr (Xc.o.alloc _)).rc,(HC.gr (Xc.o.alloc _)).mp,(HC.vm.cut.gr (Xc.o.alloc _)),λh=>HC.nK h.1,λh=>HC.nM h.1⟩,HS,by simp[DL],λb hb=>.inl hb.1,Yf.o,λh=>by have:=h.2;omega,Zg,(Xc.o.alloc _).touch _⟩⟩
 obtain⟨hb,Yu⟩:∃hb,hb=w1.heap.size:=⟨_,rfl⟩;rw[<-Yu]at e0 el Xt⊢;clear Yu;go_wp2
 go_loopw [22] (λs22 wr=>∃(i:Nat) (Oi:List Int) (vi:Vm) (Si:Nat->Prop),i<=p/\Hid (Z5 w wr S Si K M q hb v rs L to O k ob p f cc i Oi vi)/\s22=iI i) (λs22 _=>p-(intOf s22).toNat)
 case atStart=>exact⟨0,O,v',_,by omega,Xt,rfl⟩
 case round=>
  obtain⟨i,Oi,vi,Si,hi,HI,rfl⟩:=hrel;clear e0 el Xt c0;obtain⟨X,hX⟩:=WC O ((DP v ob).take i);rw[<-HI.o.oi]at hX;have D:k<Oi.length:=by rw[hX,ζo];have:=HK;omega
  have B:Oi[k]=ob:=by
   have:=N.2.1 HK;simp only[hX,ζE HK];exact this
  have Xg:(t:Int)=to+AI v (Oi.take k):=by rw[HT.o,hX,ξP (Nat.le_of_lt HK)]
  by_cases J:i=p
  ·subst J;have x0:=HI.o.rh.cc 0;have x1:=HI.o.rh.cc 1;have x2:=HI.o.rh.cc 2;have Yj:=Cpd.next HI.o.st.cp HI.o.st.kn D (by rw[B,N.2.2.2.1])
   have Yt:Oi=DL O (DP v (O.getD k 0)):=by rw[<-N.1,HI.o.oi,ψo (by rw[N.2.2.2.2.2];exact ϑ _)]
   have Yz:=ι Yj;have Yr:=ι Yt;have Y:=ι D;clear Yj Yt hX D B Xg;go_wp2_with(go_at_call 69;refine(Yb _).mono ?_;rintro e w3 ⟨rfl,Ys⟩;have Yx:=ι Ys;clear Ys);go_ret;have hc:=HI.o.cat.gr Yx.o;refine⟨vi,?_,HI.o.t.trans (Yx.o.touch _),?_,?_⟩
   ·rw[Yp.o];rfl
   ·rw[<-Yr.o];exact⟨hc.rc,hc.mp,hc.vm.mono HI.o.sub,λh=>h.elim HC.nK (λh=>by have:=Zc.1;omega),λh=>h.elim HC.nM (λh=>by have:=Zc.2;omega)⟩
   ·rw[<-Yr.o];exact⟨HI.o.st.nd,HI.o.st.rch,Yz.o.1,Yz.o.2,by have:=Y.o;omega⟩
  ·have Xu:=Cpd.copy Z.1 HI.o.st.nd HI.o.st.rch HI.o.st.cp D Xg;rw[B]at Xu;have Xe:(i:Int)<(v.rdH ob).p:=by rw[N.2.2.2.1];show (i:Int)<(p:Int);omega
   obtain⟨Za,Yq⟩:=Xu.2.2.1 rfl i (ϑ _) Xe;have Yi:=Z.1.mks.sound.pt _ N.2.2.1 i Xe;have Xl:=JZ Yi;have Xh:=ι (λ(W:World) (g:Gr wr W)=>ZZi (HI.o.cat.vm.gr g) (t:Int) i);rw[Za,Yq]at Xh;have Xx:i<(DP v ob).length:=by rw[N.2.2.2.2.2];omega
   have Zb:=XE v ob Xx;have Xj:=IV Xx;rw[Zb]at Xj
   have Xf:v.ldV (ob+1+i)=0\/Rch v rs (v.ldV (ob+1+i):Nat):=by
    by_cases h0:v.ldV (ob+1+i)=0
    ·exact .inl h0
    ·right;have hh:=N.2.2.1;exact hh.step ⟨Z.1.mks.sound.rd _ hh,i,Xe,Yi,by rw[Xl.1];exact h0,by rw[Xl.1]⟩
   have Xy:=Xl.2.1;obtain⟨pv,Xa⟩:∃pv,pv=v.ldV (ob+1+i):=⟨_,rfl⟩;rw[<-Xa]at Xh Xj Xf Xy;have Xo:=TT HI.o.st.nd (pv:Int)
   have I:∀b∈CN Oi (pv:Int),Rch v rs b:=λb hb=>by
    rcases NK.1 hb with h|⟨rfl,h0⟩
    ·exact HI.o.st.rch b h
    ·exact Xf.resolve_left Ω
   obtain⟨xN,Yd,Yv⟩:∃xN:Nat,(xN:Int)=BX v (CN Oi (pv:Int)) to pv/\xN<=2147483647:=by
    by_cases h0:pv=0
    ·refine⟨0,?_,by omega⟩;rw[h0,OT v _ (λh=>by have:=(DH (Z.1.mks.sound.rd _ (I _ (by rw[h0];exact h)))).1;omega)];rfl
    ·have h1:=UU v (to:Int) (NK (O:=Oi).2 (.inr ⟨rfl,(by omega:(pv:Int)≠0)⟩));have h2:=Z.1.sum Xo I;have h3:=Z.1.top;have h4:=TR v (pv:Int);exact⟨(BX v (CN Oi (pv:Int)) to pv).toNat,by omega,by omega⟩
   have Yg:=ι (λ(W:World) (g:Gr wr W)=>Zz2 (HI.o.cat.gr g) Z.1 Z.2 HI.o.st Xf Xy);unfold QE at Yg;rw[<-Yd]at Yg;have Xm:=ι Xa;have Xq:=ι (ψ Yd Yv);have Zh:=ι Xj;have Y:=ι (ψ D (ψ Xg (ψ hX (show ∀h:k<Oi.length,Oi[k]=ob from λ_=>B))));have Ym:=ι Xe;have y0:=HI.o.cat.rc.cc 0;have yl:=HI.o.cat.rc.lt;have x0:=HI.o.rh.cc 0;have Yh:=ι J;have hiI:(i:Int)<(p:Int):=Ω
   have Zi:=HI.o.rh.lt;unfold spV at Xh;clear Xu Xe Za Yq Yi Xl Xx Zb Xj Xf Xy Xa Xo I Yd Yv D Xg hX B J;go_upto_region 6 with(go_at_call 57;refine(Xh.o _ (Gr.refl _)).mono ?_;rintro e w2 ⟨rfl,Xz⟩;have Xb:=ι Xz;have Yc:=(Xz.cell yl 0).trans y0;clear Xz);have KS:Hid (∀W',Gr w2 W'->W'.cell? ⟨K,0,none⟩=some (pP q)):=⟨λW' h=>(h.cell (κ yl Xb.o.size) 0).trans Yc⟩;obtain⟨Sx,Xk⟩:∃Sx:World->Prop,Sx=λW'=>W'.cell? ⟨K,0,none⟩=some (pP q):=⟨_,rfl⟩;have z1:∀p':AA Sx,p'.w.cell? ⟨K,0,none⟩=some (pP q):=λp=>AA.get Xk p;have Xs:Sx w2.drew:=by rw[Xk];exact Yc
   have Zf:=ι Xk;have Ze:Inhabited (AA Sx):=⟨⟨_,Xs⟩⟩;clear Xk y0 Yc x0 Zi;refine AV Sx 10 [([0,1,2,3,4,5,6,7,8],9),([],10)] [] Xs ?_;refine AH ?_;go_wp2_with(go_at_call 136;refine(Yg.o _ Xb.o.drew).mono ?_;rintro e w3 ⟨v2,rfl,Yn,Ye,Xw⟩;have Xv:=ι Yn;have U:=ι Ye;have G:=ι Xw;have Zj:=ι (CpS.field Z.1 Xw Y.o.1 rfl (Y.o.2.2.2 Y.o.1) Y.o.2.1 Ym.o);have u0:=Ye.rc.cc 0;clear Yn Ye Xw);refine⟨.inr (AA.of (by rw[Zf.o];exact u0)),?_⟩;refine OB ?_;simp only[AF,ν,π];refine ζb ?_;go_wp2_with(go_at_call 102;have Yl:=QRl U.o.vm Zj.o.1 Xq.o.2;unfold spV at Yl;refine Yl.mono ?_;rintro e w4 ⟨rfl,Yk,Yw⟩;have Xd:=ι Yk;have Zk:=ι Yw;clear Yk Yw);refine⟨.inl trivial,?_⟩;refine EN ?_;refine ζb ?_;refine ζA ?_;clear z1 Xs Ze u0;go_wp2;have hzr:=HI.o.t.size;have hz2:=Xb.o.size;have hz3:=Xv.o.size;have hz4:=Xd.o.size;have hzd:w2.drew.heap.size=w2.heap.size:=rfl;have hbl:=HI.o.rh.lt;have hKr:=HI.o.cat.lt;go_round
   case rel=>
    have Yy:=Cpd.set Z.1 G.o.nd G.o.rch G.o.cp G.o.kn (LH Y.o.1 (pv:Int)).1 (t:=(t:Int)) (by rw[(LH Y.o.1 (pv:Int)).2.2];exact Y.o.2.1) (by rw[(LH Y.o.1 (pv:Int)).2.1,Y.o.2.2.2 Y.o.1];exact Ym.o)
     (by rw[(LH Y.o.1 (pv:Int)).2.1,Y.o.2.2.2 Y.o.1,<-Xm.o];by_cases h0:(pv:Int)=0;(· exact .inl h0);(· exact .inr (NK.2 (.inr ⟨rfl,h0⟩)))) (x:=xN) (by rw[(LH Y.o.1 (pv:Int)).2.1,Y.o.2.2.2 Y.o.1,<-Xm.o];exact Xq.o.1) (by have:=Xq.o.2;omega)
    refine⟨i+1,CN Oi (pv:Int),v2.st ((t:Int)+1+i) xN,plus (plus Si w2.drew) w3,by have:=Yh.o;omega,⟨⟨⟨?_,?_,Zk.o,?_,?_⟩,⟨G.o.nd,G.o.rch,Yy.1,Yy.2,.inl (LH Y.o.1 (pv:Int)).1⟩,?_,?_,?_,?_,HI.o.lh,?_⟩⟩,by go_num⟩
    ·exact U.o.rc.touch Xd.o U.o.nK
    ·exact U.o.mp.touch Xd.o U.o.nM
    ·exact λh=>h.elim U.o.nK (λh=>by have:=U.o.lt.1;omega)
    ·exact λh=>h.elim U.o.nM (λh=>by have:=U.o.lt.2;omega)
    ·rw[Zh.o,UI,<-HI.o.oi]
    ·intro b hb;rcases hb with(h|h)|h
     ·exact HI.o.sub b h
     ·right;omega
     ·right;omega
    ·refine(((HI.o.rh.gr Xb.o.drew).touch Xv.o (λh=>?_))).touch Xd.o (λh=>?_)
     ·have:=HI.o.lh;rcases h with(h|h)|h
      ·omega
      ·omega
      ·exact HI.o.nh h
     ·rcases h with h|h
      ·exact HI.o.nh h
      ·omega
    ·intro h;rcases h with(h|h)|h
     ·exact HI.o.nh h
     ·omega
     ·omega
    ·have t2:=HI.o.t.trans (Xb.o.drew.touch _)
     have t3:=t2.trans' Xv.o (λb hb h=>by
      rcases h with h|h
      ·exact .inl h
      ·exact(HI.o.sub b h).elim .inr (λh=>by omega))
     refine t3.trans' Xd.o (λb hb h=>?_);rcases h with h|h
     ·exact(HI.o.sub b h).elim .inr (λh=>by omega)
     ·omega
   case measure=>simp[intOf];omega
inductive EE where
 | fin (qs:List Nat)
 | one (qs:List Nat) (k:Nat) (t:EE)
 | two (qs:List Nat) (k1:Nat) (t1:EE) (k2:Nat) (t2:EE)
variable{t1 t2:EE}
def EE.len:EE->Nat
 | .fin qs=>qs.length
 | .one qs _ t=>qs.length+(t.len+1)
 | .two qs _ t1 _ _=>qs.length+(t1.len+1)
def GK(md:Region.Mode)(ops:Array Oper):List Nat->Array Bool->Option (Array Bool)
 | [],listed=>some listed
 | k :: r,listed=>if (Region.ready md ops listed).contains k&&Region.free md ops listed k&&((ops[k]?).any JJ)then GK md ops r (listed.setIfInBounds k true)else none
def E3(md:Region.Mode)(ops:Array Oper):EE->Array Bool->Bool
 | .fin qs,listed=>match GK md ops qs listed with
  | some l=>(Region.ready md ops l).isEmpty
  | none=>false
 | .one qs k t,listed=>match GK md ops qs listed with
  | some l=>decide (Region.ready md ops l=[k])&&E3 md ops t (l.setIfInBounds k true)
  | none=>false
 | .two qs k1 t1 k2 t2,listed=>match GK md ops qs listed with
  | some l=>decide (Region.ready md ops l=[k1,k2])&&decide (t1.len=t2.len)&&E3 md ops t1 (l.setIfInBounds k1 true)&&E3 md ops t2 (l.setIfInBounds k2 true)
  | none=>false
def F7(P:Program)(l:List Oper)(S:World->Prop)(Q:Exit->Act->World->Prop):EE->Act->World->Prop
 | .fin qs,a,w=>wpQuiet P l.toArray S (λa'=>Q .normal a' w) (AF l qs) a
 | .one qs k t,a,w=>wpQuiet P l.toArray S (λa'=>wpList P l.toArray (Exit.then (λa2 w2=>S w2/\F7 P l S Q t a2 w2) Q) (AF l [k]) a' w) (AF l qs) a
 | .two qs k1 t1 k2 t2,a,w=>wpQuiet P l.toArray S (λa'=>wpList P l.toArray (Exit.then (λa2 w2=>S w2/\F7 P l S Q t1 a2 w2) Q) (AF l [k1]) a' w/\wpList P l.toArray (Exit.then (λa2 w2=>S w2/\F7 P l S Q t2 a2 w2) Q) (AF l [k2]) a' w) (AF l qs) a
section
variable{l:List Oper}{S:World->Prop}{z:Nat}
theorem QL(hsel:Region.noSelect l.toArray=true)(hQ:∀c a b w,Q (.panic c) b w->Q (.panic c) a w)(hz:C7 md l.toArray z=true){w:World}(hS:S w){K:Act->Prop}{f:Nat}{l':Array Bool}
  (hK:∀a,B9 md l.toArray l'->K a->H8 P md l.toArray Q S z f l' a w):
  ∀(qs:List Nat) (listed:Array Bool) (a:Act),GK md l.toArray qs listed=some l'->B9 md l.toArray listed->wpQuiet P l.toArray S K (AF l qs) a →
   H8 P md l.toArray Q S z (qs.length+f) listed a w
 | [],listed,a,hB,hc,h=>by
  simp only[GK,Option.some.injEq]at hB;subst hB;simpa using hK a hc h
 | k :: qs,listed,a,hB,hc,h=>by
  simp only[GK]at hB
  split at hB
  ·rename_i hb;simp only[ζe]at hb;obtain⟨⟨hr,hf⟩,hq⟩:=hb;cases ho:l.toArray[k]? with
   | none=>simp_all
   | some o=>
    rw[ho]at hq;have Y:k∈Region.ready md l.toArray listed:=by simp_all
    rw[E4 ho]at h;simp only[wpQuiet]at h
    have hy:∃v,YieldsIf P l.toArray S o v a/\wpQuiet P l.toArray S K (AF l qs) (a.put o.dst v):=by
     split at h
     ·rename_i hw;obtain⟨v,h1,h2⟩:=h
      grind [OD]
     ·rename_i hw;exact⟨undef,.inr ⟨by simp_all,rfl⟩,h⟩
    obtain⟨v,hy,Z⟩:=hy;have X:(k :: qs).length+f=(qs.length+f)+1:=by simp;omega
    rw[X];exact X9 ho (Region.noSelect_spec hsel) (λc a w h=>hQ c a _ w h) hz _ listed a w hc (Region.free_spec ho hf) Y hy hS (QL hsel hQ hz hS hK qs _ _ hB (hc.set Y) Z)
  ·cases hB
theorem RZ(hsel:Region.noSelect l.toArray=true)(hQ:∀c a b w,Q (.panic c) b w->Q (.panic c) a w)(hz:C7 md l.toArray z=true):
  ∀(t:EE) (listed:Array Bool) (a:Act) (w:World),E3 md l.toArray t listed=true->B9 md l.toArray listed->S w->F7 P l S Q t a w->H8 P md l.toArray Q S z t.len listed a w
 | .fin qs,listed,a,w,hB,hc,hS,h=>by
  simp only[E3]at hB
  split at hB
  ·rename_i l' hl;exact QL (f:=0) (K:=λa'=>Q .normal a' w) hsel hQ hz hS (λa _ h=>⟨by simpa using hB,h⟩) qs listed a hl hc h
  ·cases hB
 | .one qs k t,listed,a,w,hB,hc,hS,h=>by
  simp only[E3]at hB
  split at hB
  ·rename_i l' hl;simp only[ζe,ζd]at hB;obtain⟨hr,hB'⟩:=hB;refine QL hsel hQ hz hS (λa hc h=>?_) qs listed a hl hc h;have X:k∈Region.ready md l.toArray l':=by rw[hr];simp
   refine⟨λh0=>(by rw[hr]at h0;cases h0),λi hi=>?_⟩;rw[hr]at hi;obtain rfl:i=k:=by simpa using hi
   obtain⟨_,o,ho,_⟩:=mem_ready.1 X;rw[E4 ho]at h;exact N6 ho (λa2 w2 h2=>⟨.inr h2.1,RZ hsel hQ hz t _ a2 w2 hB' (hc.set X) h2.1 h2.2⟩) h
  ·cases hB
 | .two qs k1 t1 k2 t2,listed,a,w,hB,hc,hS,h=>by
  simp only[E3]at hB
  split at hB
  ·rename_i l' hl;simp only[ζe,ζd]at hB;obtain⟨⟨⟨hr,Y⟩,Z⟩,J⟩:=hB;refine QL hsel hQ hz hS (λa hc h=>?_) qs listed a hl hc h;refine⟨λh0=>(by rw[hr]at h0;cases h0),λi hi=>?_⟩;have X:i∈Region.ready md l.toArray l':=hi;rw[hr]at hi;obtain⟨_,o,ho,_⟩:=mem_ready.1 X;have hi:i=k1\/i=k2:=by simpa using hi
   rcases hi with rfl|rfl
   ·have h:=h.1;rw[E4 ho]at h;exact N6 ho (λa2 w2 h2=>⟨.inr h2.1,RZ hsel hQ hz t1 _ a2 w2 Z (hc.set X) h2.1 h2.2⟩) h
   ·have h:=h.2;rw[E4 ho]at h;rw[Y];exact N6 ho (λa2 w2 h2=>⟨.inr h2.1,RZ hsel hQ hz t2 _ a2 w2 J (hc.set X) h2.1 h2.2⟩) h
  ·cases hB
theorem JzF{a:Act}(S:World->Prop)(t:EE)(hm:P.follows .mixedOrders=true)
  (hB:(Region.noSelect l.toArray&&E3 .any l.toArray t (Array.replicate l.toArray.size false)&&t.len==l.toArray.size)=true) (hS:S w.drew)
  (h:F7 P l (λw'=>∃p:AA S,w'=p.w) (NoPanic Q) t a w.drew):(Code.region id l.toArray true).wp P Q a w:=by
 simp only[ζe,ζ1]at hB;obtain⟨⟨Y,hB⟩,X⟩:=hB;refine wp_region_noPanic (wp_region_any hm ?_);have hz:C7 .any l.toArray l.toArray.size=true:=by unfold C7;simp
 have:=RZ (P:=P) (Q:=NoPanic Q) (S:=λw'=>∃p:AA S,w'=p.w) (md:=.any) Y (λc a b w h=>h) hz t _ a w.drew hB (B9.none .any l.toArray) (AA.of hS) h;rw[X]at this;exact XX _ _ _ _ this
theorem YW{a:Act}(S:World->Prop)(t:EE)(hS:S w.drew)(h:F7 P l (λw'=>∃p:AA S,w'=p.w) (NoPanic Q) t a w.drew)(hm:P.follows .mixedOrders=true:=by kernel_rfl)(hB:(Region.noSelect l.toArray&&E3 .any l.toArray t (Array.replicate l.toArray.size false)&&t.len==l.toArray.size)=true:=by kernel_rfl) :(Code.region id l.toArray true).wp P Q a w := JzF S t hm hB hS h
end
section
variable{F:Fence}
def GJ(F:Fence)(n:Nat)(P:Program)(l:List Oper)(S:World->Prop)(Q:Exit->Act->World->Prop):EE->Act->World->Prop
 | .fin qs,a,w=>wpQuiet P l.toArray S (λa'=>Q .normal a' w) (AF l qs) a
 | .one qs k t,a,w=>wpQuiet P l.toArray S (λa'=>wpListIn F n P l.toArray (Exit.then (λa2 w2=>S w2/\GJ F n P l S Q t a2 w2) Q) (AF l [k]) a' w) (AF l qs) a
 | .two qs k1 t1 k2 t2,a,w=>wpQuiet P l.toArray S (λa'=>wpListIn F n P l.toArray (Exit.then (λa2 w2=>S w2/\GJ F n P l S Q t1 a2 w2) Q) (AF l [k1]) a' w/\wpListIn F n P l.toArray (Exit.then (λa2 w2=>S w2/\GJ F n P l S Q t2 a2 w2) Q) (AF l [k2]) a' w) (AF l qs) a
section
variable{l:List Oper}{S:World->Prop}{z:Nat}
theorem O4(hF:∀f,F.fn f)(hnd:GE l.toArray=true)(hsel:Region.noSelect l.toArray=true)(hQ:∀c a b w,Q (.panic c) b w->Q (.panic c) a w)(hz:C7 md l.toArray z=true){w:World}(hS:S w){K:Act->Prop}{f:Nat}{l':Array Bool}
  (hK:∀a,B9 md l.toArray l'->K a->GT F n P md l.toArray Q S z f l' a w):
  ∀(qs:List Nat) (listed:Array Bool) (a:Act),GK md l.toArray qs listed=some l'->B9 md l.toArray listed->wpQuiet P l.toArray S K (AF l qs) a →
   GT F n P md l.toArray Q S z (qs.length+f) listed a w
 | [],listed,a,hB,hc,h=>by
  simp only[GK,Option.some.injEq]at hB;subst hB;simpa using hK a hc h
 | k :: qs,listed,a,hB,hc,h=>by
  simp only[GK]at hB
  split at hB
  ·rename_i hb;simp only[ζe]at hb;obtain⟨⟨hr,hf⟩,hq⟩:=hb;cases ho:l.toArray[k]? with
   | none=>simp_all
   | some o=>
    rw[ho]at hq;have Y:k∈Region.ready md l.toArray listed:=by simp_all
    rw[E4 ho]at h;simp only[wpQuiet]at h
    have hy:∃v,YieldsIf P l.toArray S o v a/\wpQuiet P l.toArray S K (AF l qs) (a.put o.dst v):=by
     split at h
     ·rename_i hw;obtain⟨v,h1,h2⟩:=h
      grind [OD]
     ·rename_i hw;exact⟨undef,.inr ⟨by simp_all,rfl⟩,h⟩
    obtain⟨v,hy,Z⟩:=hy;have X:(k :: qs).length+f=(qs.length+f)+1:=by simp;omega
    rw[X];exact Qio hF hnd ho (Region.noSelect_spec hsel) (λc a w h=>hQ c a _ w h) hz _ listed a w hc (Region.free_spec ho hf) Y hy hS (O4 hF hnd hsel hQ hz hS hK qs _ _ hB (hc.set Y) Z)
  ·cases hB
theorem PN(hF:∀f,F.fn f)(hnd:GE l.toArray=true)(hsel:Region.noSelect l.toArray=true)(hQ:∀c a b w,Q (.panic c) b w->Q (.panic c) a w)(hz:C7 md l.toArray z=true):
  ∀(t:EE) (listed:Array Bool) (a:Act) (w:World),E3 md l.toArray t listed=true->B9 md l.toArray listed->S w->GJ F n P l S Q t a w->GT F n P md l.toArray Q S z t.len listed a w
 | .fin qs,listed,a,w,hB,hc,hS,h=>by
  simp only[E3]at hB
  split at hB
  ·rename_i l' hl;exact O4 (n:=n) (f:=0) (K:=λa'=>Q .normal a' w) hF hnd hsel hQ hz hS (λa _ h=>⟨by simpa using hB,h⟩) qs listed a hl hc h
  ·cases hB
 | .one qs k t,listed,a,w,hB,hc,hS,h=>by
  simp only[E3]at hB
  split at hB
  ·rename_i l' hl;simp only[ζe,ζd]at hB;obtain⟨hr,hB'⟩:=hB;refine O4 hF hnd hsel hQ hz hS (λa hc h=>?_) qs listed a hl hc h;have X:k∈Region.ready md l.toArray l':=by rw[hr];simp
   refine⟨λh0=>(by rw[hr]at h0;cases h0),λi hi=>?_⟩;rw[hr]at hi;obtain rfl:i=k:=by simpa using hi
   obtain⟨_,o,ho,_⟩:=mem_ready.1 X;rw[E4 ho]at h;exact O8 ho (λa2 w2 h2=>⟨.inr h2.1,PN hF hnd hsel hQ hz t _ a2 w2 hB' (hc.set X) h2.1 h2.2⟩) h
  ·cases hB
 | .two qs k1 t1 k2 t2,listed,a,w,hB,hc,hS,h=>by
  simp only[E3]at hB
  split at hB
  ·rename_i l' hl;simp only[ζe,ζd]at hB;obtain⟨⟨⟨hr,Y⟩,Z⟩,J⟩:=hB;refine O4 hF hnd hsel hQ hz hS (λa hc h=>?_) qs listed a hl hc h;refine⟨λh0=>(by rw[hr]at h0;cases h0),λi hi=>?_⟩;have X:i∈Region.ready md l.toArray l':=hi;rw[hr]at hi;obtain⟨_,o,ho,_⟩:=mem_ready.1 X;have hi:i=k1\/i=k2:=by simpa using hi
   rcases hi with rfl|rfl
   ·have h:=h.1;rw[E4 ho]at h;exact O8 ho (λa2 w2 h2=>⟨.inr h2.1,PN hF hnd hsel hQ hz t1 _ a2 w2 Z (hc.set X) h2.1 h2.2⟩) h
   ·have h:=h.2;rw[E4 ho]at h;rw[Y];exact O8 ho (λa2 w2 h2=>⟨.inr h2.1,PN hF hnd hsel hQ hz t2 _ a2 w2 J (hc.set X) h2.1 h2.2⟩) h
  ·cases hB
theorem Jav{a:Act}(S:World->Prop)(t:EE)(hF:∀f,F.fn f)(hm:P.follows .mixedOrders=true)
  (hB:(GE l.toArray&&Region.noSelect l.toArray&&E3 .any l.toArray t (Array.replicate l.toArray.size false)&&t.len==l.toArray.size)=true) (hS:S w.drew)
  (h:GJ F n P l (λw'=>∃p:AA S,w'=p.w) (NoPanic Q) t a w.drew):(Code.region id l.toArray true).wpIn F n P Q a w:=by
 simp only[ζe,ζ1]at hB;obtain⟨⟨⟨Z,Y⟩,hB⟩,X⟩:=hB;refine wpIn_mono (wpIn_region_any hm ?_) NoPanic.imp;have hz:C7 .any l.toArray l.toArray.size=true:=by unfold C7;simp
 have:=PN (F:=F) (n:=n) (P:=P) (Q:=NoPanic Q) (S:=λw'=>∃p:AA S,w'=p.w) (md:=.any) hF Z Y (λc a b w h=>h) hz t _ a w.drew hB (B9.none .any l.toArray) (AA.of hS) h;rw[X]at this;exact PI _ _ _ _ this
theorem ZK{a:Act}(S:World->Prop)(t:EE)(hF:∀f,F.fn f)(hS:S w.drew)(h:GJ F n P l (λw'=>∃p:AA S,w'=p.w) (NoPanic Q) t a w.drew)(hm:P.follows .mixedOrders=true:=by kernel_rfl)(hB:(GE l.toArray&&Region.noSelect l.toArray&&E3 .any l.toArray t (Array.replicate l.toArray.size false)&&t.len==l.toArray.size)=true:=by kernel_rfl) :(Code.region id l.toArray true).wpIn F n P Q a w := Jav S t hF hm hB hS h
theorem YAC{a:Act}(h:wpQuiet P l.toArray S (λa'=>Q .normal a' w) (AF l qs) a):GJ F n P l S Q (.fin qs) a w:=h
theorem I2{t:EE}{a:Act}(h:wpQuiet P l.toArray S (λa'=>wpListIn F n P l.toArray (Exit.then (λa2 w2=>S w2/\GJ F n P l S Q t a2 w2) Q) (AF l [k]) a' w) (AF l qs) a):GJ F n P l S Q (.one qs k t) a w:=h
theorem QG{a:Act}(h:wpQuiet P l.toArray S (λa'=>wpListIn F n P l.toArray (Exit.then (λa2 w2=>S w2/\GJ F n P l S Q t1 a2 w2) Q) (AF l [k1]) a' w/\wpListIn F n P l.toArray (Exit.then (λa2 w2=>S w2/\GJ F n P l S Q t2 a2 w2) Q) (AF l [k2]) a' w) (AF l qs) a):GJ F n P l S Q (.two qs k1 t1 k2 t2) a w:=h
end
end
section
variable{l:List Oper}{S:World->Prop}
theorem Vy6{a:Act}(h:wpQuiet P l.toArray S (λa'=>Q .normal a' w) (AF l qs) a):F7 P l S Q (.fin qs) a w:=h
theorem NP{t:EE}{a:Act}(h:wpQuiet P l.toArray S (λa'=>wpList P l.toArray (Exit.then (λa2 w2=>S w2/\F7 P l S Q t a2 w2) Q) (AF l [k]) a' w) (AF l qs) a):F7 P l S Q (.one qs k t) a w:=h
theorem PT{a:Act}(h:wpQuiet P l.toArray S (λa'=>wpList P l.toArray (Exit.then (λa2 w2=>S w2/\F7 P l S Q t1 a2 w2) Q) (AF l [k1]) a' w/\wpList P l.toArray (Exit.then (λa2 w2=>S w2/\F7 P l S Q t2 a2 w2) Q) (AF l [k2]) a' w) (AF l qs) a):F7 P l S Q (.two qs k1 t1 k2 t2) a w:=h
end
theorem YV8(k:Nat)(hk:k<=10):2 ^ k<=1024:=Nat.pow_le_pow_right (by decide) hk
theorem QCZ{n:Int}(h:BM n=true):∃k:Nat,k<=10/\n=((2 ^ k:Nat):Int):=by
 simp[BM]at h;rcases h with rfl|rfl|rfl|rfl|rfl|rfl|rfl|rfl|rfl|rfl|rfl
 ·exact⟨0,by decide,rfl⟩
 ·exact⟨1,by decide,rfl⟩
 ·exact⟨2,by decide,rfl⟩
 ·exact⟨3,by decide,rfl⟩
 ·exact⟨4,by decide,rfl⟩
 ·exact⟨5,by decide,rfl⟩
 ·exact⟨6,by decide,rfl⟩
 ·exact⟨7,by decide,rfl⟩
 ·exact⟨8,by decide,rfl⟩
 ·exact⟨9,by decide,rfl⟩
 ·exact⟨10,by decide,rfl⟩
theorem XB7(hk:k<=63)(hx:x<18446744073709551616):x &&& (18446744073709551615-(2 ^ k-1))=x/2 ^ k*2 ^ k:=by
 have h2:2 ^ k<=2 ^ 63:=Nat.pow_le_pow_right (by decide) hk;have h3:0<2 ^ k:=Nat.two_pow_pos k
 have e:18446744073709551615-(2 ^ k-1)=(2 ^ (64-k)-1)*2 ^ k:=by
  rw[Nat.sub_mul,<-Nat.pow_add,show 64-k+k=64 by omega];omega
 rw[e];apply ξn;intro i;rw[Nat.testBit_and,Nat.testBit_mul_two_pow,Nat.testBit_mul_two_pow,Nat.testBit_div_two_pow,Nat.testBit_two_pow_sub_one];by_cases hi:k<=i
 ·rw[ξ hi,show i-k+k=i by omega];by_cases h64:i<64
  ·grind
  ·have:x.testBit i=false:=Nat.testBit_lt_two_pow (κ (show x<2 ^ 64 from hx) (Nat.pow_le_pow_right (by decide) Ω))
   simp_all
 grind
theorem ZgG(hk:k<=10)(hx:x<9223372036854775808):bits .andNot .i64 (x:Int) ((2 ^ k:Nat)-1:Int)=((x/2 ^ k*2 ^ k:Nat):Int):=by
 have hp:=YV8 k hk;have h3:0<2 ^ k:=Nat.two_pow_pos k
 have h1:(BitVec.ofInt 64 (x:Int)).toNat=x:=by
  grind
 have e:((2 ^ k:Nat)-1:Int)=((2 ^ k-1:Nat):Int):=Ω
 have h2:(BitVec.ofInt 64 ((2 ^ k:Nat)-1:Int)).toNat=2 ^ k-1:=by
  grind
 show IntKind.i64.wrap ((BitVec.ofInt 64 (x:Int) &&& ~~~ BitVec.ofInt 64 ((2 ^ k:Nat)-1:Int)).toNat:Int)=_
 rw[BitVec.toNat_and,BitVec.toNat_not,h1,h2];have:2 ^ 64-1-(2 ^ k-1)=18446744073709551615-(2 ^ k-1):=rfl;rw[this,XB7 Ω Ω];have hle:x/2 ^ k*2 ^ k<=x:=ζj x _;exact ζu _ Ω
theorem JRC(n:Nat)(hn:n<=1152921504606846976){u:Int}(hu:BM u=true)(w:World):
  cQ 221 #[iI n,iI u] w (.bool true):=by
 have hb:=DI hu;have HP:Hid (CR u=true):=⟨by grind [MJ]⟩;have d1:decide ((n:Int)<=1152921504606846976)=true:=ξ Ω;go_enter func221,ntmps221;go_wp2_with(go_at_call 115;refine(JO u Ω _).mono ?_;rintro e w1 ⟨rfl,rfl⟩;rw[HP.o]);go_ret
 simp_all
theorem Xnz(n B:Nat)(hn:n<=1152921504606846976)(hB:BM B=true)(w:World):
  cQ 197 #[iI n,iI B] w (iI ((n+B-1)/B*B:Nat)):=by
 have hb:=DI hB;obtain⟨k,hk,e⟩:=QCZ hB;have e':B=2 ^ k:=Int.ofNat.inj e
 have HE:Hid (bits .andNot .i64 ((n:Int)+(B:Int)-1) ((B:Int)-1)=(((n+B-1)/B*B:Nat):Int)):=⟨by
  grind [ZgG]⟩
 clear e e';go_enter func197,ntmps197;go_wp2_with(go_at_call 221;refine(JRC n hn hB _).mono ?_;rintro e w1 ⟨rfl,rfl⟩);go_ret;exact⟨AM HE.o,rfl⟩
structure Cf where
 fr:Nat
 tp:Nat
 to:Nat
 lm:Nat
 bk:Nat
 st:Nat
 ah:Nat
def cfV(c:Cf):Value:=.agg #[iI c.fr,iI c.tp,iI c.to,iI c.lm,iI c.bk,iI c.st,iI c.ah]
def upN(n B:Nat):Nat:=(n+B-1)/B*B
structure H6(pg n:Nat)(c:Cf):Prop where
 bk:BM c.bk=true
 st:1<=c.st/\c.st<=4096
 ah:c.ah<=16
 fr:pg<=c.fr
 tp:c.fr<=c.tp
 tn:c.tp<=n
 to:pg<=c.to
 lm:c.to<=c.lm
 ln:c.lm<=n
 af:c.fr%pg=0
 at_:c.to%pg=0
 al:c.lm%pg=0
 ap:¬(c.fr<upN c.tp pg/\c.to<c.lm/\c.fr<c.lm/\c.to<upN c.tp pg)
theorem VBT{cp:Nat}{lo md hi:Nat->Nat}(hb:b<w.heap.size)
  (hc:∀j,j<7->w.cell? ⟨b,j*3,none⟩=some (iI (lo j))/\w.cell? ⟨b,j*3+1,none⟩=some (iI (md j))/\w.cell? ⟨b,j*3+2,none⟩=some (iI (hi j)))
  (ho:∀j,j<7->lo j<=md j/\md j<=hi j):AY prog 196 #[.slice (some ⟨b,0,none⟩) 7 cp] w (.bool true):=by
 have HO:=ho;unfold AY;go_enter func196,ntmps196;go_wp2
 go_loopw [7] (λs7 wr=>∃j:Nat,j<=7/\Hid (Gr w wr)/\s7=iI j) (λs7 _=>7-(intOf s7).toNat)
 case atStart=>exact⟨0,by omega,⟨Gr.refl w⟩,rfl⟩
 case round=>
  obtain⟨j,hj,HG,rfl⟩:=hrel;by_cases X:j=7
  ·subst X;go_wp2;go_ret;exact⟨rfl,HG.o⟩
  ·obtain⟨k0,k1,k2⟩:=hc j Ω;obtain⟨o1,o2⟩:=HO j Ω;have c0:=(HG.o.cell hb _).trans k0;have c1:=(HG.o.cell hb _).trans k1;have c2:=(HG.o.cell hb _).trans k2;have hjI:(j:Int)<7:=Ω
   have d0:decide ((md j:Int)<(lo j:Int))=false:=ζ Ω;have d1:decide ((hi j:Int)<(md j:Int))=false:=ζ Ω;generalize lo j=x at *
   generalize md j=y at *
   generalize hi j=z at *
   go_wp2;go_round
   case rel=>exact⟨j+1,by omega,⟨HG.o.alloc _⟩,by go_num⟩
   case measure=>have:=X;simp[intOf];omega
theorem JcE{a b c d:Prop}(h:¬(a/\b/\c/\d)):¬a\/(a/\¬b)\/(a/\b/\¬c)\/(a/\b/\c/\¬d):=by
 grind
theorem QzK(hV:AC w S q v){c:Cf}(hc:H6 v.pl.pg v.n c):Calls prog 156 #[pP q,cfV c] w λe w'=>e=.returned (iI 0)/\Gr w w':=by
 have Xi:=hV.ok.page;have Xg:=hV.ok.n2;have Xf:=hV.ok.pl.pg;obtain⟨fr,tp,to,lm,bk,st,ah⟩:=c;obtain⟨h1,h2,h3,h4,h5,h6,h7,h8,h9,Z,J,U,V⟩:=hc;dsimp only at h1 h2 h3 h4 h5 h6 h7 h8 h9 Z J U V;have hbp:=DI h1
 have I:CR bk=true:=by
  grind [MJ]
 have Xb:=(λW=>JO (bk:Int) Ω W);rw[I]at Xb;have B:=(λ(W:World) (g:Gr w W)=>IY (hV.gr g));have Xe:=(λ(W:World) (g:Gr w W)=>I9 (hV.gr g));have A:=(λW=>Xnz tp v.pl.pg Ω Xf W);obtain⟨pg,N⟩:∃pg,pg=v.pl.pg:=⟨_,rfl⟩;obtain⟨n,Xa⟩:∃n,n=v.n:=⟨_,rfl⟩;rw[<-N]at B A Xi h4 h7 Z J U V;rw[<-Xa]at Xe Xg h6 h9
 have Xh:=(λ(W:World) (b:Nat) (cp:Nat) (R:Rec W b 177 [iI 1,iI bk,iI 1024,iI 1,iI st,iI 4096,iI 0,iI ah,iI 16,iI pg,iI fr,iI n,iI fr,iI tp,iI n,iI pg,iI to,iI n,iI to,iI lm,iI n])=>
  VBT (w:=W) (b:=b) (cp:=cp) (lo:=λj=>[1,1,0,pg,fr,pg,to].getD j 0) (md:=λj=>[bk,st,ah,fr,tp,to,lm].getD j 0) (hi:=λj=>[1024,4096,16,n,n,n,n].getD j 0) R.lt
   (λj hj=>by
    rcases(by omega:j=0\/j=1\/j=2\/j=3\/j=4\/j=5\/j=6)with rfl|rfl|rfl|rfl|rfl|rfl|rfl <;> exact⟨R.cell rfl,R.cell rfl,R.cell rfl⟩)
   (λj hj=>by
    rcases(by omega:j=0\/j=1\/j=2\/j=3\/j=4\/j=5\/j=6)with rfl|rfl|rfl|rfl|rfl|rfl|rfl <;> (refine⟨?_,?_⟩ <;> simp <;> omega)))
 have m1:((fr:Int)).tmod (pg:Int)=0:=by rw[<-Int.ofNat_tmod,Z];rfl
 have m2:((to:Int)).tmod (pg:Int)=0:=by rw[<-Int.ofNat_tmod,J];rfl
 have m3:((lm:Int)).tmod (pg:Int)=0:=by rw[<-Int.ofNat_tmod,U];rfl
 have R0:=Rec.new w 143 [iI fr,iI tp,iI to,iI lm,iI bk,iI st,iI ah];have Xd:=(JcE V)
 have Xk:upN tp pg<=1048576:=by
  unfold upN;have:=ζj (tp+pg-1) pg;omega
 obtain⟨up,Y⟩:∃up,up=upN tp pg:=⟨_,rfl⟩;rw[<-Y]at Xd Xk;rw[show (tp+pg-1)/pg*pg=up from Y.symm]at A;have b0:((pg:Int)==0)=false:=by simp;omega
 have b1:(pg:Int)≠0:=Ω
 unfold cfV;obtain⟨z0,z1,z2,z3,z4,z5,z6,zl⟩:=R0.k7;obtain⟨W1,E⟩:∃W1,W1=w.alloc (.cells #[.int .i64 fr,.int .i64 tp,.int .i64 to,.int .i64 lm,.int .i64 bk,.int .i64 st,.int .i64 ah] 143):=⟨_,rfl⟩;have G:Hid (Gr w W1):=⟨by rw[E];exact(Gr.refl w).alloc _⟩;clear N Xa Y hV V I Xf h1 Z J U;go_enter func156,ntmps156;go_upto_region 1 with(fail);rw[<-E]at z0 z1 z2 z3 z4 z5 z6 zl R0⊢;clear E
 go_upto_region 6 with(first
  | (go_at_call 138;refine(B _ G.o).mono ?_;rintro e w1 ⟨rfl,rfl⟩)
  | (go_at_call 47;refine(Xe _ G.o).mono ?_;rintro e w1 ⟨rfl,rfl⟩)
  | (go_at_call 115;refine(Xb _).mono ?_;rintro e w1 ⟨rfl,rfl⟩)
  | (go_at_call 196;refine(Xh _ _ _ (Rec.new _ _ _)).mono ?_;rintro e w2 ⟨rfl,Xj⟩;have Xc:=(((Gr.refl _).alloc _).trans Xj);have X:=(R0.gr Xc);have y0:=X.cc 0;have y1:=X.cc 1;have y2:=X.cc 2;have y3:=X.cc 3;have yl:=X.lt))
 go_quiet (fail);go_upto_region 9 with(go_at_call 197;refine(A _).mono ?_;rintro e w1 ⟨rfl,rfl⟩);have hG:=G.o.trans Xc;rcases Xd with h|⟨h,h'⟩|⟨h,h',D⟩|⟨h,h',D,h3⟩
 ·have e0:decide ((fr:Int)<(up:Int))=false:=ζ Ω;have f0:decide (fr<up)=false:=ζ h;go_wp2;go_ret;exact⟨rfl,hG.drewN _⟩
 ·have e0:decide ((fr:Int)<(up:Int))=true:=ξ Ω;have e1:decide ((to:Int)<(lm:Int))=false:=ζ Ω;have f0:decide (fr<up)=true:=ξ h;have f1:decide (to<lm)=false:=ζ h';go_wp2;go_ret;exact⟨rfl,hG.drewN _⟩
 ·have e0:decide ((fr:Int)<(up:Int))=true:=ξ Ω;have e1:decide ((to:Int)<(lm:Int))=true:=ξ Ω;have e2:decide ((fr:Int)<(lm:Int))=false:=ζ Ω;have f0:decide (fr<up)=true:=ξ h;have f1:decide (to<lm)=true:=ξ h';have f2:decide (fr<lm)=false:=ζ D;go_wp2;go_ret;exact⟨rfl,hG.drewN _⟩
 ·have e0:decide ((fr:Int)<(up:Int))=true:=ξ Ω;have e1:decide ((to:Int)<(lm:Int))=true:=ξ Ω;have e2:decide ((fr:Int)<(lm:Int))=true:=ξ Ω;have e3:decide ((to:Int)<(up:Int))=false:=ζ Ω;have f0:decide (fr<up)=true:=ξ h;have f1:decide (to<lm)=true:=ξ h';have f2:decide (fr<lm)=true:=ξ D;have f3:decide (to<up)=false:=ζ h3;go_wp2;go_ret;exact⟨rfl,hG.drewN _⟩
def FK(T:Nat->Prop)(w:World)(A:Option Addr)(l:List Int):Prop:=∀i (h:i<l.length),∃b o,A=some ⟨b,o,none⟩/\b<w.heap.size/\¬T b/\w.cell? ⟨b,o+i,none⟩=some (iI l[i])
theorem FK.touch(h:FK T w A l)(t:AB S w w')(hs:∀b,b<w.heap.size->S b->T b):FK T w' A l:=λi hi=>by
 obtain⟨b,o,e,hb,hT,hc⟩:=h i hi;exact⟨b,o,e,κ hb t.size,hT,(t.cell hb (λx=>hT (hs b hb x)) _).trans hc⟩
theorem FK.gr(h:FK T w A l)(t:Gr w w'):FK T w' A l:=h.touch (t.touch (λ_=>False)) (λ_ _ h=>h.elim)
theorem FK.mono{T':Nat->Prop}(h:FK T w A l)(hs:∀b,b<w.heap.size->T' b->T b):FK T' w A l:=λi hi=>by
 obtain⟨b,o,e,hb,hT,hc⟩:=h i hi
 grind
def zs(l:List Int):List Value:=l.map λx=>iI x
theorem LW(h:i<l.length):(zs l)[i]?=some (iI l[i]):=by simp[zs,h]
structure CA(w:World)(S:Nat->Prop)(s:Nat)(l:List Int)(R:Nat)(lost:Bool):Prop where
 ss:S s
 r1:1<=R/\R<=4096
 le:l.length<=R
 row:∃vl hi,Rec w s 200 [vl,iI R,iI hi,.bool lost]/\w.ownsRow 0 3 1 vl l.length (zs l)/\∀g,vl.ownBlock=some g->S g
theorem CA.touch{b:Bool}(h:CA w S s l R b)(t:AB T w w')(hS:∀k,S k->k<w.heap.size->¬T k):CA w' S s l R b:=by
 obtain⟨h1,h2,h3,vl,hi,hr,ho,hs⟩:=h;exact⟨h1,h2,h3,vl,hi,hr.touch t (hS _ h1 hr.lt),BV ho t (λg hg=>hS g (hs g hg) (BE ho hg).2),hs⟩
theorem CA.gr{b:Bool}(h:CA w S s l R b)(t:Gr w w'):CA w' S s l R b:=h.touch (t.touch (λ_=>False)) (λ_ _ _ h=>h)
theorem CA.mono{b:Bool}(h:CA w S s l R b)(hT:∀k,S k->T k):CA w T s l R b:=by
 obtain⟨h1,h2,h3,vl,hi,hr,ho,hs⟩:=h;exact⟨hT _ h1,h2,h3,vl,hi,hr,ho,λg hg=>hT g (hs g hg)⟩
theorem CA.cut{b:Bool}(h:CA w S s l R b):CA w (AD S w) s l R b:=by
 obtain⟨h1,h2,h3,vl,hi,hr,ho,hs⟩:=h;exact⟨⟨h1,hr.lt⟩,h2,h3,vl,hi,hr,ho,λg hg=>⟨hs g hg,(BE ho hg).2⟩⟩
section
variable{lost:Bool}
theorem JIb(h:CA w S s l R lost):cQ 209 #[pP s] w (iI (l.length:Nat)):=by
 obtain⟨h1,h2,h3,vl,hi,hr,ho,hs⟩:=h;obtain⟨A,c,rfl,hc1,hc2⟩:=DF ho;have c0:=hr.cc 0;go_enter func209,ntmps209;go_wp2;go_ret
 simp_all
theorem XPh(h:CA w S s l R lost):cQ 128 #[pP s] w (.bool lost):=by
 obtain⟨h1,h2,h3,vl,hi,hr,ho,hs⟩:=h;have c3:=hr.cc 3;go_enter func128,ntmps128;go_wp2;go_ret
 simp_all
theorem Qf8(h:CA w S s l R lost):Calls prog 129 #[pP s] w λe w'=>e=.returned (.tuple #[])/\AB S w w'/\CA w' S s l R false:=by
 obtain⟨h1,h2,h3,vl,hi,hr,ho,hs⟩:=h;have c3:=hr.cc 3;have f3:=hr.free 3;have HR:=hr;have HO:=ho;have HS:=hs;go_enter func129,ntmps129;go_wp2;refine ζt (ζk rfl _ _ _) rfl ?_;exact⟨rfl,(AB.refl S w).setCell (a:=⟨s,3,none⟩) (λ_=>h1) _,h1,h2,h3,vl,hi,Rec.set HR 3 _,AW HO _ (λg hg=>AO HO HR (by decide) hg rfl),HS⟩
def Xjk(w:World)(S:Nat->Prop)(s:Nat)(l:List Int)(R:Nat)(lost:Bool)(e:Ending)(w':World):Prop:=
 (l=[]/\e=.returned (.tuple #[iI 0,.bool false])/\w=w')\/(∃l' a,l=l'++[a]/\e=.returned (.tuple #[iI a,.bool true])/\AB S w w'/\CA w' S s l' R lost)
theorem ZtN(h:CA w S s l R lost):Calls prog 179 #[pP s] w (Xjk w S s l R lost):=by
 have HL:=(JIb h);obtain⟨h1,h2,h3,vl,hi,hr,ho,hs⟩:=h;rcases List.eq_nil_or_concat l with rfl|⟨l',a,rfl⟩
 ·go_enter func179,ntmps179;go_wp2_with(go_at_call 209;refine HL.mono ?_;rintro e w1 ⟨rfl,rfl⟩);go_ret2;exact .inl ⟨rfl,rfl,rfl⟩
 ·rw[List.concat_eq_append]at *
  have X:(l'++[a]).length=l'.length+1:=by simp
  rw[X]at HL ho h3;obtain⟨g,c,rfl,-,Z,J,-⟩:=ET ho Ω;unfold maxLen at J;have c0:=hr.cc 0;have f0:=hr.free 0;have kb:=BP ho (j:=l'.length) (u:=iI a) (by simp[zs]);have HR:=hr;have HO:=ho;have HS:=hs;obtain⟨N,hN⟩:∃N,N=l'.length:=⟨_,rfl⟩;rw[<-hN]at HL c0 kb h3 Z;have HN:=ι hN;clear hr ho hs X hN;go_enter func179,ntmps179;go_wp2_with(go_at_call 209;refine HL.mono ?_;rintro e w1 ⟨rfl,rfl⟩);go_ret2;refine .inr ⟨l',a,rfl,rfl,(AB.refl S w).setCell (a:=⟨s,0,none⟩) (λ_=>h1) _,h1,h2,by have:=HN.o;omega,.slice (some ⟨g,0,none⟩) N c,hi,Rec.set HR 0 _,?_,λg' hg=>HS g' hg⟩;have Y:=HO;rw[show zs (l'++[a])=zs l'++[iI a]by unfold zs;rw[ζ5];rfl]at Y;have hp:=YU Y;rw[HN.o];exact AW hp _ (λg' hg=>AO hp HR (by decide) hg rfl)
def Zxv(w:World)(R:Int)(e:Ending)(w':World):Prop:=
 ((R<1\/4096<R)/\e=.returned (.tuple #[.pointer none,iI 5])/\w=w') ∨
 (1<=R/\R<=4096/\e=.returned (.tuple #[pP w.heap.size,iI 0])/\Gr w w'/\CA w' (λk=>w.heap.size<=k) w.heap.size [] R.toNat false)
theorem VgV(R:Int)(w:World):Calls prog 85 #[iI R] w (Zxv w R):=by
 rcases(by omega:R<1\/(1<=R/\4096<R)\/(1<=R/\R<=4096))with h|h|h
 ·go_enter func85,ntmps85;go_wp2;go_ret2;exact .inl ⟨.inl h,rfl,rfl⟩
 ·go_enter func85,ntmps85;go_wp2;go_ret2;exact .inl ⟨.inr h.2,rfl,rfl⟩
 ·obtain⟨m,rfl⟩:∃m:Nat,R=m:=⟨R.toNat,by omega⟩;go_enter func85,ntmps85;go_wp2;go_ret2;refine .inr ⟨h.1,h.2,rfl,(Gr.refl w).alloc _,ϑ _,?_,ζc _,.slice none 0 0,0,?_,GR _ _ _ _,(λg hg=>by cases hg)⟩
  ·omega
  grind [Rec.new]
theorem PE:(prog.info? 3).map (λi=>(i.zero,i.size,i.bytes))=some (some (iI 0),1,8):=by kernel_rfl
def Jva(w:World)(S:Nat->Prop)(s:Nat)(l:List Int)(R:Nat)(lost:Bool)(a:Int)(e:Ending)(w':World):Prop:=
 (R<=l.length/\e=.returned (.bool false)/\AB S w w'/\CA w' (plus S w) s l R true)\/(l.length<R/\e=.returned (.bool true)/\AB S w w'/\CA w' (plus S w) s (l++[a]) R lost)
theorem Y4L(h:CA w S s l R lost)(a:Int):Calls prog 178 #[pP s,iI a] w (Jva w S s l R lost a):=by
 obtain⟨h1,h2,h3,vl,hi,hr,ho,hs⟩:=h;obtain⟨A,c,rfl,Xk,Xd⟩:=DF ho;unfold maxLen at Xd;have hmax:=NW prog;have c0:=hr.cc 0;have c1:=hr.cc 1;have c3:=hr.cc 3;have f3:=hr.free 3;have hsl:=hr.lt;have HR:=hr;have HO:=ho;have HS:=hs;obtain⟨N,hN⟩:∃N,N=l.length:=⟨_,rfl⟩;rw[<-hN]at c0 h3 Xk;have HN:=ι hN;have z0:∀m,(w.drewN m).cell? ⟨s,0,none⟩=some (.slice A N c):=λm=>c0;have z1:∀m,(w.drewN m).cell? ⟨s,1,none⟩=some (iI R):=λm=>c1;have z3:∀m,(w.drewN m).cell? ⟨s,3,none⟩=some (.bool lost):=λm=>c3;have zf:∀m,(w.drewN m).frozen? ⟨s,3,none⟩=false:=λm=>f3;clear hr ho hs hN;by_cases X:R<=N
 ·have d0:decide (R<=N)=true:=ξ X;go_enter func178,ntmps178;go_wp2;go_quiet (fail);go_wp2;go_ret;have hg:Gr w (w.drewN nq):=(Gr.refl w).drewN nq;refine .inl ⟨by rw[<-HN.o];exact X,rfl,(hg.touch S).setCell (a:=⟨s,3,none⟩) (λ_=>h1) _,.inl h1,h2,by rw[<-HN.o];exact h3,_,hi,Rec.set (HR.gr hg) 3 _,AW (CM HO hg) _ (λg hg'=>AO HO HR (by decide) hg' rfl),λg hg'=>.inl (HS g hg')⟩
 ·have d0:decide (R<=N)=false:=ζ X;obtain⟨ii,Xh,Xg,Xj,Xm⟩:=info_parts PE;go_enter func178,ntmps178;go_wp2;go_quiet (fail);have hg:Gr w (w.drewN nq):=(Gr.refl w).drewN nq;have HG:=hg;have D:=CM HO hg;rw[<-HN.o]at D;have Xb:=D;have B:=(HR.gr hg);clear hg D z0 z1 z3 zf;go_wp2_with(at_builtin;refine wpList_append_lies _ rfl _ _ 61 rfl 0 3 ii _ 1 8 underlying61 Xh Xg Xj Xm rfl (by decide) (.slice A N c) N (zs l) rfl (Xb.alloc _) ⟨(w.drewN nq).heap.size,0,none⟩ 1 1 [iI a] rfl rfl (ξs (cs:=#[iI a]) (t:=3) (fr:=(0,0)) (heap_alloc_new (w.drewN nq) (.cells #[.int .i64 a] 3))) (by simp[Value.oneCell']) Ω (by unfold maxLen;omega) Ω (ζc _) ((w.drewN nq).heap.size+1) (by simp) ?_;intro g2 c2 w2 J Y I E;have t2:AB (λk=>(Value.slice A N c).ownBlock=some k) (w.drewN nq) w2:=(((Gr.refl _).alloc _).touch _).trans (EC Y _ (λk e _=>e));have U:=(B.touch t2 (λe=>AO Xb B (by decide) e rfl rfl));have k0:=U.cc 0;have kf:=U.free 0;have Xl:=t2;have Xa:=J;have Xf:=(ψ I E);clear J Y I E t2);obtain⟨W3,Z⟩:∃W3,W3=w2.setCell ⟨s,0,none⟩ (.slice (some ⟨g2,0,none⟩) (N+1) c2):=⟨_,rfl⟩;rw[<-Z];have R3:Rec W3 s 200 [.slice (some ⟨g2,0,none⟩) (N+1) c2,iI R,iI hi,.bool lost]:=by rw[Z];exact Rec.set U 0 _
  have O3:=AW (q:=s) (j:=0) Xa (.slice (some ⟨g2,0,none⟩) (N+1) c2) (λg hg=>AO Xa U (by decide) hg rfl);rw[<-Z]at O3
  have T3:AB S w W3:=by
   rw[Z];exact((HG.touch S).trans (Xl.mono (λk _ hk=>HS k (by rw[<-HN.o];exact hk)))).setCell (a:=⟨s,0,none⟩) (λ_=>h1) _
  have y0:=R3.cc 0;have y2:=R3.cc 2;have yf:=R3.free 2;have Xi:=(ψ R3 (ψ O3 T3));have hsz:(w.drewN nq).heap.size=w.heap.size:=rfl;clear Z R3 O3 T3 k0 kf c0 c1 c3 f3;obtain⟨Sx,V⟩:∃Sx:World->Prop,Sx=λW'=>W'.cell? ⟨s,0,none⟩=some (.slice (some ⟨g2,0,none⟩) (N+1) c2)/\W'.cell? ⟨s,2,none⟩=some (iI hi):=⟨_,rfl⟩;have x0:∀p':AA Sx,p'.w.cell? ⟨s,0,none⟩=some (.slice (some ⟨g2,0,none⟩) (N+1) c2):=λp'=>(AA.get V p').1;have x2:∀p':AA Sx,p'.w.cell? ⟨s,2,none⟩=some (iI hi):=λp'=>(AA.get V p').2;have G:Sx W3.drew:=by rw[V];exact⟨y0,y2⟩
  clear V;have Xc:Inhabited (AA Sx):=⟨⟨_,G⟩⟩;refine AV Sx 13 [([0,1,2,3,4,5,6,7,8,9,10,11,12],13)] [] G ?_;refine AH ?_;go_wp2;refine⟨.inl trivial,?_⟩;refine EN ?_;refine ζb ?_;refine ζA ?_;clear x0 x2 G Xc;clear Sx;go_wp2;go_ret;obtain⟨R3,O3,T3⟩:=Xi;have Xe:=Xf;refine .inr ⟨by rw[<-HN.o];omega,rfl,(T3.setCell (a:=⟨s,2,none⟩) (λ_=>h1) _).drew,.inl h1,h2,by rw[ζo,<-HN.o];simp;omega,.slice (some ⟨g2,0,none⟩) (N+1) c2,max hi ((N:Int)+1),Rec.gr (Rec.set R3 2 _) (Gr.refl _).drew,?_,λg hg=>?_⟩
  ·rw[ζo,<-HN.o,show zs (l++[a])=zs l++[iI a]by unfold zs;rw[ζ5];rfl];exact CM (AW O3 _ (λg hg=>AO O3 R3 (by decide) hg rfl)) (Gr.refl _).drew
  ·cases hg;rcases Xe.1 with h|h
   ·exact .inl (HS _ (by rw[<-HN.o];exact h))
   ·right
    show w.heap.size<=g2
    omega
end
structure AS(w:World)(r g:Nat)(rs:List Int):Prop where
 rcd:Rec w r 139 [.slice (some ⟨g,0,none⟩) rs.length rs.length]
 row:w.ownsRow 0 3 1 (.slice (some ⟨g,0,none⟩) rs.length rs.length) rs.length (zs rs)
 ne:rs≠[]
 le:rs.length<=64
theorem YR5(l:List Int)(i:Nat)(a:Int):(zs l).set i (iI a)=zs (l.set i a):=by unfold zs;simp_all
theorem AS.touch(h:AS w r g rs)(t:AB S w w')(h1:¬S r)(h2:¬S g):AS w' r g rs:=
 ⟨h.rcd.touch t h1,BV h.row t (λg' hg=>by cases hg;exact h2),h.ne,h.le⟩
theorem AS.gr(h:AS w r g rs)(t:Gr w w'):AS w' r g rs:=⟨h.rcd.gr t,CM h.row t,h.ne,h.le⟩
theorem AS.lt(h:AS w r g rs):r<w.heap.size/\g<w.heap.size:=⟨h.rcd.lt,(BE h.row rfl).2⟩
theorem AS.dif(h:AS w r g rs):g≠r:=AO h.row h.rcd (by decide) rfl rfl
theorem AS.set(h:AS w r g rs)(i:Nat)(a:Int):AS (w.setCell ⟨g,i,none⟩ (.int .i64 a)) r g (rs.set i a):=by
 have hl:(rs.set i a).length=rs.length:=η;refine⟨?_,?_,λe=>h.ne ?_,by rw[hl];exact h.le⟩
 ·rw[hl];exact AW h.rcd _ (λg' hg e=>by cases hg;exact h.dif e.symm)
 ·rw[hl];have:=(World.ownsRow.stored h.row i (iI a)).1;rw[YR5]at this;exact this
 simp_all
theorem AS.cell(h:AS w r g rs)(hi:i<rs.length):w.cell? ⟨g,i,none⟩=some (iI rs[i]):=BP h.row (LW hi)
def slE(rs:List Int)(i:Int):Int:=if 0<=i/\i<rs.length then 0 else 17
theorem QW(h:AS w r g rs){i:Int}(hc:w.cell? ⟨b,0,none⟩=some (iI i)):cQ 100 #[pP r,.slice (some ⟨b,0,none⟩) 1 1] w (iI (slE rs i)):=by
 have c0:=h.rcd.cc 0;have X:=h.le;obtain⟨n,hn⟩:∃n,n=rs.length:=⟨_,rfl⟩;unfold slE;rw[<-hn]at c0 X⊢;rcases(by omega:i<0\/(0<=i/\(n:Int)<=i)\/(0<=i/\i<n))with h1|h1|h1
 ·have e0:(if 0<=i/\i<(n:Int)then (0:Int)else 17)=17:=φ Ω;rw[e0];go_enter func100,ntmps100;go_wp2
  go_loopw [11] (λs11 wr=>wr=w/\s11=iI 0) (λ_ _=>0)
  case atStart=>simp_all
  case round=>
   obtain⟨rfl,rfl⟩:=hrel;go_wp2;go_ret
   simp_all
 ·obtain⟨h1,h2⟩:=h1;have d0:decide (i<0)=false:=ζ Ω;have e0:(if 0<=i/\i<(n:Int)then (0:Int)else 17)=17:=φ Ω;rw[e0];go_enter func100,ntmps100;go_wp2
  go_loopw [11] (λs11 wr=>wr=w/\s11=iI 0) (λ_ _=>0)
  case atStart=>simp_all
  case round=>
   obtain⟨rfl,rfl⟩:=hrel;go_wp2;go_ret
   simp_all
 ·obtain⟨h1,h2⟩:=h1;have d0:decide (i<0)=false:=ζ Ω;have e0:(if 0<=i/\i<(n:Int)then (0:Int)else 17)=0:=θ ⟨h1,h2⟩;rw[e0];go_enter func100,ntmps100;go_wp2
  go_loopw [11] (λs11 wr=>∃j:Nat,j<=1/\wr=w/\s11=iI j) (λs11 _=>1-(intOf s11).toNat)
  case atStart=>grind
  case round=>
   obtain⟨j,hj,rfl,rfl⟩:=hrel;rcases(by omega:j=0\/j=1)with rfl|rfl
   ·go_wp2;go_round
    case rel=>exact⟨1,by omega,trivial,by go_num⟩
    case measure=>simp[intOf]
   ·go_wp2;go_ret
    simp_all
theorem WU(h:AS w r g rs):cQ 155 #[pP r] w (iI (rs.length:Nat)):=by
 have c0:=h.rcd.cc 0;go_enter func155,ntmps155;go_wp2;go_ret
 simp_all
theorem ZD(h:AS w r g rs)(hi:i<rs.length):Calls prog 66 #[pP r,iI i] w λe w'=>e=.returned (.tuple #[iI rs[i],iI 0])/\Gr w w':=by
 have HC:=(QW (h.gr ((Gr.refl w).alloc (.cells #[.int .i64 i] 3))) (b:=w.heap.size) (i:=i) ((Rec.new w 3 [iI i]).cell (j:=0) rfl));rw[show slE rs i=0 from θ ⟨by omega,by omega⟩]at HC;have h':=h.gr ((Gr.refl w).alloc (.cells #[.int .i64 i] 3));have c0:=h'.rcd.cc 0;have c1:=h'.cell hi;go_enter func66,ntmps66;go_wp2_with(go_at_call 100;refine HC.mono ?_;rintro e w1 ⟨rfl,rfl⟩);go_ret2;exact⟨rfl,(Gr.refl w).alloc _⟩
theorem VHr(h:AS w r g rs)(hi:i<rs.length)(ha:0<=a):Calls prog 55 #[pP r,iI i,iI a] w λe w'=>e=.returned (iI 0)/\AB (λk=>k=g) w w'/\AS w' r g (rs.set i a):=by
 have HC:=(QW (h.gr ((Gr.refl w).alloc (.cells #[.int .i64 i] 3))) (b:=w.heap.size) (i:=i) ((Rec.new w 3 [iI i]).cell (j:=0) rfl));rw[show slE rs i=0 from θ ⟨by omega,by omega⟩]at HC;have h':=h.gr ((Gr.refl w).alloc (.cells #[.int .i64 i] 3));have HR:=h';have c0:=h'.rcd.cc 0;have c1:=h'.cell hi;have cf:=FT h'.row i;have d0:decide (a<0)=false:=ζ Ω;go_enter func55,ntmps55;go_wp2_with(go_at_call 100;refine HC.mono ?_;rintro e w1 ⟨rfl,rfl⟩);go_ret;exact⟨rfl,AB.setCell (S:=λk=>k=g) (((Gr.refl w).alloc _).touch _) (a:=⟨g,i,none⟩) (λ_=>rfl) _,HR.set i a⟩
theorem YSY(n:Nat):(madeCells #[iI 0] n).toList=zs (List.replicate n 0):=by
 unfold madeCells zs;apply ξo
 ·simp
 grind
theorem ZW:(prog.info? 3).map (λi=>(i.zero,i.size,i.bytes))=some (some (iI 0),1,8):=by kernel_rfl
theorem YuH(h1:1<=n)(h2:n<=64)(w:World):Calls prog 39 #[iI n] w λe w'=>∃r g,e=.returned (.tuple #[pP r,iI 0])/\Gr w w'/\AS w' r g (List.replicate n 0)/\w.heap.size<=r/\w.heap.size<=g:=by
 obtain⟨i0,hi,U,J,hz2⟩:=info_parts ZW;have HB:Hid (i0.bytes*n<=281474976710656):=⟨by grind⟩;have HM:Hid (n<=maxLen):=⟨by unfold maxLen;omega⟩;have d0:decide ((n:Int)<1)=false:=ζ Ω;have d1:decide (64<(n:Int))=false:=ζ Ω;go_enter func39,ntmps39;go_wp2_with(at_make;refine wpList_make_full _ rfl _ _ 61 rfl w.heap.size 3 i0 (iI 0) 1 underlying61 hi U J .i64 .i64 _ _ n rfl rfl ?h1 ?h2 HB.o HM.o (ϑ _) ?h3)
 case h1=>omega
 case h2=>omega
 case h3=>
  intro w1 Y X;have Z:Gr w w1:=(J3 X (λ_=>False) (λk e _=>by cases e)).gr;have HO:=Y;have HG:=Z;go_wp2;go_ret2;have hl:(List.replicate n (0:Int)).length=n:=ζI;refine⟨w1.heap.size,w.heap.size,BL rfl rfl,HG.alloc _,⟨?_,?_,λe=>?_,by omega⟩,HG.size,ϑ _⟩
  ·grind [Rec.new]
  ·rw[hl];have:=CM (Q8 HO) ((Gr.refl w1).alloc (.cells #[.slice (some ⟨w.heap.size,0,none⟩) n n] 139))
   grind [YSY]
  grind
theorem Qgq{cap:Nat}(hn:n=l.length)(hn0:n≠0)(hb:b<w.heap.size)(hc:∀i (h:i<l.length),w.cell? ⟨b,i,none⟩=some (iI l[i]))(hl:n<=64):
  Calls prog 90 #[.slice (some ⟨b,0,none⟩) n cap] w λe w'=>∃g c,e=.returned (.slice (some ⟨g,0,none⟩) n c)/\Gr w w'/\w.heap.size<=g/\w'.ownsRow 0 3 1 (.slice (some ⟨g,0,none⟩) n c) n (zs l):=by
 obtain⟨i0,hi,G,D,E⟩:=info_parts ZW;have hsn:=Lib.run_eql_slice_nil (P:=prog) w 61 3 (some ⟨b,0,none⟩) n cap 0 0 underlying61
 have J:(w.alloc (.cells #[] 3)).ownsRow w.heap.size 3 1 (.slice (some ⟨w.heap.size,0,none⟩) 0 0) 0 []:=
  ⟨rfl,.inr ⟨w.heap.size,0,#[],rfl,ϑ _,heap_alloc_new w _,ϑ _,by unfold maxLen;omega,rfl,rfl⟩⟩
 have Y:∀(j:Nat) (u:Value),(zs l)[j]?=some u->(w.alloc (.cells #[] 3)).cell? (Addr.add ⟨b,0,none⟩ j)=some u:=λj u hj=>by
  have V:j<l.length:=by
   rcases δ j l.length with h|h
   ·exact h
   ·rw[ζJ (by simpa[zs]using h)]at hj;cases hj
  rw[LW V]at hj;cases hj;have e:Addr.add ⟨b,0,none⟩ j=⟨b,j,none⟩:=by unfold Addr.add;split <;> simp_all
  rw[e,ψu (h:=hb),hc j V]
 have N:∀u∈zs l,u.oneCell'=true:=λu hu=>by
  obtain⟨i,_,rfl⟩:=ξx.1 hu;rfl
 have HO:=J;have HC:=Y;have H1:=N;have HL:=ι (show n=(zs l).length by rw[hn];simp[zs]);have HN0:=hn0;clear J Y N hn0 hc hn;go_enter func90,ntmps90;go_wp2_with(at_builtin;(refine wpList_append_own _ rfl _ _ 61 rfl w.heap.size 3 i0 (iI 0) 1 8 underlying61 hi G D E rfl (by decide) _ _ _ rfl HO ⟨b,0,none⟩ n cap (zs l) rfl (by rw[<-HL.o];omega) HC H1 (by unfold maxLen;omega) Ω (by simp) ?_);intro v' w1 X U _;obtain⟨g,c,hv,I,hg2,hg3⟩:=YS7 X Ω;subst hv);go_ret;have Z:(w.alloc (.cells #[] 3)).grownBy w1 (some w.heap.size):=U;refine⟨g,c,by simp,?_,I,by simpa using Q8 X⟩;refine AB.gr ((((Gr.refl w).alloc _).touch _).trans' (J3 Z (λk=>k=w.heap.size) (λk e _=>by cases e;rfl)) ?_);rintro i hi rfl;omega
theorem SJ(h:AS w r g rs):Calls prog 49 #[pP r] w λe w'=>∃g c,e=.returned (.slice (some ⟨g,0,none⟩) rs.length c)/\Gr w w'/\w.heap.size<=g/\w'.ownsRow 0 3 1 (.slice (some ⟨g,0,none⟩) rs.length c) rs.length (zs rs):=by
 have c0:=h.rcd.cc 0;have V:=(Qgq (w:=w) (b:=g) (cap:=rs.length) rfl (λe=>h.ne (ζw e)) h.lt.2 (λi hi=>h.cell hi) h.le);go_enter func49,ntmps49;go_wp2_with(go_at_call 90;refine V.mono ?_;rintro e w1 ⟨g1,c1,rfl,X,J,ho⟩;have U:=X;have Y:=J;have Z:=ho);go_ret;exact⟨g1,c1,rfl,U,Y,Z⟩
def ZCk(g r:Nat)(rs:List Int)(i:Nat)(out:List Int)(J:Nat->World->List Int->Prop)(e:Ending)(W':World):Prop:=
 ∃b:Int,e=.returned (iI b)/\AS W' r g (out++rs.drop i)/\∀W'',AB (λk=>k=g) W' W''->J (i+1) W'' (out++[max b 0])
theorem V3M(hi:i<rs.length)(ho:out.length=i)(b:Int):(out++rs.drop i).set i b=(out++[b])++rs.drop (i+1):=by
 subst ho;rw[List.set_append_right _ _ (ϑ _),Nat.sub_self,ξu hi,ζq,ξr];rfl
theorem Vy9(hi:i<rs.length)(ho:out.length=i)(h:i<(out++rs.drop i).length):(out++rs.drop i)[i]=rs[i]:=by
 simp_all
theorem XP{pre:Array Value}(J:Nat->World->List Int->Prop)(hcf:∀args w,(callFunc F args).run prog w=.ok (.enter F args) w)
  (h:AS w r g rs) (h0:J 0 w [])
  (hz:∀i (hi:i<rs.length) W out,out.length=i->J i W out->rs[i]=0->J (i+1) W (out++[0]))
  (hF:∀i (hi:i<rs.length) W out,out.length=i->J i W out->AS W r g (out++rs.drop i)->rs[i]≠0->∀W0,Gr W W0->Calls prog F (pre++#[iI rs[i]]++caps) W0 (ZCk g r rs i out J)):
  Calls prog 135 #[pP r,.func (.func F) pre caps] w λe w'=>e=.returned (.tuple #[])/\∃out,out.length=rs.length/\J rs.length w' out/\AS w' r g out:=by
 have Xc:=h.le;obtain⟨n,hn⟩:∃n,n=rs.length:=⟨_,rfl⟩;have c0:=h.rcd.cc 0;have HN:=hn;have HR:=ι h;have Xd:=ι h0;have HZ:=hz;have HF:=hF;rw[<-hn]at c0 Xc⊢;go_enter func135,ntmps135;go_wp2
 go_loopw [13] (λs13 wr=>∃(i:Nat) (out:List Int),i<=n/\Hid (out.length=i)/\Hid (J i wr out)/\Hid (AS wr r g (out++rs.drop i))/\s13=iI i) (λs13 _=>n-(intOf s13).toNat)
 case atStart=>exact⟨0,[],by omega,⟨rfl⟩,Xd,HR,rfl⟩
 case round=>
  obtain⟨i,out,hi,HO,HJ,HT,rfl⟩:=hrel;by_cases Y:i=n
  ·subst Y;go_wp2;refine ζt (ζk rfl _ _ _) rfl ?_;refine⟨rfl,out,HO.o,HJ.o,?_⟩;have:=HT.o;rw[HN,List.drop_length,ξI]at this;exact this
  ·have G:i<rs.length:=by have:=HN;omega
   have X:(out++rs.drop i).length=n:=by have:=HO.o;have:=HN;simp;omega
   have hiI:(i:Int)<(n:Int):=Ω
   have c1:=HT.o.cell (i:=i) (by rw[X];omega);rw[Vy9 G HO.o]at c1;obtain⟨a,ha⟩:∃a,a=rs[i]:=⟨_,rfl⟩;have HA:=ι ha;have I:=G;have B:=X;have U:=Y;rw[<-ha]at c1;clear ha Y;by_cases D:a=0
   ·subst D;clear X;go_wp2;go_round
    case rel=>
     refine⟨i+1,out++[0],by have:=U;omega,⟨by have:=HO.o;simp[this]⟩,⟨HZ i I _ out HO.o HJ.o HA.o.symm⟩,⟨?_⟩,by go_num⟩;have:=HT.o;rw[ξu I,<-HA.o]at this;simpa using this
    case measure=>have:=U;simp[intOf];omega
   ·have d0:(a !=0)=true:=by simpa using D
    have Z:=(HF i I wr out HO.o HJ.o HT.o (by rw[<-HA.o];exact D) _ (Gr.refl wr).drew);rw[<-HA.o]at Z;unfold ZCk at Z;have y0:=HT.o.rcd.cc 0;rw[X]at y0;have hrl:=HT.o.lt;clear X;go_upto_region 5 with(fail);obtain⟨Sx,N⟩:∃Sx:World->Prop,Sx=λW'=>W'.cell? ⟨r,0,none⟩=some (.slice (some ⟨g,0,none⟩) n n):=⟨_,rfl⟩;have x0:∀p':AA Sx,p'.w.cell? ⟨r,0,none⟩=some (.slice (some ⟨g,0,none⟩) n n):=λp'=>AA.get N p';have E:Sx wr.drew:=by rw[N];exact y0
    have Xb:=ι N;clear N;have Xa:Inhabited (AA Sx):=⟨⟨_,E⟩⟩;have hmax:=NW prog;refine AV Sx 10 [([0,1,2,3,4,5,6],7),([8,9],10)] [] E ?_;refine AH ?_;go_wp2_with(refine Z.mono ?_;rintro e w3 ⟨b,rfl,V,A⟩;have Xe:=V;have Xf:=A;have z0:=V.rcd.cc 0;have z1:=V.cell (i:=i) (by rw[B];have:=U;omega);have zf:=FT V.row i;rw[B]at z0;clear V A);refine⟨.inr (AA.of (by rw[Xb.o];exact z0)),?_⟩;refine AH ?_;go_wp2;refine⟨.inl trivial,?_⟩;refine EN ?_;refine ζb ?_;refine ζA ?_;clear x0 E Xa;go_wp2;go_round
    case rel=>
     refine⟨i+1,out++[max b 0],by have:=U;omega,⟨by have:=HO.o;simp[this]⟩,⟨Xf _ ?_⟩,⟨?_⟩,by go_num⟩
     ·exact AB.setCell (S:=λk=>k=g) (AB.refl _ _) (a:=⟨g,i,none⟩) (λ_=>rfl) _
     ·have:=Xe.set i (max b 0);rw[V3M I HO.o]at this;exact this
    case measure=>have:=U;simp[intOf];omega
end Go.Proofs.YtggjoonlcjjgkaaGreatDoor
