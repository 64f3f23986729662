/- Part 5 of what Trees leans on: my own lemmas, merged by shake.py. -/
import Derived.Test.YtbdimhlaaoadgaaGreatDoorTreesD
import Derived.Maps.OwnSet
import Derived.Deep.LoopGhost
namespace Go.Proofs.YtbdimhlaaoadgaaGreatDoor
open _root_.Go.Proofs.Tryz
set_option maxHeartbeats 3200000
set_option maxRecDepth 100000
open Go.RowKit Word
variable{l':Array Bool}{lb:Array Value}{b lost lost':Bool}{Q:Exit->Act->World->Prop}{F:Fence}{a r vi:Int}{X:Int->Prop}{O l rs st':List Int}{qs:List Nat}{L:List Ob}{xs:List Value}{s:MkS}{K M R bA bH bT bW cp f g i id j k k1 k2 m n p q to x:Nat}{G S S2 SV SW T':Nat->Prop}{A:Option Addr}{P:Program}{md:Region.Mode}{α σ:Type}{e:TypeId}{u u' z:Value}{v v':Vm}{w w' w0:World}
section
variable{l:Lg}
theorem XeL(HE:v.ldE a=0)(hW:DS w S k (spV q) l)(hV:AD w S2 q v):Calls prog 186 #[pP k,iI a] w λe w'=>Gr w w'/\e=.returned (uU (v.ldV a:Nat)):=by
 have HL:=(λ(w':World) (g:Gr w w')=>JV (hV.gr g) a);obtain⟨vl,hr,-⟩:=hW.row;have c0:=hr.cc 0;unfold spV at c0;have n0:=Y3;have n1:=XN;have n2:=VB;clear hr hW hV;rw[HE]at HL;go_enter func186,ntmps186;go_wp2_with(go_at_call 216;refine(HL _ (Gr.refl w)).mono ?_;rintro e w1 ⟨rfl,Y⟩;have Z:=Y;clear Y);go_ret;exact⟨Z,rfl⟩
def VP7(w:World)(S S2:Nat->Prop)(k q:Nat)(v:Vm)(l:Lg)(a:Int)(x:Nat)(e:Ending)(w':World):Prop:=
 e=.returned (.tuple #[])/\AB (λi=>S i\/S2 i) w w'/\AD w' (AC S2 w) q (v.st a x)/\DS w' (plus S w) k (spV q) (l++[(a,v.ldV a)])
theorem UG(HE:v.ldE a=0)(hW:DS w S k (spV q) l)(hV:AD w S2 q v)(hd:∀i,S i->¬S2 i)(hl:l.length<1048576)(hx:x<18446744073709551616):
  Calls prog 139 #[pP k,iI a,uU x] w (VP7 w S S2 k q v l a x):=by
 have HW:=hW;have HV:=hV;have HX:=hx;have HD:=hd;obtain⟨vl,hr,ho,hs⟩:=hW.row;have c0:=hr.cc 0;unfold spV at c0;have n0:=Y3;have n1:=UO;have n2:=TL;obtain⟨A,c,rfl,Xo,Xl⟩:=C7 ho;unfold maxLen at Xl;have HR:=hr;have HO:=ho;have HS:=hs;obtain⟨N,hN⟩:∃N,N=l.length:=⟨_,rfl⟩;have HN:=ι hN;rw[<-hN]at hl Xo;obtain⟨ii,Xh,Xg,Xq,Xj⟩:=info_parts Qbw;have Xp:=hr.lt;have U:=hW.sk;clear hr hW hV ho hs hN hd;go_enter func139,ntmps139
 go_wp2_with(first
  | (go_at_call 186;refine(XeL HE HW HV).mono ?_;rintro e w1 ⟨Xa,rfl⟩;have k0:=(Xa.cell Xp 0).trans c0;have Z:=Xa;clear Xa)
  | (go_at_call 217;refine(MF (HV.cut.gr Z) a HX).mono ?_;rintro e w2 ⟨rfl,E,Xf⟩;rw[HE];have V:=((HR.gr Z).touch E (λh=>HD _ U h.1));have d1:=V.cc 1;have df:=V.free 1;have Xb:=(BX (CL HO Z) E (λg hg h=>HD _ (HS g hg) h.1));rw[<-HN.o]at d1 Xb;have Xc:=E;have Xn:=Xf;clear E Xf)
  | (at_builtin;refine wpList_append_lies _ rfl _ _ 267 rfl 0 276 ii _ 2 16 underlying267 Xh Xg Xq Xj rfl (by decide) (.slice A N c) N (lgV l) rfl (Xb.alloc _) ⟨w2.heap.size,0,none⟩ 1 1 [iI a,uU (v.ldV a:Nat)] rfl rfl (ξv (cs:=#[iI a,uU (v.ldV a:Nat)]) (t:=276) (fr:=(0,0)) (heap_alloc_new w2 (.cells #[.int .i64 a,.int .u64 (v.ldV a:Nat)] 276))) (by simp[Value.oneCell']) Ω (by unfold maxLen;omega) Ω (ζf _) (w2.heap.size+1) (by simp) ?_;intro g3 c3 w3 J Y B D;have t3:AB (λk=>(Value.slice A N c).ownBlock=some k) w2 w3:=(((Gr.refl _).alloc _).touch _).trans (DM Y _ (λk e _=>e));have I:=(V.touch t3 (λe=>AQ Xb V (by decide) e rfl rfl));have d3:=I.cc 1;have df3:=I.free 1;have Xe:=t3;have Xd:=J;have Xm:=(ψ B D);clear J Y B D t3))
 refine ζz (ζl rfl _ _ _) rfl ?_;have hsz1:=Z.size;have hsz2:=Xc.size;have Xi:=Xm;have hT:AB (λi=>S i\/S2 i) w w3:=((Z.touch _).trans (Xc.mono (λi _ hi=>.inr hi.1))).trans (Xe.mono (λi _ hi=>.inl (HS i (by rw[<-HN.o];exact hi))));have Xk:∀i,AC S2 w i->¬(Value.slice A N c).ownBlock=some i:=λi hi e=>HD i (HS i (by rw[<-HN.o];exact e)) hi.1;refine⟨rfl,hT.setCell (a:=⟨k,1,none⟩) (λ_=>.inl U) _,?_,.inl U,by rw[ζr,<-HN.o];simp;omega,λy hy=>(ζe.1 hy).elim (HW.lv y) (λh=>by simp at h;subst h;exact HV.ok.ldV_lt a),.slice (some ⟨g3,0,none⟩) (N+1) c3,Rec.set I 1 _,?_,λg hg=>?_⟩
 ·exact(Xn.touch Xe (λi hi _=>Xk i hi)).touch ((AB.refl (λi=>i=k) w3).setCell (a:=⟨k,1,none⟩) (λ_=>rfl) _) (λi hi _ e=>by subst e;exact HD i U hi.1)
 ·rw[ζr,<-HN.o,show lgV (l++[(a,v.ldV a)])=lgV l++[iI a,uU (v.ldV a:Nat)]by unfold lgV;rw[List.flatMap_append];rfl];exact AX Xd _ (λg hg=>AQ Xd I (by decide) hg rfl)
 ·cases hg;rcases Xi.1 with h|h
  ·exact .inl (HS _ (by rw[<-HN.o];exact h))
  ·right
   show w.heap.size<=g3
   omega
end
def QIk(q:Nat)(S2:Nat->Prop)(v:Vm)(a:Int)(x n:Nat)(w1:World):Prop:=AD w1 S2 q (mkV v a x n)
theorem YJ9{v:Vm}{a:Int}:∀{n m:Nat},mkE v a n=0->m<n->v.ldE (a+1+m)=0
 | 0,_,_,h=>absurd h (ζA _)
 | n+1,m,h,hm=>by
  have h0:mkE v a n=0:=ξD.1 λhn=>hn ((ZGy hn (Nat.le_succ n)).symm.trans h);rcases ζP.1 hm with h1|rfl
  ·exact YJ9 h0 h1
  ·exact(ξ (λe=>e h0)).symm.trans h
structure XvF(w wr:World)(S2:Nat->Prop)(k q:Nat)(v:Vm)(a:Int)(x m:Nat)(l:Lg):Prop where
 wk:DS wr (wkS w k) k (spV q) l
 vm:AD wr S2 q (mkV v a x m)
 ll:l.length=m+1
 t:AB (λi=>wkS w k i\/S2 i) w wr
section
variable{c:Nat}
theorem Jlw(hE:mkE v a (p+f+c)=0)(hs:p+f+c<=255)(hx:x<18446744073709551616)(hW:DS w (λi=>i=k) k (spV q) [])(hV:AD w S2 q v)(hS:∀i,S2 i->i<w.heap.size)(hk:¬S2 k)
  (cA:Rec w bA 3 [iI a]) (cW:Rec w bW 37 [uU x]) (cH:Rec w bH 64 [iI p,iI f,iI c]) (nA:¬S2 bA) (nH:¬S2 bH):
  Calls prog 138 #[pP k,pP bA,pP bW,pP bH] w
   (PU (λi=>wkS w k i\/S2 i) w (QIk q S2 v a x (p+f+c))):=by
 have kA:=cA.cc 0;have kW:=cW.cc 0;obtain⟨vl,hr,-⟩:=hW.row;have Xn:bA≠k:=AQ cA hr (by decide) rfl rfl;have Xr:bH≠k:=AQ cH hr (by decide) rfl rfl;have hkl:=hr.lt
 have hd:∀i,wkS w k i->¬S2 i:=λi hi h=>by
  rcases hi with rfl|hi
  ·exact hk h
  ·have:=hS i h;omega
 have Xq:DS w (wkS w k) k (spV q) []:=hW.mono (λi hi=>.inl hi);have HD:=hd;have HE:=Xln hE;have Xh:=(UG HE Xq hV hd (by simp) hx);have hN:CF ⟨p,f,c⟩=1+(p:Int)+f+c:=φ (EG hs);have U:=(λW=>LV ⟨p,f,c⟩ W);rw[hN]at U;unfold AM at U;have HV:=hV;have E:=cA;have Xa:=cH;have J:=(ψ nA (ψ nH (ψ Xn Xr)));have har:=K9 HE;have hn2:=HV.ok.n2;go_enter func138,ntmps138
 go_wp2_with(first
  | (go_at_call 139;refine Xh.mono ?_;rintro e w1 ⟨rfl,I,Xt,Xc⟩;have Z:=Xa.touch I (λh=>h.elim (λh=>h.elim J.2.2.2 (λh=>absurd Xa.lt (ξj h))) J.2.1);have j0:=Z.cc 0;have j1:=Z.cc 1;have j2:=Z.cc 2;have HH1:=Z;have Xk:=I;have Xb:=Xt;have Xp:=Xc)
  | (go_at_call 78;refine(U _).mono ?_;rintro e w2 ⟨rfl,Xf⟩;have V:=Xf))
 have Xg:Hid (XvF w w2 S2 k q v a x 0 [(a,v.ldV a)]):=⟨⟨(Xp.gr V).mono (λi hi=>hi.elim id .inr),(Xb.gr V).mono (λi hi=>hi.1),rfl,Xk.trans (V.touch _)⟩⟩
 go_loopw [13] (λi wr=>∃(m:Nat) (l:Lg),m<=p+f+c/\Hid (XvF w wr S2 k q v a x m l)/\i=iI m) (λi _=>p+f+c-(intOf i).toNat)
 case atStart=>exact⟨0,_,by omega,Xg,rfl⟩
 case round=>
  obtain⟨m,l,hm,HI,rfl⟩:=hrel;have Xs:=E.touch HI.o.t (λh=>h.elim (λh=>h.elim J.2.2.1 (λh=>absurd E.lt (ξj h))) J.1);have kA1:=Xs.cc 0;by_cases Y:m=p+f+c
  ·have d0:decide ((m:Int)<1+(p:Int)+f+c-1)=false:=ζ Ω;have HM:=Y;go_wp2;refine ζz (ζl rfl _ _ _) rfl ?_;refine⟨HI.o.t,rfl,?_⟩;rw[<-HM];exact HI.o.vm
  ·have d0:decide ((m:Int)<1+(p:Int)+f+c-1)=true:=θ Ω;have hll:=HI.o.ll;have h1:v.ldE (a+1+m)=0:=YJ9 hE Ω;have Xm:=QBF v a x m (a+1+m);have B:=(UG (Xm.trans h1) HI.o.wk HI.o.vm HD Ω (x:=0) Ω);have D:=Y;go_wp2_with(go_at_call 139;refine B.mono ?_;rintro e w3 ⟨rfl,Xd,Xl,Xe⟩;have Xo:=Xd;have Xi:=Xl;have Xj:=Xe);go_round
   case rel=>
    refine⟨m+1,l++[(a+1+m,(mkV v a x m).ldV (a+1+m))],by have:=D;omega,⟨Xj.mono (λi hi=>hi.elim id (λh=>.inr (β HI.o.t.size h))),Xi.mono (λi hi=>hi.1),by rw[ζr,HI.o.ll];rfl,HI.o.t.trans Xo⟩,by go_num⟩
   case measure=>have:=D;simp[intOf];omega
end
section
variable{c:Nat}
theorem V4k(hE:mkE v a (p+f+c)=0)(hV:AD w S q v)(hs:p+f+c<=255)(hx:x<18446744073709551616)
  (cA:Rec w bA 3 [iI a]) (cW:Rec w bW 37 [uU x]) (cH:Rec w bH 64 [iI p,iI f,iI c]) (nA:¬S bA) (nH:¬S bH):
  Calls prog 128 #[spV q,.func (.func 138) #[] #[pP bA,pP bW,pP bH]] w λe w'=>e=.returned (.agg #[iI 0,iI 0])/\AB S w w'/\AD w' S q (mkV v a x (p+f+c)):=by
 have I:(AN w (spV q)).heap.size=w.heap.size+2:=by unfold AN;rw[γ,γ]
 obtain⟨W0,Y⟩:∃W0,W0=EZ (AN w (spV q)) (w.heap.size+1):=⟨_,rfl⟩;have hsz0:W0.heap.size=w.heap.size+5:=by rw[Y];unfold EZ;rw[γ,γ,γ,I]
 have g1:Gr w (AN w (spV q)):=((Gr.refl w).alloc _).alloc _;have g2:Gr (AN w (spV q)) W0:=by rw[Y];exact(((Gr.refl _).alloc _).alloc _).alloc _
 have g:Gr w W0:=g1.trans g2;have J:∀i,AC S w i->i<w.heap.size:=λi hi=>hi.2;have Z:=Jlw hE (S2:=AC S w) hs hx ((Q7 w (spV q)).gr g2) (hV.cut.gr g) (λi hi=>by have:=J i hi;omega) (λh=>by have:=J _ h;omega) (cA.gr g) (cW.gr g) (cH.gr g) (λh=>nA h.1) (λh=>nH h.1)
 have V:=X5 (w:=w) (sp:=spV q) (F:=138) (caps:=#[pP bA,pP bW,pP bH]) ⟨_,_,rfl⟩ (Sx:=λi=>wkS W0 (w.heap.size+1) i\/AC S w i)
  (G:=QIk q (AC S w) v a x (p+f+c)) Xnm (by rw[<-Y];exact Z)
  (λi h1 h2 h3 h=>by
   rcases h with(h|h)|h
   ·omega
   ·omega
   ·have:=h.2;omega)
 refine V.mono ?_;rintro e w' ⟨w1,U,E,rfl,hT⟩;rw[<-Y]at U
 have T1:AB (λi=>w.heap.size<=i\/S i) w w1:=(g.touch _).trans' U (λi hi h=>by
  rcases h with(h|h)|h
  ·left;omega
  ·left;omega
  ·exact .inr h.1)
 exact⟨rfl,(T1.trans (hT.mono (λi _ h=>.inl h))).mono (λi hi h=>h.resolve_left Ω),(E.touch hT (λi hi _ h=>by have:=hi.2;omega)).mono (λi hi=>hi.1)⟩
theorem Vg0(hV:AD w S q v)(h0:0<a)(hs:p+f+c<=255)(hE:mkE v a (p+f+c)=0):Calls prog 79 #[spV q,iI a,AM ⟨p,f,c⟩] w λe w'=>e=.returned (iI 0)/\AB S w w'/\AD w' (plus S w) q (mkV v a (CY p f c) (p+f+c)):=by
 have hmf:∀(fn:Fn) (first cap:Array Value) (w:World),(Instr.makeFunc fn first cap).run prog w=.ok (.func fn first cap) w:=λ_ _ _ _=>rfl;have d0:decide (a<=0)=false:=ζ Ω;have HP:=(λW=>Jii hs W)
 have Z:=(λ(W:World) (g:Gr w W) (bW:Nat) (cA:Rec W w.heap.size 3 [iI a]) (cW:Rec W bW 37 [uU (CY p f c:Nat)]) (cH:Rec W (w.heap.size+1) 64 [iI p,iI f,iI c])=>
  V4k hE (hV.cut.gr g) hs (YB hs) cA cW cH (λh=>absurd h.2 (ζL _)) (λh=>by have:=h.2;omega))
 unfold AM at HP;unfold spV AM;unfold spV at Z;have hfl:=X1o;go_enter func79,ntmps79
 go_wp2_with(first
  | (go_at_call 137;refine(HP _).mono ?_;rintro e w1 ⟨rfl,U⟩;have Y:=U)
  | (go_at_call 128;have cA:=(((Rec.new w 3 [iI a]).gr ((Gr.refl _).alloc _)).gr Y).gr ((Gr.refl w1).alloc (.cells #[.int .u64 (CY p f c:Nat)] 37));have cH:=((Rec.new (w.alloc (.cells #[.int .i64 a] 3)) 64 [iI p,iI f,iI c]).gr Y).gr ((Gr.refl w1).alloc (.cells #[.int .u64 (CY p f c:Nat)] 37));rw[γ]at cH;have cW:=Rec.new w1 37 [uU (CY p f c:Nat)];refine(Z _ (((((Gr.refl w).alloc _).alloc _).trans Y).alloc _) _ cA cW cH).mono ?_;rintro e w2 ⟨rfl,V,E⟩;have J:=V;have I:=E))
 go_ret;refine⟨rfl,((((((Gr.refl w).alloc _).alloc _).trans Y).alloc _).touch S).trans (J.mono (λi _ hi=>hi.1)),?_⟩;exact I.mono (λi hi=>.inl hi.1)
theorem Xr0(hV:AD w S q v)(h0:0<a)(hs:p+f+c<=255)(hm:GY v a ⟨p,f,c⟩=0):Calls prog 79 #[spV q,iI a,AM ⟨p,f,c⟩] w λe w'=>e=.returned (iI 0)/\AB S w w'/\AD w' (plus S w) q (mkVm v a ⟨p,f,c⟩):=by
 have hR:GY v a ⟨p,f,c⟩=mkE v a (p+f+c):=by
  unfold GY;rw[ξ Ω,ξ (λh=>h (EG hs))];congr 1
 have hM:mkVm v a ⟨p,f,c⟩=mkV v a (CY p f c) (p+f+c):=by
  unfold mkVm;rw[φ hm];congr 1
 rw[hM];exact Vg0 hV h0 hs (hR.symm.trans hm)
end
theorem Xq3{c:Nat}{t:Int}(hs:p+f+c<=255)(hn:n=1+p+f+c)(hW:DS w (λi=>i=k) k (spV q) [])(hV:AD w S2 q v)(hS:∀i,S2 i->i<w.heap.size)(hk:¬S2 k)
  (cA:Rec w bA 3 [iI a]) (cT:Rec w bT 3 [iI t]) (cH:Rec w bH 64 [iI p,iI f,iI c]) (nA:¬S2 bA) (nT:¬S2 bT)
  (hl:∀m:Nat,m<n->v.ldE (a+m)=0) (ht:∀m:Nat,m<n->v.ldE (t+m)=0):
  Calls prog 246 #[pP k,pP bH,pP bA,pP bT] w
   (PU (λi=>wkS w k i\/S2 i) w (cpG q S2 v a t n)):=by
 have kA:=cA.cc 0;have kT:=cT.cc 0;obtain⟨j0,j1,j2,hHl⟩:=cH.k3;have hAl:=cA.lt;obtain⟨vl,hr,-⟩:=hW.row;have Yd:bA≠k:=AQ cA hr (by decide) rfl rfl;have Xu:bT≠k:=AQ cT hr (by decide) rfl rfl;have hkl:=hr.lt;have hN:CF ⟨p,f,c⟩=(n:Int):=by rw[show CF ⟨p,f,c⟩=1+(p:Int)+f+c from φ (EG hs)];omega
 have B:=(λW=>LV ⟨p,f,c⟩ W);rw[hN]at B;unfold AM at B;have HW:=hW;have HV:=hV;have Ya:=cA;have Xd:=cT;have Xb:=(ψ nA (ψ nT (ψ Yd (ψ Xu hk))));have HL:=hl;have Xw:=ht;have HS:=hS;obtain⟨i0,hi,Yc,Xv,Xr⟩:=info_parts PR;have hn256:n<=256:=Ω
 have hn1:1<=n:=Ω
 have hn2:=hV.ok.n2;have har:=K9 (hl 0 Ω);have har2:=K9 (hl (n-1) Ω);have htr:=K9 (ht 0 Ω);have htr2:=K9 (ht (n-1) Ω);have HB:Hid (i0.bytes*n<=281474976710656):=⟨by rw[Xr];omega⟩;have HM:Hid (n<=maxLen):=⟨by unfold maxLen;omega⟩;clear hr hW hV hS hk nA nT hN cA cT cH hl ht hs hn;go_enter func246,ntmps246
 go_wp2_with(first
  | (go_at_call 78;refine(B _).mono ?_;rintro e w1 ⟨rfl,Xn⟩;have Xp:=Xn;clear Xn)
  | (at_make;refine wpList_make_full _ rfl _ _ 25 rfl w1.heap.size 37 i0 (uU 0) 1 underlying25 hi Yc Xv .i64 .i64 _ _ n rfl rfl ?h1 ?h2 HB.o HM.o (ϑ _) ?h3))
 case h1=>omega
 case h2=>omega
 case h3=>
  intro w2 E V;have Xi:Gr w1 w2:=(KD V (λ_=>False) (λk e _=>by cases e)).gr;have HO:Hid (w2.ownsRow 0 37 1 (.slice (some ⟨w1.heap.size,0,none⟩) n n) n (CO (cwL v a n 0))):=⟨by rw[YkC,<-YJ3];exact RZ E⟩;have Ye:=ι (Xp.trans Xi);obtain⟨g,hg⟩:∃g,g=w1.heap.size:=⟨_,rfl⟩;have Xo:w.heap.size<=g:=by rw[hg];exact Xp.size
  have Yb:Hid (g≠k):=⟨by omega⟩;rw[<-hg]at HO⊢;clear E V Xi hg j0 j1 j2;go_wp2
  go_loopw [14] (λs14 wr=>∃m:Nat,m<=n/\Hid (Gr w wr)/\Hid (wr.ownsRow 0 37 1 (.slice (some ⟨g,0,none⟩) n n) n (CO (cwL v a n m)))/\s14=iI m) (λs14 _=>n-(intOf s14).toNat)
  case atStart=>exact⟨0,by omega,Ye,HO,rfl⟩
  case round=>
   obtain⟨m,hm,Z,U,rfl⟩:=hrel;clear HO kA kT;by_cases Y:m=n
   ·subst Y;go_wp2;obtain⟨wg,Xj⟩:∃wg,wg=wr:=⟨_,rfl⟩;rw[<-Xj]at Z U⊢;clear Xj;have Xc:=ι (ψ Xo (BE U.o rfl).2);have Xk:Hid (YU w wg wg S2 k q g v a t m 0 []):=⟨⟨(HW.gr Z.o).mono (λi hi=>.inl hi),HV.gr Z.o,rfl,U.o,Z.o.touch _,ϑ _,Yb.o⟩⟩;have hcz:=Z.o.size;clear hm
    go_loopw [28] (λs28 wr=>∃(j:Nat) (l:Lg),j<=m/\Hid (YU w wg wr S2 k q g v a t m j l)/\s28=iI j) (λs28 _=>m-(intOf s28).toNat)
    case atStart=>exact⟨0,_,by omega,Xk,rfl⟩
    case round=>
     obtain⟨j,l,hj,HI,rfl⟩:=hrel;clear Xk;by_cases Y:j=m
     ·subst Y;go_wp2;refine ζz (ζl rfl _ _ _) rfl ?_;exact⟨HI.o.t,rfl,HI.o.vm⟩
     ·have Xs:(j:Int)<(m:Int):=Ω
      have kT:=(Xd.touch HI.o.t (λh=>h.elim (λh=>h.elim Xb.2.2.2.1 (λh=>absurd Xd.lt (ξj h))) Xb.2.1)).cell (j:=0) rfl;have kc:=BS HI.o.row (NT v a (m:=m) (show j<m by omega));rw[φ Ω]at kc
      have HD:Hid (∀i,wkS wg k i->¬S2 i):=⟨λi hi h=>by
       rcases hi with rfl|hi
       ·exact Xb.2.2.2.2 h
       ·have:=HS i h;omega⟩
      have Xl:=HV.ok.ldV_lt (a+j);obtain⟨y,hy⟩:∃y,y=v.ldV (a+j):=⟨_,rfl⟩;rw[<-hy]at kc Xl;have HY:=ι hy;have Xt:=HI.o.ll;have HE:Hid ((cpV v a t j).ldE (t+j)=0):=⟨by rw[(V9 v a t j).ldE];exact Xw j Ω⟩;have Xx:=ι (UG HE.o HI.o.wk HI.o.vm HD.o Ω Xl);have J:=ι Y;clear Y hy Xt;go_wp2_with(go_at_call 139;refine Xx.o.mono ?_;rintro e w3 ⟨rfl,Xf,Xm,Xg⟩;have Xa:=ι Xf;have Xy:=ι Xm;have Xz:=ι Xg;clear Xf Xm Xg);go_round
      case rel=>
       have hz:=HI.o.t.size;have Xe:wg.heap.size<=wr.heap.size:=HI.o.wz;refine⟨j+1,l++[(t+j,(cpV v a t j).ldV (t+j))],by have:=J.o;omega,⟨⟨Xz.o.mono (λi hi=>hi.elim id (λh=>.inr (β Xe h))),?_,by rw[ζr,HI.o.ll];rfl,BX HI.o.row Xa.o (λg' hg' h=>?_),HI.o.t.trans (Xa.o.mono (λi hi h=>?_)),β Xe Xa.o.size,HI.o.gk⟩⟩,by go_num⟩
       ·have:=Xy.o.mono (T:=S2) (λi hi=>hi.1);rw[HY.o]at this;exact this
       ·cases hg';rcases h with(h|h)|h
        ·exact HI.o.gk h
        ·have h:wg.heap.size<=g:=h;have:=Xc.o.2;omega
        ·have:g<w.heap.size:=HS _ h;have:=Xc.o.1;omega
       ·rcases h with(h|h)|h
        ·exact .inl (.inl h)
        ·exact .inl (.inr Ω)
        ·exact .inr h
      case measure=>have:=J.o;simp[intOf];omega
   ·have Xs:(m:Int)<(n:Int):=Ω
    have kA:=(Ya.gr Z.o).cell (j:=0) rfl;have hE:=HL m Ω;have Xh:=ι (XeL hE (HW.gr Z.o) (HV.gr Z.o));have J:=ι Y;obtain⟨y,hy⟩:∃y,y=v.ldV (a+m):=⟨_,rfl⟩;have HY:=ι hy;rw[<-hy]at Xh;have kc:=BS U.o (NT v a (m:=m) (show m<n by omega));have kf:=FF U.o m;clear Y hE hy;go_wp2_with(go_at_call 186;refine Xh.o.mono ?_;rintro e w3 ⟨D,rfl⟩;have I:=ι (CL U.o D);have kc3:=BS I.o (NT v a (m:=m) (show m<n by have:=J.o;omega));have kf3:=FF I.o m;have hgl3:=(BE I.o rfl).2;have Xq:=ι (Z.o.trans D);clear D);go_round
    case rel=>
     refine⟨m+1,by have:=J.o;omega,⟨?_⟩,⟨?_⟩,by go_num⟩
     ·refine((Xq.o.touch (λi=>w.heap.size<=i)).setCell (a:=⟨g,m,none⟩) (λ_=>Xo) _ |>.mono (T:=λ_=>False) (λi hi h=>by omega)).gr
     ·have:=(World.ownsRow.stored I.o m (uU (y:Nat))).1;rw[HY.o,Z0I]at this;rw[HY.o];exact this
    case measure=>have:=J.o;simp[intOf];omega
theorem XXq(hV:AD w S q v){c:Nat}{t:Int}(hs:p+f+c<=255)(hn:n=1+p+f+c)
  (cA:Rec w bA 3 [iI a]) (cT:Rec w bT 3 [iI t]) (cH:Rec w bH 64 [iI p,iI f,iI c]) (nA:¬S bA) (nT:¬S bT)
  (hl:∀m:Nat,m<n->v.ldE (a+m)=0) (ht:∀m:Nat,m<n->v.ldE (t+m)=0):
  Calls prog 128 #[spV q,.func (.func 246) #[] #[pP bH,pP bA,pP bT]] w λe w'=>
   e=.returned (.agg #[iI 0,iI 0])/\AB S w w'/\AD w' S q (cpV v a t n):=by
 have hsz:(AN w (spV q)).heap.size=w.heap.size+2:=by unfold AN;simp_all
 obtain⟨W0,Y⟩:∃W0,W0=EZ (AN w (spV q)) (w.heap.size+1):=⟨_,rfl⟩;have hsz0:W0.heap.size=w.heap.size+5:=by rw[Y];unfold EZ;simp_all
 have g1:Gr w (AN w (spV q)):=((Gr.refl w).alloc _).alloc _;have g2:Gr (AN w (spV q)) W0:=by rw[Y];exact(((Gr.refl _).alloc _).alloc _).alloc _
 have g:Gr w W0:=g1.trans g2;have hS2:∀i,AC S w i->i<w.heap.size:=λi hi=>hi.2;have hbody:=Xq3 (S2:=AC S w) hs hn ((Q7 w (spV q)).gr g2) (hV.cut.gr g) (λi hi=>by grind) (λh=>by grind) (cA.gr g) (cT.gr g) (cH.gr g) (λh=>nA h.1) (λh=>nT h.1) hl ht
 have J:=X5 (w:=w) (sp:=spV q) (F:=246) (caps:=#[pP bH,pP bA,pP bT]) ⟨_,_,rfl⟩ (Sx:=λi=>wkS W0 (w.heap.size+1) i\/AC S w i)
  (G:=cpG q (AC S w) v a t n) Z5j (by simp_all)
  (λi h1 h2 h3 h=>by
   rcases h with(h|h)|h
   ·omega
   ·omega
   ·have:=h.2;omega)
 refine J.mono ?_;rintro e w' ⟨w1,Z,U,rfl,hT⟩;rw[<-Y]at Z
 have T1:AB (λi=>w.heap.size<=i\/S i) w w1:=(g.touch _).trans' Z (λi hi h=>by
  rcases h with(h|h)|h
  ·left;omega
  ·left;omega
  ·exact .inr h.1)
 exact⟨rfl,(T1.trans (hT.mono (λi _ h=>.inl h))).mono (λi hi h=>h.resolve_left Ω),(U.touch hT (λi hi _ h=>by have:=hi.2;omega)).mono (λi hi=>hi.1)⟩
theorem QmA(hV:AD w S q v){t:Int}(hr:v.rdE a=0)(hn:(n:Int)=v.osz a)(h0:0<t)(hl:∀m:Nat,m<n->v.ldE (a+m)=0)(ht:∀m:Nat,m<n->v.ldE (t+m)=0):
  Calls prog 205 #[spV q,iI a,iI t] w λe w'=>e=.returned (iI 0)/\AB S w w'/\AD w' (plus S w) q (cpV v a t n):=by
 have d0:decide (t<=0)=false:=ζ Ω;obtain⟨-,-,p,f,c,hh,hs⟩:=F3 hr
 have B:n=1+p+f+c:=by
  unfold Vm.osz at hn;rw[hh,show CF ⟨p,f,c⟩=1+(p:Int)+f+c from φ (EG hs)]at hn;omega
 have U:=(λ(w':World) (g:Gr w w')=>PS (hV.gr g) a)
 have Z:=(λ(W:World) (g:Gr w W) (bH:Nat) (cA:Rec W w.heap.size 3 [iI a]) (cT:Rec W (w.heap.size+1) 3 [iI t]) (cH:Rec W bH 64 [iI p,iI f,iI c])=>
  XXq (hV.cut.gr g) hs B cA cT cH (λh=>absurd h.2 (ζL _)) (λh=>by have:=h.2;omega) hl ht)
 have hfl:=X1o;unfold AM at U;go_enter func205,ntmps205
 go_wp2_with(first
  | (go_at_call 93;refine(U _ (((Gr.refl w).alloc _).alloc _)).mono ?_;rintro e w1 ⟨rfl,J⟩;have rt:=(Rec.new (w.alloc (.cells #[.int .i64 a] 3)) 3 [iI t]).gr J;rw[γ]at rt;have kt:=rt.cc 0;have ktl:=rt.lt;have Y:=J)
  | (go_at_call 128;have cA:=(((Rec.new w 3 [iI a]).gr ((Gr.refl _).alloc _)).gr Y).gr ((Gr.refl w1).alloc (.cells #[.int .i64 p,.int .i64 f,.int .i64 c] 64));have cT:=((Rec.new (w.alloc (.cells #[.int .i64 a] 3)) 3 [iI t]).gr Y).gr ((Gr.refl w1).alloc (.cells #[.int .i64 p,.int .i64 f,.int .i64 c] 64));rw[γ]at cT;have cH:=Rec.new w1 64 [iI p,iI f,iI c];refine(Z _ (((((Gr.refl w).alloc _).alloc _).trans Y).alloc _) _ cA cT cH).mono ?_;rintro e w2 ⟨rfl,I,D⟩;have V:=I;have E:=D))
 go_ret;refine⟨rfl,((((((Gr.refl w).alloc _).alloc _).trans Y).alloc _).touch S).trans (V.mono (λi _ hi=>hi.1)),?_⟩;exact E.mono (λi hi=>.inl hi.1)
def IM(v:Value):Option (DataW Value×List MemPlace):=some (.held v,[])
def BH(P:Program)(K:TypeId)(w:World)(b n:Nat)(f:Int->Option Value):Prop:=
 ∃D:DataW Value,w.ownsMap P K IM b n D/\∀x:Int,(Lit.int .i64 x).wf=true->Maps.has D (.int .i64 x)=(f x).isSome/\∀v,f x=some v->∀z,D.atKey (.int .i64 x) z=.held v
section
variable{K:TypeId}{b:Nat}{f:Int->Option Value}
theorem BH.made(w:World):BH P K (w.alloc (.map #[] 0)) w.heap.size 0 (λ_=>none):=
 ⟨.map [],World.ownsMap_made _ _ _ _,λ_ _=>⟨rfl,λ_ h=>by cases h⟩⟩
theorem BH.lt(h:BH P K w b n f):b<w.heap.size:=by obtain⟨D,h,-⟩:=h;exact h.lt
theorem BH.touch(h:BH P K w b n f)(t:AB S w w')(hS:¬S b):BH P K w' b n f:=by
 obtain⟨D,h,hf⟩:=h;have Z:=h.lt;obtain⟨es,Y,hb,r⟩:=h;exact⟨D,⟨es,Y,(t.block b Z hS).trans hb,r⟩,hf⟩
theorem BH.gr(h:BH P K w b n f)(t:Gr w w'):BH P K w' b n f:=h.touch (t.touch (λ_=>False)) (λh=>h)
theorem BH.congr(h:BH P K w b n f){g:Int->Option Value}(hg:∀x,f x=g x):BH P K w b n g:=by
 have:f=g:=funext hg
 simp_all
theorem BH.ne{T:Nat}(h:BH P K w b n f)(hq:∃cs fr,w.heap[q]?=some (.cells cs T fr)):b≠q:=by
 rintro rfl;obtain⟨D,⟨es,clock,hb,-⟩,-⟩:=h
 simp_all
theorem BH.look_ok(h:BH P K w b n f)(KI:Maps.Keyed P K){t:TypeId}(ht:P.underlying t=some (.map K e))(hk:P.underlying K=some (.int .i64))(hz:(zeroValue e).run P w=.ok z w){x:Int}(hx:(Lit.int .i64 x).wf=true):
  (Instr.lookup t (.map (some b)) (.int .i64 x) true).run P w=.ok (.tuple #[(f x).getD z,.bool (f x).isSome]) w:=by
 obtain⟨D,hD,hf⟩:=h;obtain⟨v,ps,hr,hv⟩:=hD.look_ok KI ht hz (zd:=.held z) (zp:=[]) rfl (Maps.keyOf_int_mk hk hx);obtain⟨h1,h2⟩:=hf x hx;rw[hr,h1];unfold IM at hv;simp only[Option.some.injEq,Prod.mk.injEq]at hv;cases hfx:f x with
 | none=>
  rw[hfx]at h1;have:=hv.1;rw[Maps.atKey_of_not_has h1]at this
  grind
 | some u=>
  simp_all
theorem BH.look(h:BH P K w b n f)(KI:Maps.Keyed P K){t:TypeId}(ht:P.underlying t=some (.map K e))(hk:P.underlying K=some (.int .i64))(hz:(zeroValue e).run P w=.ok z w){x:Int}(hx:(Lit.int .i64 x).wf=true):
  (Instr.lookup t (.map (some b)) (.int .i64 x) false).run P w=.ok ((f x).getD z) w:=by
 obtain⟨D,hD,hf⟩:=h;obtain⟨v,ps,hr,hv⟩:=hD.lookup KI ht hz (zd:=.held z) (zp:=[]) rfl (Maps.keyOf_int_mk hk hx);obtain⟨h1,h2⟩:=hf x hx;rw[hr];unfold IM at hv;simp only[Option.some.injEq,Prod.mk.injEq]at hv;cases hfx:f x with
 | none=>
  rw[hfx]at h1;have:=hv.1;rw[Maps.atKey_of_not_has h1]at this
  grind
 | some u=>
  simp_all
end
theorem X9l(w:World){ops:Array Oper}{rest:List Oper}{o:Oper}{a:Act}
  (hg:o.guard=none) (m x v:Operand) (t:TypeId) (hop:o.op=Op.mapUpdate t m x v)
  (k e:TypeId) (K:Maps.Keyed P k) (ht:P.underlying t=some (.map k e)) (hk:P.underlying k=some (.int .i64)) (b n:Nat) (f:Int->Option Value)
  (hm:a.eval m=.map (some b)) (hown:BH P k w b n f) (hn:n<maxLen) (key:Int) (val:Value) (hx:a.eval x=.int .i64 key) (hv:a.eval v=val) (hw:(Lit.int .i64 key).wf=true)
  (hK:∀w',BH P k w' b (n+1) (λy=>if y=key then some val else f y)->AB (λi=>i=b) w w'->wpList P ops Q rest (a.put o.dst undef) w'):
  wpList P ops Q (o :: rest) a w:=by
 obtain⟨D,hD,hf⟩:=hown;have Y:=Maps.keyOf_int_mk (P:=P) hk hw;refine wpList_mapUpdate_own w hg m x v t hop k e K ht IM b n D hm hD hn (.int .i64 key) val _ hx hv Y (.held val) [] rfl λw' h1 h2=>?_;refine hK w' ⟨_,h1,λy hy=>?_⟩ (DM h2 _ (λi hi _=>by cases hi;rfl));by_cases e:y=key
 ·subst e;dsimp only;rw[φ rfl];refine⟨Maps.has_put_same hD.isMap (K.key Y) _,λv hv z=>?_⟩;cases hv;exact Maps.atKey_put_same hD.isMap (K.key Y) _ _
 ·dsimp only;rw[ξ e];have Z:(Lit.int .i64 y)≠.int .i64 key:=λh=>e (by injection h);exact⟨(Maps.has_put_other Z _).trans (hf y hy).1,λv hv z=>(Maps.atKey_put_other Z _ _).trans ((hf y hy).2 v hv z)⟩
theorem XW(w:World):(zeroValue 3).run prog w=.ok (iI 0) w:=by kernel_rfl
theorem JK:Maps.Keyed prog 3:=Maps.int_keyed underlying3
def LG(v:Vm)(O:List Int)(to:Int)(x:Int):Option Value:=if x∈O then some (iI (BV v O to x))else none
structure CpS(v:Vm)(rs:List Int)(L:List Ob)(to:Nat)(O:List Int)(k i:Nat)(v':Vm):Prop where
 nd:O.Nodup
 rch:∀a∈O,Rch v rs a
 cp:Cpd v v' to O k i
 kn:LM v O k i
 lt:k<O.length\/(k=O.length/\i=0)
structure C6(w:World)(S:Nat->Prop)(K M q:Nat)(v:Vm)(to:Nat)(O:List Int)(v':Vm):Prop where
 rc:Rec w K 235 [pP q,.map (some M),iI ((to:Int)+AJ v O)]
 mp:BH prog 3 w M O.length (LG v O to)
 vm:AD w S q v'
 nK:¬S K
 nM:¬S M
theorem C6.gr(h:C6 w S K M q v to O v')(g:Gr w w'):C6 w' S K M q v to O v':=
 ⟨h.rc.gr g,h.mp.gr g,h.vm.gr g,h.nK,h.nM⟩
theorem IP{T:Nat}(h:Rec w q T xs):∃cs fr,w.heap[q]?=some (.cells cs T fr):=by
 obtain⟨cur,h1⟩:=QW h rfl
 simp_all
theorem C6.ne(h:C6 w S K M q v to O v'):M≠K:=h.mp.ne (IP h.rc)
def QU(w:World)(S:Nat->Prop)(K M q:Nat)(v:Vm)(rs:List Int)(L:List Ob)(to:Nat)(O:List Int)(k i:Nat)(a:Int)(e:Ending)(w':World):Prop:=
 ∃v'',e=.returned (iI (BV v (CM O a) to a))/\AB (λb=>(b=K\/b=M)\/S b) w w'/\C6 w' (plus S w) K M q v to (CM O a) v''/\CpS v rs L to (CM O a) k i v''
theorem C6.plus{w0:World}(h:C6 w S K M q v to O v')(hz:K<w0.heap.size/\M<w0.heap.size):C6 w (plus S w0) K M q v to O v':=
 ⟨h.rc,h.mp,h.vm.mono (λ_ h=>.inl h),λh'=>h'.elim h.nK (λh=>absurd hz.1 (ξj h)),λh'=>h'.elim h.nM (λh=>absurd hz.2 (ξj h))⟩
theorem C6.lt(h:C6 w S K M q v to O v'):K<w.heap.size/\M<w.heap.size:=⟨h.rc.lt,h.mp.lt⟩
theorem VYh(h:C6 w S K M q v to O v')(ha:-9223372036854775808<=a/\a<=9223372036854775807):
  (Instr.lookup 148 (.map (some M)) (iI a) true).run prog w=.ok (.tuple #[iI (if a∈O then BV v O to a else 0),.bool (decide (a∈O))]) w:=by
 rw[h.mp.look_ok JK underlying148 underlying3 (XW w) (WalkArith.wf_i64 ha)];unfold LG
 grind
theorem CpS.zero(c:DI v rs L to)(h:CpS v rs L to O k i v'):(0:Int)∉O:=λhm=>by
 have:=(DC (c.mks.sound.rd _ (h.rch 0 hm))).1;omega
theorem Zz2(hC:C6 w S K M q v to O v')(c:DI v rs L to)(hf:FR v L)(hs:CpS v rs L to O k i v'){a:Nat}(ha:a=0\/Rch v rs a)(ha2:a<=2147483647):
  Calls prog 152 #[pP K,.int .i64 a] w (QU w S K M q v rs L to O k i a):=by
 have Xn:=hs.zero c;have HC:=hC;have HS:=hs;by_cases h0:a=0
 ·subst h0;have Y:CM O ((0:Nat):Int)=O:=φ (.inl rfl)
  have hE:Hid (QU w S K M q v rs L to O k i ((0:Nat):Int) (.returned (.int .i64 0)) w):=⟨by
   refine⟨v',?_,AB.refl _ _,?_,?_⟩
   ·rw[Y,show BV v O to ((0:Nat):Int)=0 from O8 v _ Xn]
   ·rw[Y];exact hC.plus hC.lt
   ·rw[Y];exact hs⟩
  clear hC c hf hs ha Y;go_enter func152,ntmps152;go_wp2;go_ret;exact hE.o
 ·have d0:((a:Int)==0)=false:=by simp;omega
  have Xk:=VYh hC (a:=a) Ω;have c1:=hC.rc.cc 1;by_cases hm:(a:Int)∈O
  ·have Y:CM O (a:Int)=O:=φ (.inr hm);rw[φ hm,θ hm]at Xk
   have hE:Hid (QU w S K M q v rs L to O k i (a:Int) (.returned (.int .i64 (BV v O to a))) w):=⟨by
    refine⟨v',?_,AB.refl _ _,?_,?_⟩
    ·rw[Y]
    ·rw[Y];exact hC.plus hC.lt
    ·rw[Y];exact hs⟩
   clear hC c hf hs ha Y hm h0;generalize BV v O to a=y at *
   go_enter func152,ntmps152;go_wp2;go_ret;exact hE.o
  ·have Y:CM O (a:Int)=O++[(a:Int)]:=ξ (λh=>h.elim Ω hm);rw[ξ hm,ζ hm]at Xk;have hr:=ha.resolve_left h0;obtain⟨q1,q2,q3,q4⟩:=c.same hf hs.nd hs.rch hs.cp hr;have B:v'.osz a=v.osz a:=by unfold Vm.osz;rw[q3]
   obtain⟨-,-,p,f,cc,hh,Yi⟩:=F3 q2;have hp:=DC q2;obtain⟨z,hz⟩:∃z:Nat,(z:Int)=v.osz a:=⟨(v.osz a).toNat,by omega⟩;obtain⟨t1,t2,t3,t4⟩:=Cpd.take c hf hs.nd hs.rch hs.cp hs.kn hs.lt hr hm z hz;obtain⟨tp,D⟩:∃tp:Nat,(tp:Int)=to+AJ v O:=⟨((to:Int)+AJ v O).toNat,by have:=GF v O;omega⟩;rw[<-D]at t1 t2 t3;have c0:=hC.rc.cc 0;have c2:=hC.rc.cc 2;rw[<-D]at c2;have hn2:=c.ok.n2;have hpos:=c.pos;have Ye:=GF v O;have Xb:=(λ(W:World) (g:Gr w W)=>PS (hC.vm.gr g) (a:Int));rw[q2,hh]at Xb;have hN:CF ⟨p,f,cc⟩=(z:Int):=by rw[hz,<-B];unfold Vm.osz;rw[hh]
   have Xj:=(λW=>LV ⟨p,f,cc⟩ W);rw[hN]at Xj;have Xr:=(λ(W:World) (g:Gr w W)=>QmA (hC.vm.cut.gr g) (a:=a) (t:=tp) (n:=z) q2 (by rw[hz,B]) Ω (λm hm=>(q4 m Ω).1) t1)
   have Xh:Hid (BV v (O++[(a:Int)]) to a=tp/\(to:Int)+AJ v (O++[(a:Int)])=(tp:Int)+z):=⟨by
    rw[UJ v _ _ hm,NG];refine⟨?_,?_⟩
    ·rw[D];exact φ rfl
    ·simp only[AJ];omega⟩
   have Yb:Hid (CpS v rs L to (O++[(a:Int)]) k i (cpV v' a tp z)):=⟨⟨by
     have:=UK hs.nd (a:Int);rwa [Y]at this,λb hb=>by
     rcases ζe.1 hb with hb|hb
     ·exact hs.rch b hb
     ·rw[ζO.1 hb];exact hr,t3,t4,by
     rw[ζr,ξm];rcases hs.lt with h|h <;> left <;> omega⟩⟩
   have Xp:O.length<9223372036854775807:=by
    have h1:=c.sum hs.nd hs.rch
    have h2:(O.length:Int)<=AJ v O:=by
     have:∀l:List Int,(∀b∈l,Rch v rs b)->(l.length:Int)<=AJ v l:=λl=>by
      induction l with
      | nil=>intro _;exact ψB _
      | cons b r ih=>
       intro hl;have:=ih (λx hx=>hl x (τ _ hx));have:=(DC (c.mks.sound.rd _ (hl b (ζa ..)))).2.1;simp only[AJ,ζu];push_cast;omega
     exact this O hs.rch
    have:=c.top;omega
   have HLK:=Xk;have U:=ι Y;have Xg:=ι D;have Xf:=ι hC.lt;have Ya:Hid (O.length<maxLen):=⟨Xp⟩;have Xz:Hid ((Lit.int .i64 (a:Int)).wf=true):=⟨WalkArith.wf_i64 Ω⟩
   have Yh:Hid (∀y:Int,(if y=(a:Int)then some (Value.int .i64 tp)else LG v O to y)=LG v (O++[(a:Int)]) to y):=⟨λy=>by
    unfold LG;by_cases e:y=(a:Int)
    ·rw[φ e,φ (by rw[e];simp),e,Xh.o.1]
    ·rw[ξ e];by_cases hy:y∈O
     ·rw[φ hy,φ (ζk _ hy),YAF v _ _ hy]
     ·rw[ξ hy,ξ (λh=>(ζe.1 h).elim hy (λh=>e (ζO.1 h)))]⟩
   have Xv:=ι hC.ne;have HMEM:=ι hm;unfold AM at Xb Xj;unfold spV at Xb Xr;have hKl:=hC.lt;clear hC c hf hs ha Y hm h0 hr q1 q2 q3 q4 B hh Yi hp hz t1 t3 t4 D hN Xn Ye Xp;go_enter func152,ntmps152
   go_upto_region 10 with(first
    | (go_at_call 93;refine(Xb _ (Gr.refl w)).mono ?_;rintro e w1 ⟨rfl,Xl⟩;have V:=ι Xl;have E:=ι (HC.rc.gr Xl);have x0:=E.o.cc 0;have x1:=E.o.cc 1;have x2:=E.o.cc 2;rw[<-Xg.o]at x2;have xl:=E.o.lt;clear Xl)
    | (go_at_call 205;refine(Xr _ (V.o.alloc _)).mono ?_;rintro e w2 ⟨rfl,Xa,Xw⟩;have Xy:=ι Xa;have Yc:=ι Xw;have I:=ι ((E.o.gr ((Gr.refl w1).alloc (.cells #[.int .i64 p,.int .i64 f,.int .i64 cc] 64))).touch Xa (λh=>HC.nK h.1));have Yf:=ι ((HC.mp.gr (V.o.alloc (.cells #[.int .i64 p,.int .i64 f,.int .i64 cc] 64))).touch Xa (λh=>HC.nM h.1));have Yd:=ι ((Rec.new w1 64 [.int .i64 p,.int .i64 f,.int .i64 cc]).touch Xa (λh=>by have h1:=h.2;have h2:=V.o.size;omega));have y0:=I.o.cc 0;have y1:=I.o.cc 1;have y2:=I.o.cc 2;rw[<-Xg.o]at y2;have yl:=I.o.lt;clear Xa Xw)
    | (at_mapUpdate;refine X9l _ rfl _ _ _ 148 rfl 3 3 JK underlying148 underlying3 M O.length (LG v O to) rfl Yf.o Ya.o (a:Int) (.int .i64 tp) rfl rfl Xz.o ?_;intro w3 Xo Xc;have Yg:=ι (Xo.congr Yh.o);have Xu:=ι Xc;have Xd:=ι (I.o.touch Xc (λh=>Xv.o h.symm));have Xe:=ι (Yd.o.touch Xc (λh=>by have h1:=Xf.o.2;have h2:=V.o.size;omega));clear Xo Xc))
   have u2:=Xd.o.cc 2;rw[<-Xg.o]at u2;have uf:=Xd.o.free 2;have ul:=Xd.o.lt;obtain⟨e0,e1,e2,el⟩:=Xe.o.k3;obtain⟨hb,Xq⟩:∃hb,hb=w1.heap.size:=⟨_,rfl⟩;rw[<-Xq]at e0 e1 e2 el⊢;clear Xq
   have KS:Hid (∀W',Gr w3 W'->(W'.cell? ⟨K,2,none⟩=some (.int .i64 tp)/\W'.cell? ⟨hb,0,none⟩=some (.int .i64 p))/\W'.cell? ⟨hb,1,none⟩=some (.int .i64 f)/\W'.cell? ⟨hb,2,none⟩=some (.int .i64 cc)):=
    ⟨λW' h=>⟨⟨(h.cell ul 2).trans u2,(h.cell el 0).trans e0⟩,(h.cell el 1).trans e1,(h.cell el 2).trans e2⟩⟩
   obtain⟨Sx,J⟩:∃Sx:World->Prop,Sx=λW'=>Gr w3 W':=⟨_,rfl⟩;have z1:∀p':AA Sx,p'.w.cell? ⟨K,2,none⟩=some (.int .i64 tp):=λp=>(KS.o _ (AA.get J p)).1.1;have z2:∀p':AA Sx,p'.w.cell? ⟨hb,0,none⟩=some (.int .i64 p):=λp=>(KS.o _ (AA.get J p)).1.2;have z3:∀p':AA Sx,p'.w.cell? ⟨hb,1,none⟩=some (.int .i64 f):=λp=>(KS.o _ (AA.get J p)).2.1;have z4:∀p':AA Sx,p'.w.cell? ⟨hb,2,none⟩=some (.int .i64 cc):=λp=>(KS.o _ (AA.get J p)).2.2;have Xi:Sx w3.drew:=by rw[J];exact(Gr.refl w3).drew
   have Xx:=ι J;have Xs:Inhabited (AA Sx):=⟨⟨_,Xi⟩⟩;clear J x0 x1 x2 xl y0 y1 y2 yl c0 c1 c2 e0 e1 e2 el;simp only[Act.put];refine AI Sx 9 [([0,1,2,3,4],5),([6,7,8],9)] [] Xi ?_;refine AE ?_;go_wp2_with(go_at_call 78;refine(Xj _).mono ?_;rintro e w4 ⟨rfl,Xm⟩;have Z:=ι ((Gr.refl w3).drew.trans Xm);have uf4:=(Z.o.frozen ul 2).trans uf;have u4:=(Z.o.cell ul 2).trans u2;clear Xm);refine⟨.inr (AA.of (by rw[Xx.o];exact Z.o)),?_⟩;refine AE ?_;go_wp2;refine⟨.inl trivial,?_⟩;refine ET ?_;refine ζd ?_;refine ζI ?_;clear z1 z2 z3 z4 Xi Xs;go_wp2;go_ret;have hz1:=V.o.size;have T3:AB (λb=>(b=K\/b=M)\/S b) w w3:=(((V.o.alloc _).touch _).trans (Xy.o.mono (λb _ h=>.inr h.1))).trans (Xu.o.mono (λb _ h=>.inl (.inr h)));have T5:=(T3.trans (Z.o.touch _)).setCell (a:=⟨K,2,none⟩) (λ_=>.inl (.inl rfl)) (.int .i64 ((tp:Int)+z));have tK:=(AB.refl (λb=>b=K) w4).setCell (a:=⟨K,2,none⟩) (λ_=>rfl) (.int .i64 ((tp:Int)+z))
   have Xt:∀b,(b=K\/b=M)->¬plus (AC S w) (w1.alloc (.cells #[.int .i64 p,.int .i64 f,.int .i64 cc] 64)) b:=λb hb h=>by
    rw[plus,γ]at h;have:=Xf.o;rcases hb with rfl|rfl
    ·rcases h with h|h
     ·exact HC.nK h.1
     ·omega
    ·rcases h with h|h
     ·exact HC.nM h.1
     ·omega
   refine⟨cpV v' a tp z,?_,T5,⟨?_,?_,?_,?_,?_⟩,?_⟩
   ·rw[U.o,Xh.o.1];rfl
   ·rw[U.o,Xh.o.2];exact(Xd.o.gr Z.o).set 2 (.int .i64 ((tp:Int)+z))
   ·rw[U.o,ζr,ξm];exact(Yg.o.gr Z.o).touch tK Xv.o
   ·exact((((Yc.o.touch Xu.o (λb hb _ e=>Xt b (.inr e) hb)).gr Z.o).touch tK (λb hb _ e=>Xt b (.inl e) hb))).mono (λb hb=>by
     rcases hb with h|h
     ·exact .inl h.1
     ·rw[γ]at h;right;omega)
   ·exact λh=>h.elim HC.nK (λh=>by have:=Xf.o.1;omega)
   ·exact λh=>h.elim HC.nM (λh=>by have:=Xf.o.2;omega)
   ·rw[U.o];exact Yb.o
structure QRU(w wr:World)(S Si:Nat->Prop)(K M q hb:Nat)(v:Vm)(rs:List Int)(L:List Ob)(to:Nat)(O:List Int)(k:Nat)(ob:Int)(p f c i:Nat)(Oi:List Int)(vi:Vm):Prop where
 cat:C6 wr Si K M q v to Oi vi
 st:CpS v rs L to Oi k i vi
 oi:Oi=DG O ((DN v ob).take i)
 sub:∀b,Si b->plus S w b
 rh:Rec wr hb 64 [iI p,iI f,iI c]
 nh:¬Si hb
 lh:w.heap.size<=hb
 t:AB (λb=>(b=K\/b=M)\/S b) w wr
def Y7m(w:World)(S:Nat->Prop)(K M q:Nat)(v:Vm)(rs:List Int)(L:List Ob)(to:Nat)(O:List Int)(k:Nat)(e:Ending)(w':World):Prop:=
 ∃v'',e=.returned (iI ((to:Int)+AJ v (O.take (k+1))))/\AB (λb=>(b=K\/b=M)\/S b) w w'/\C6 w' (plus S w) K M q v to (DG O (DN v (O.getD k 0))) v''/\CpS v rs L to (DG O (DN v (O.getD k 0))) (k+1) 0 v''
theorem IX(h:i<l.length):l.take (i+1)=l.take i++[l[i]]:=by simp_all
theorem LQ(hj:j<l.length)(a:Int):∃h:j<(CM l a).length,(CM l a)[j]=l[j]/\(CM l a).take j=l.take j:=by
 obtain⟨Y,hY⟩:=WN l a
 grind
theorem CpS.field(c:DI v rs L to)(hs:CpS v rs L to O k i v')(hj:j<l.length){b:Int}(hO:O=CM l b){t:Int}(ha:l[j]=a)(ht:t=to+AJ v (l.take j))(hm:(m:Int)<(v.rdH a).p):
  v'.plE t m 1=0/\v'.ldE (t+1+m)=0:=by
 obtain⟨h1,h2,h3⟩:=LQ hj b;subst hO;have:=(Cpd.copy c hs.nd hs.rch hs.cp h1 (t:=t) (by simp_all)).2.2.2 m
 simp_all
theorem ZQS(hC:C6 w S K M q v to O v')(c:DI v rs L to)(hf:FR v L)(hs:CpS v rs L to O k 0 v')(hk:k<O.length):
  Calls prog 153 #[pP K,iI ((to:Int)+AJ v (O.take k))] w (Y7m w S K M q v rs L to O k):=by
 obtain⟨ob,Xx⟩:∃ob,ob=O.getD k 0:=⟨_,rfl⟩;have V:O[k]=ob:=by rw[Xx,ω,η hk];rfl
 obtain⟨t,ht⟩:∃t:Nat,(t:Int)=to+AJ v (O.take k):=⟨((to:Int)+AJ v (O.take k)).toNat,by have:=GF v (O.take k);omega⟩;have hr:=hs.rch _ (μ hk);rw[V]at hr;have Yy:=c.mks.sound.rd _ hr;obtain⟨-,-,p,f,cc,hh,Yl⟩:=F3 Yy;have Xs:v.osz ob=((1+p+f+cc:Nat):Int):=by unfold Vm.osz;rw[hh,show CF ⟨p,f,cc⟩=1+(p:Int)+f+cc from φ (EG Yl)];push_cast;rfl
 have D:=Cpd.copy c hs.nd hs.rch hs.cp hk ht;rw[V]at D;have Xi:=(λ(W:World) (g:Gr w W)=>PS (hC.vm.gr g) (t:Int));rw[D.1,D.2.1,hh]at Xi;have Ye:=(λW=>LV ⟨p,f,cc⟩ W);rw[show CF ⟨p,f,cc⟩=1+(p:Int)+f+cc from φ (EG Yl)]at Ye;have Xe:(DN v ob).length=p:=by rw[UA,hh];rfl
 have Xq:(to:Int)+AJ v (O.take (k+1))=(t:Int)+(1+p+f+cc):=by
  rw[LH v hk,V,Xs,ht];push_cast;omega
 have J:(t:Int)+(1+p+f+cc)<=v.n:=by
  have h1:=c.sum hs.nd hs.rch;have h2:=S8 v O (k+1);have:=c.top;omega
 have hn2:=c.ok.n2;have c0:=hC.rc.cc 0;have HC:=hC;have HS:=hs;have Z:=(ψ c hf);have I:=(ψ Xx (ψ (show ∀h:k<O.length,O[k]=ob from λ_=>V) (ψ hr (ψ hh (ψ Yl Xe)))));have HK:=hk;have HT:=ι ht;have Zc:=ι Xq;have Yp:=hC.lt;rw[<-ht];have hplast:p<=255:=Ω
 unfold AM at Xi Ye;unfold spV at Xi;clear hC hs c hf Xx V hr Yy hh Xs D Xe Xq ht hk;go_enter func153,ntmps153
 go_upto_region 2 with(first
  | (go_at_call 93;refine(Xi _ (Gr.refl w)).mono ?_;rintro e w1 ⟨rfl,Zf⟩;have Xh:=ι Zf;have Xy:=ι (Rec.new w1 64 [iI p,iI f,iI cc]);clear Zf))
 have e0:=Xy.o.cc 0;have el:=Xy.o.lt;have Zm:=Xh.o.size
 have Yc:Hid (QRU w (w1.alloc (.cells #[.int .i64 p,.int .i64 f,.int .i64 cc] 64)) S (AC S w) K M q w1.heap.size v rs L to O k ob p f cc 0 O v'):=⟨
  ⟨⟨(HC.gr (Xh.o.alloc _)).rc,(HC.gr (Xh.o.alloc _)).mp,(HC.vm.cut.gr (Xh.o.alloc _)),λh=>HC.nK h.1,λh=>HC.nM h.1⟩,HS,by simp[DG],λb hb=>.inl hb.1,Xy.o,λh=>by have:=h.2;omega,Zm,(Xh.o.alloc _).touch _⟩⟩
 obtain⟨hb,Yx⟩:∃hb,hb=w1.heap.size:=⟨_,rfl⟩;rw[<-Yx]at e0 el Yc⊢;clear Yx;go_wp2
 go_loopw [22] (λs22 wr=>∃(i:Nat) (Oi:List Int) (vi:Vm) (Si:Nat->Prop),i<=p/\Hid (QRU w wr S Si K M q hb v rs L to O k ob p f cc i Oi vi)/\s22=iI i) (λs22 _=>p-(intOf s22).toNat)
 case atStart=>exact⟨0,O,v',_,by omega,Yc,rfl⟩
 case round=>
  obtain⟨i,Oi,vi,Si,hi,HI,rfl⟩:=hrel;clear e0 el Yc c0;obtain⟨X,hX⟩:=WY O ((DN v ob).take i);rw[<-HI.o.oi]at hX;have Xa:k<Oi.length:=by rw[hX,ζr];have:=HK;omega
  have Xd:Oi[k]=ob:=by
   have:=I.2.1 HK;simp only[hX,ζH HK];exact this
  have Xj:(t:Int)=to+AJ v (Oi.take k):=by rw[HT.o,hX,ξS (Nat.le_of_lt HK)]
  by_cases J:i=p
  ·subst J;have x0:=HI.o.rh.cc 0;have x1:=HI.o.rh.cc 1;have x2:=HI.o.rh.cc 2;have Yn:=Cpd.next HI.o.st.cp HI.o.st.kn Xa (by rw[Xd,I.2.2.2.1])
   have Zg:Oi=DG O (DN v (O.getD k 0)):=by rw[<-I.1,HI.o.oi,ψt (by rw[I.2.2.2.2.2];exact ϑ _)]
   have Yv:=ι Yn;have Ze:=ι Zg;have Y:=ι Xa;clear Yn Zg hX Xa Xd Xj;go_wp2_with(go_at_call 78;refine(Ye _).mono ?_;rintro e w3 ⟨rfl,Yq⟩;have Ym:=ι Yq;clear Yq);go_ret;have hc:=HI.o.cat.gr Ym.o;refine⟨vi,?_,HI.o.t.trans (Ym.o.touch _),?_,?_⟩
   ·rw[Zc.o];rfl
   ·rw[<-Ze.o];exact⟨hc.rc,hc.mp,hc.vm.mono HI.o.sub,λh=>h.elim HC.nK (λh=>by have:=Yp.1;omega),λh=>h.elim HC.nM (λh=>by have:=Yp.2;omega)⟩
   ·rw[<-Ze.o];exact⟨HI.o.st.nd,HI.o.st.rch,Yv.o.1,Yv.o.2,by have:=Y.o;omega⟩
  ·have Xt:=Cpd.copy Z.1 HI.o.st.nd HI.o.st.rch HI.o.st.cp Xa Xj;rw[Xd]at Xt;have Xc:(i:Int)<(v.rdH ob).p:=by rw[I.2.2.2.1];show (i:Int)<(p:Int);omega
   obtain⟨Yz,Yr⟩:=Xt.2.2.1 rfl i (ϑ _) Xc;have Yf:=Z.1.mks.sound.pt _ I.2.2.1 i Xc;have Xk:=J7 Yf;have Xo:=ι (λ(W:World) (g:Gr wr W)=>ZZi (HI.o.cat.vm.gr g) (t:Int) i);rw[Yz,Yr]at Xo;have Xw:i<(DN v ob).length:=by rw[I.2.2.2.2.2];omega
   have Zh:=XZ v ob Xw;have Xn:=IX Xw;rw[Zh]at Xn
   have Xl:v.ldV (ob+1+i)=0\/Rch v rs (v.ldV (ob+1+i):Nat):=by
    by_cases h0:v.ldV (ob+1+i)=0
    ·exact .inl h0
    ·right;have hh:=I.2.2.1;exact hh.step ⟨Z.1.mks.sound.rd _ hh,i,Xc,Yf,by rw[Xk.1];exact h0,by rw[Xk.1]⟩
   have Xv:=Xk.2.1;obtain⟨pv,Xb⟩:∃pv,pv=v.ldV (ob+1+i):=⟨_,rfl⟩;rw[<-Xb]at Xo Xn Xl Xv;have Xp:=UK HI.o.st.nd (pv:Int)
   have E:∀b∈CM Oi (pv:Int),Rch v rs b:=λb hb=>by
    rcases NV.1 hb with h|⟨rfl,h0⟩
    ·exact HI.o.st.rch b h
    ·exact Xl.resolve_left Ω
   obtain⟨xN,Yj,Yo⟩:∃xN:Nat,(xN:Int)=BV v (CM Oi (pv:Int)) to pv/\xN<=2147483647:=by
    by_cases h0:pv=0
    ·refine⟨0,?_,by omega⟩;rw[h0,O8 v _ (λh=>by have:=(DC (Z.1.mks.sound.rd _ (E _ (by rw[h0];exact h)))).1;omega)];rfl
    ·have h1:=VJ v (to:Int) (NV (O:=Oi).2 (.inr ⟨rfl,(by omega:(pv:Int)≠0)⟩));have h2:=Z.1.sum Xp E;have h3:=Z.1.top;have h4:=UI v (pv:Int);exact⟨(BV v (CM Oi (pv:Int)) to pv).toNat,by omega,by omega⟩
   have Xu:=ι (λ(W:World) (g:Gr wr W)=>Zz2 (HI.o.cat.gr g) Z.1 Z.2 HI.o.st Xl Xv);unfold QU at Xu;rw[<-Yj]at Xu;have Xr:=ι Xb;have Yh:=ι (ψ Yj Yo);have Zn:=ι Xn;have Y:=ι (ψ Xa (ψ Xj (ψ hX (show ∀h:k<Oi.length,Oi[k]=ob from λ_=>Xd))));have Zb:=ι Xc;have y0:=HI.o.cat.rc.cc 0;have yl:=HI.o.cat.rc.lt;have x0:=HI.o.rh.cc 0;have Yk:=ι J;have hiI:(i:Int)<(p:Int):=Ω
   have Zi:=HI.o.rh.lt;unfold spV at Xo;clear Xt Xc Yz Yr Yf Xk Xw Zh Xn Xl Xv Xb Xp E Yj Yo Xa Xj hX Xd J;go_upto_region 6 with(go_at_call 117;refine(Xo.o _ (Gr.refl _)).mono ?_;rintro e w2 ⟨rfl,Ya⟩;have Xg:=ι Ya;have Yb:=(Ya.cell yl 0).trans y0;clear Ya);have KS:Hid (∀W',Gr w2 W'->W'.cell? ⟨K,0,none⟩=some (pP q)):=⟨λW' h=>(h.cell (κ yl Xg.o.size) 0).trans Yb⟩;obtain⟨Sx,Xm⟩:∃Sx:World->Prop,Sx=λW'=>W'.cell? ⟨K,0,none⟩=some (pP q):=⟨_,rfl⟩;have z1:∀p':AA Sx,p'.w.cell? ⟨K,0,none⟩=some (pP q):=λp=>AA.get Xm p;have Yd:Sx w2.drew:=by rw[Xm];exact Yb
   have Zj:=ι Xm;have Za:Inhabited (AA Sx):=⟨⟨_,Yd⟩⟩;clear Xm y0 Yb x0 Zi;refine AI Sx 10 [([0,1,2,3,4,5,6,7,8],9),([],10)] [] Yd ?_;refine AE ?_;go_wp2_with(go_at_call 152;refine(Xu.o _ Xg.o.drew).mono ?_;rintro e w3 ⟨v2,rfl,Ys,Xz,Yg⟩;have Yi:=ι Ys;have U:=ι Xz;have B:=ι Yg;have Zl:=ι (CpS.field Z.1 Yg Y.o.1 rfl (Y.o.2.2.2 Y.o.1) Y.o.2.1 Zb.o);have u0:=Xz.rc.cc 0;clear Ys Xz Yg);refine⟨.inr (AA.of (by rw[Zj.o];exact u0)),?_⟩;refine OM ?_;simp only[AG,ν,π];refine ζd ?_;go_wp2_with(go_at_call 142;have Zd:=QRl U.o.vm Zl.o.1 Yh.o.2;unfold spV at Zd;refine Zd.mono ?_;rintro e w4 ⟨rfl,Yt,Yu⟩;have Xf:=ι Yt;have Zk:=ι Yu;clear Yt Yu);refine⟨.inl trivial,?_⟩;refine ET ?_;refine ζd ?_;refine ζI ?_;clear z1 Yd Za u0;go_wp2;have hzr:=HI.o.t.size;have hz2:=Xg.o.size;have hz3:=Yi.o.size;have hz4:=Xf.o.size;have hzd:w2.drew.heap.size=w2.heap.size:=rfl;have hbl:=HI.o.rh.lt;have hKr:=HI.o.cat.lt;go_round
   case rel=>
    have Yw:=Cpd.set Z.1 B.o.nd B.o.rch B.o.cp B.o.kn (LQ Y.o.1 (pv:Int)).1 (t:=(t:Int)) (by rw[(LQ Y.o.1 (pv:Int)).2.2];exact Y.o.2.1) (by rw[(LQ Y.o.1 (pv:Int)).2.1,Y.o.2.2.2 Y.o.1];exact Zb.o)
     (by rw[(LQ Y.o.1 (pv:Int)).2.1,Y.o.2.2.2 Y.o.1,<-Xr.o];by_cases h0:(pv:Int)=0;(· exact .inl h0);(· exact .inr (NV.2 (.inr ⟨rfl,h0⟩)))) (x:=xN) (by rw[(LQ Y.o.1 (pv:Int)).2.1,Y.o.2.2.2 Y.o.1,<-Xr.o];exact Yh.o.1) (by have:=Yh.o.2;omega)
    refine⟨i+1,CM Oi (pv:Int),v2.st ((t:Int)+1+i) xN,plus (plus Si w2.drew) w3,by have:=Yk.o;omega,⟨⟨⟨?_,?_,Zk.o,?_,?_⟩,⟨B.o.nd,B.o.rch,Yw.1,Yw.2,.inl (LQ Y.o.1 (pv:Int)).1⟩,?_,?_,?_,?_,HI.o.lh,?_⟩⟩,by go_num⟩
    ·exact U.o.rc.touch Xf.o U.o.nK
    ·exact U.o.mp.touch Xf.o U.o.nM
    ·exact λh=>h.elim U.o.nK (λh=>by have:=U.o.lt.1;omega)
    ·exact λh=>h.elim U.o.nM (λh=>by have:=U.o.lt.2;omega)
    ·rw[Zn.o,U8,<-HI.o.oi]
    ·intro b hb;rcases hb with(h|h)|h
     ·exact HI.o.sub b h
     ·right;omega
     ·right;omega
    ·refine(((HI.o.rh.gr Xg.o.drew).touch Yi.o (λh=>?_))).touch Xf.o (λh=>?_)
     ·have:=HI.o.lh;rcases h with(h|h)|h
      ·omega
      ·omega
      ·exact HI.o.nh h
     ·rcases h with h|h
      ·exact HI.o.nh h
      ·omega
    ·intro h;rcases h with(h|h)|h
     ·exact HI.o.nh h
     ·omega
     ·omega
    ·have t2:=HI.o.t.trans (Xg.o.drew.touch _)
     have t3:=t2.trans' Yi.o (λb hb h=>by
      rcases h with h|h
      ·exact .inl h
      ·exact(HI.o.sub b h).elim .inr (λh=>by omega))
     refine t3.trans' Xf.o (λb hb h=>?_);rcases h with h|h
     ·exact(HI.o.sub b h).elim .inr (λh=>by omega)
     ·omega
   case measure=>simp[intOf];omega
inductive ED where
 | fin (qs:List Nat)
 | one (qs:List Nat) (k:Nat) (t:ED)
 | two (qs:List Nat) (k1:Nat) (t1:ED) (k2:Nat) (t2:ED)
variable{t1 t2:ED}
def ED.len:ED->Nat
 | .fin qs=>qs.length
 | .one qs _ t=>qs.length+(t.len+1)
 | .two qs _ t1 _ _=>qs.length+(t1.len+1)
def GI(md:Region.Mode)(ops:Array Oper):List Nat->Array Bool->Option (Array Bool)
 | [],listed=>some listed
 | k :: r,listed=>if (Region.ready md ops listed).contains k&&Region.free md ops listed k&&((ops[k]?).any JQ)then GI md ops r (listed.setIfInBounds k true)else none
def E0(md:Region.Mode)(ops:Array Oper):ED->Array Bool->Bool
 | .fin qs,listed=>match GI md ops qs listed with
  | some l=>(Region.ready md ops l).isEmpty
  | none=>false
 | .one qs k t,listed=>match GI md ops qs listed with
  | some l=>decide (Region.ready md ops l=[k])&&E0 md ops t (l.setIfInBounds k true)
  | none=>false
 | .two qs k1 t1 k2 t2,listed=>match GI md ops qs listed with
  | some l=>decide (Region.ready md ops l=[k1,k2])&&decide (t1.len=t2.len)&&E0 md ops t1 (l.setIfInBounds k1 true)&&E0 md ops t2 (l.setIfInBounds k2 true)
  | none=>false
def F5(P:Program)(l:List Oper)(S:World->Prop)(Q:Exit->Act->World->Prop):ED->Act->World->Prop
 | .fin qs,a,w=>wpQuiet P l.toArray S (λa'=>Q .normal a' w) (AG l qs) a
 | .one qs k t,a,w=>wpQuiet P l.toArray S (λa'=>wpList P l.toArray (Exit.then (λa2 w2=>S w2/\F5 P l S Q t a2 w2) Q) (AG l [k]) a' w) (AG l qs) a
 | .two qs k1 t1 k2 t2,a,w=>wpQuiet P l.toArray S (λa'=>wpList P l.toArray (Exit.then (λa2 w2=>S w2/\F5 P l S Q t1 a2 w2) Q) (AG l [k1]) a' w/\wpList P l.toArray (Exit.then (λa2 w2=>S w2/\F5 P l S Q t2 a2 w2) Q) (AG l [k2]) a' w) (AG l qs) a
section
variable{l:List Oper}{S:World->Prop}{z:Nat}
theorem Q2(hsel:Region.noSelect l.toArray=true)(hQ:∀c a b w,Q (.panic c) b w->Q (.panic c) a w)(hz:C5 md l.toArray z=true){w:World}(hS:S w){K:Act->Prop}{f:Nat}{l':Array Bool}
  (hK:∀a,B9 md l.toArray l'->K a->H5 P md l.toArray Q S z f l' a w):
  ∀(qs:List Nat) (listed:Array Bool) (a:Act),GI md l.toArray qs listed=some l'->B9 md l.toArray listed->wpQuiet P l.toArray S K (AG l qs) a →
   H5 P md l.toArray Q S z (qs.length+f) listed a w
 | [],listed,a,hB,hc,h=>by
  simp only[GI,Option.some.injEq]at hB;subst hB;simpa using hK a hc h
 | k :: qs,listed,a,hB,hc,h=>by
  simp only[GI]at hB
  split at hB
  ·rename_i hb;simp only[ζh]at hb;obtain⟨⟨hr,hf⟩,hq⟩:=hb;cases ho:l.toArray[k]? with
   | none=>simp_all
   | some o=>
    rw[ho]at hq;have Y:k∈Region.ready md l.toArray listed:=by simp_all
    rw[E3 ho]at h;simp only[wpQuiet]at h
    have hy:∃v,YieldsIf P l.toArray S o v a/\wpQuiet P l.toArray S K (AG l qs) (a.put o.dst v):=by
     split at h
     ·rename_i hw;obtain⟨v,h1,h2⟩:=h
      grind [OO]
     ·rename_i hw;exact⟨undef,.inr ⟨by simp_all,rfl⟩,h⟩
    obtain⟨v,hy,J⟩:=hy;have Z:(k :: qs).length+f=(qs.length+f)+1:=by simp;omega
    rw[Z];exact YR ho (Region.noSelect_spec hsel) (λc a w h=>hQ c a _ w h) hz _ listed a w hc (Region.free_spec ho hf) Y hy hS (Q2 hsel hQ hz hS hK qs _ _ hB (hc.set Y) J)
  ·cases hB
theorem ST(hsel:Region.noSelect l.toArray=true)(hQ:∀c a b w,Q (.panic c) b w->Q (.panic c) a w)(hz:C5 md l.toArray z=true):
  ∀(t:ED) (listed:Array Bool) (a:Act) (w:World),E0 md l.toArray t listed=true->B9 md l.toArray listed->S w->F5 P l S Q t a w->H5 P md l.toArray Q S z t.len listed a w
 | .fin qs,listed,a,w,hB,hc,hS,h=>by
  simp only[E0]at hB
  split at hB
  ·rename_i l' hl;exact Q2 (f:=0) (K:=λa'=>Q .normal a' w) hsel hQ hz hS (λa _ h=>⟨by simpa using hB,h⟩) qs listed a hl hc h
  ·cases hB
 | .one qs k t,listed,a,w,hB,hc,hS,h=>by
  simp only[E0]at hB
  split at hB
  ·rename_i l' hl;simp only[ζh,ζg]at hB;obtain⟨hr,hB'⟩:=hB;refine Q2 hsel hQ hz hS (λa hc h=>?_) qs listed a hl hc h;have Y:k∈Region.ready md l.toArray l':=by rw[hr];simp
   refine⟨λh0=>(by rw[hr]at h0;cases h0),λi hi=>?_⟩;rw[hr]at hi;obtain rfl:i=k:=by simpa using hi
   obtain⟨_,o,ho,_⟩:=mem_ready.1 Y;rw[E3 ho]at h;exact OI ho (λa2 w2 h2=>⟨.inr h2.1,ST hsel hQ hz t _ a2 w2 hB' (hc.set Y) h2.1 h2.2⟩) h
  ·cases hB
 | .two qs k1 t1 k2 t2,listed,a,w,hB,hc,hS,h=>by
  simp only[E0]at hB
  split at hB
  ·rename_i l' hl;simp only[ζh,ζg]at hB;obtain⟨⟨⟨hr,Z⟩,U⟩,J⟩:=hB;refine Q2 hsel hQ hz hS (λa hc h=>?_) qs listed a hl hc h;refine⟨λh0=>(by rw[hr]at h0;cases h0),λi hi=>?_⟩;have Y:i∈Region.ready md l.toArray l':=hi;rw[hr]at hi;obtain⟨_,o,ho,_⟩:=mem_ready.1 Y;have hi:i=k1\/i=k2:=by simpa using hi
   rcases hi with rfl|rfl
   ·have h:=h.1;rw[E3 ho]at h;exact OI ho (λa2 w2 h2=>⟨.inr h2.1,ST hsel hQ hz t1 _ a2 w2 U (hc.set Y) h2.1 h2.2⟩) h
   ·have h:=h.2;rw[E3 ho]at h;rw[Z];exact OI ho (λa2 w2 h2=>⟨.inr h2.1,ST hsel hQ hz t2 _ a2 w2 J (hc.set Y) h2.1 h2.2⟩) h
  ·cases hB
theorem JzF{a:Act}(S:World->Prop)(t:ED)(hm:P.follows .mixedOrders=true)
  (hB:(Region.noSelect l.toArray&&E0 .any l.toArray t (Array.replicate l.toArray.size false)&&t.len==l.toArray.size)=true) (hS:S w.drew)
  (h:F5 P l (λw'=>∃p:AA S,w'=p.w) (NoPanic Q) t a w.drew):(Code.region id l.toArray true).wp P Q a w:=by
 simp only[ζh,ξa]at hB;obtain⟨⟨Y,hB⟩,Z⟩:=hB;refine wp_region_noPanic (wp_region_any hm ?_);have hz:C5 .any l.toArray l.toArray.size=true:=by unfold C5;simp
 have:=ST (P:=P) (Q:=NoPanic Q) (S:=λw'=>∃p:AA S,w'=p.w) (md:=.any) Y (λc a b w h=>h) hz t _ a w.drew hB (B9.none .any l.toArray) (AA.of hS) h;rw[Z]at this;exact YI _ _ _ _ this
theorem ZB{a:Act}(S:World->Prop)(t:ED)(hS:S w.drew)(h:F5 P l (λw'=>∃p:AA S,w'=p.w) (NoPanic Q) t a w.drew)(hm:P.follows .mixedOrders=true:=by kernel_rfl)(hB:(Region.noSelect l.toArray&&E0 .any l.toArray t (Array.replicate l.toArray.size false)&&t.len==l.toArray.size)=true:=by kernel_rfl) :(Code.region id l.toArray true).wp P Q a w := JzF S t hm hB hS h
end
def GH(F:Fence)(n:Nat)(P:Program)(l:List Oper)(S:World->Prop)(Q:Exit->Act->World->Prop):ED->Act->World->Prop
 | .fin qs,a,w=>wpQuiet P l.toArray S (λa'=>Q .normal a' w) (AG l qs) a
 | .one qs k t,a,w=>wpQuiet P l.toArray S (λa'=>wpListIn F n P l.toArray (Exit.then (λa2 w2=>S w2/\GH F n P l S Q t a2 w2) Q) (AG l [k]) a' w) (AG l qs) a
 | .two qs k1 t1 k2 t2,a,w=>wpQuiet P l.toArray S (λa'=>wpListIn F n P l.toArray (Exit.then (λa2 w2=>S w2/\GH F n P l S Q t1 a2 w2) Q) (AG l [k1]) a' w/\wpListIn F n P l.toArray (Exit.then (λa2 w2=>S w2/\GH F n P l S Q t2 a2 w2) Q) (AG l [k2]) a' w) (AG l qs) a
section
variable{l:List Oper}{S:World->Prop}{z:Nat}
theorem PJ(hF:∀f,F.fn f)(hnd:GB l.toArray=true)(hsel:Region.noSelect l.toArray=true)(hQ:∀c a b w,Q (.panic c) b w->Q (.panic c) a w)(hz:C5 md l.toArray z=true){w:World}(hS:S w){K:Act->Prop}{f:Nat}{l':Array Bool}
  (hK:∀a,B9 md l.toArray l'->K a->GR F n P md l.toArray Q S z f l' a w):
  ∀(qs:List Nat) (listed:Array Bool) (a:Act),GI md l.toArray qs listed=some l'->B9 md l.toArray listed->wpQuiet P l.toArray S K (AG l qs) a →
   GR F n P md l.toArray Q S z (qs.length+f) listed a w
 | [],listed,a,hB,hc,h=>by
  simp only[GI,Option.some.injEq]at hB;subst hB;simpa using hK a hc h
 | k :: qs,listed,a,hB,hc,h=>by
  simp only[GI]at hB
  split at hB
  ·rename_i hb;simp only[ζh]at hb;obtain⟨⟨hr,hf⟩,hq⟩:=hb;cases ho:l.toArray[k]? with
   | none=>simp_all
   | some o=>
    rw[ho]at hq;have Y:k∈Region.ready md l.toArray listed:=by simp_all
    rw[E3 ho]at h;simp only[wpQuiet]at h
    have hy:∃v,YieldsIf P l.toArray S o v a/\wpQuiet P l.toArray S K (AG l qs) (a.put o.dst v):=by
     split at h
     ·rename_i hw;obtain⟨v,h1,h2⟩:=h
      grind [OO]
     ·rename_i hw;exact⟨undef,.inr ⟨by simp_all,rfl⟩,h⟩
    obtain⟨v,hy,J⟩:=hy;have Z:(k :: qs).length+f=(qs.length+f)+1:=by simp;omega
    rw[Z];exact Qio hF hnd ho (Region.noSelect_spec hsel) (λc a w h=>hQ c a _ w h) hz _ listed a w hc (Region.free_spec ho hf) Y hy hS (PJ hF hnd hsel hQ hz hS hK qs _ _ hB (hc.set Y) J)
  ·cases hB
theorem P4(hF:∀f,F.fn f)(hnd:GB l.toArray=true)(hsel:Region.noSelect l.toArray=true)(hQ:∀c a b w,Q (.panic c) b w->Q (.panic c) a w)(hz:C5 md l.toArray z=true):
  ∀(t:ED) (listed:Array Bool) (a:Act) (w:World),E0 md l.toArray t listed=true->B9 md l.toArray listed->S w->GH F n P l S Q t a w->GR F n P md l.toArray Q S z t.len listed a w
 | .fin qs,listed,a,w,hB,hc,hS,h=>by
  simp only[E0]at hB
  split at hB
  ·rename_i l' hl;exact PJ (n:=n) (f:=0) (K:=λa'=>Q .normal a' w) hF hnd hsel hQ hz hS (λa _ h=>⟨by simpa using hB,h⟩) qs listed a hl hc h
  ·cases hB
 | .one qs k t,listed,a,w,hB,hc,hS,h=>by
  simp only[E0]at hB
  split at hB
  ·rename_i l' hl;simp only[ζh,ζg]at hB;obtain⟨hr,hB'⟩:=hB;refine PJ hF hnd hsel hQ hz hS (λa hc h=>?_) qs listed a hl hc h;have Y:k∈Region.ready md l.toArray l':=by rw[hr];simp
   refine⟨λh0=>(by rw[hr]at h0;cases h0),λi hi=>?_⟩;rw[hr]at hi;obtain rfl:i=k:=by simpa using hi
   obtain⟨_,o,ho,_⟩:=mem_ready.1 Y;rw[E3 ho]at h;exact PM ho (λa2 w2 h2=>⟨.inr h2.1,P4 hF hnd hsel hQ hz t _ a2 w2 hB' (hc.set Y) h2.1 h2.2⟩) h
  ·cases hB
 | .two qs k1 t1 k2 t2,listed,a,w,hB,hc,hS,h=>by
  simp only[E0]at hB
  split at hB
  ·rename_i l' hl;simp only[ζh,ζg]at hB;obtain⟨⟨⟨hr,Z⟩,U⟩,J⟩:=hB;refine PJ hF hnd hsel hQ hz hS (λa hc h=>?_) qs listed a hl hc h;refine⟨λh0=>(by rw[hr]at h0;cases h0),λi hi=>?_⟩;have Y:i∈Region.ready md l.toArray l':=hi;rw[hr]at hi;obtain⟨_,o,ho,_⟩:=mem_ready.1 Y;have hi:i=k1\/i=k2:=by simpa using hi
   rcases hi with rfl|rfl
   ·have h:=h.1;rw[E3 ho]at h;exact PM ho (λa2 w2 h2=>⟨.inr h2.1,P4 hF hnd hsel hQ hz t1 _ a2 w2 U (hc.set Y) h2.1 h2.2⟩) h
   ·have h:=h.2;rw[E3 ho]at h;rw[Z];exact PM ho (λa2 w2 h2=>⟨.inr h2.1,P4 hF hnd hsel hQ hz t2 _ a2 w2 J (hc.set Y) h2.1 h2.2⟩) h
  ·cases hB
theorem Jav{a:Act}(S:World->Prop)(t:ED)(hF:∀f,F.fn f)(hm:P.follows .mixedOrders=true)
  (hB:(GB l.toArray&&Region.noSelect l.toArray&&E0 .any l.toArray t (Array.replicate l.toArray.size false)&&t.len==l.toArray.size)=true) (hS:S w.drew)
  (h:GH F n P l (λw'=>∃p:AA S,w'=p.w) (NoPanic Q) t a w.drew):(Code.region id l.toArray true).wpIn F n P Q a w:=by
 simp only[ζh,ξa]at hB;obtain⟨⟨⟨J,Y⟩,hB⟩,Z⟩:=hB;refine wpIn_mono (wpIn_region_any hm ?_) NoPanic.imp;have hz:C5 .any l.toArray l.toArray.size=true:=by unfold C5;simp
 have:=P4 (F:=F) (n:=n) (P:=P) (Q:=NoPanic Q) (S:=λw'=>∃p:AA S,w'=p.w) (md:=.any) hF J Y (λc a b w h=>h) hz t _ a w.drew hB (B9.none .any l.toArray) (AA.of hS) h;rw[Z]at this;exact PY _ _ _ _ this
theorem ZZ{a:Act}(S:World->Prop)(t:ED)(hF:∀f,F.fn f)(hS:S w.drew)(h:GH F n P l (λw'=>∃p:AA S,w'=p.w) (NoPanic Q) t a w.drew)(hm:P.follows .mixedOrders=true:=by kernel_rfl)(hB:(GB l.toArray&&Region.noSelect l.toArray&&E0 .any l.toArray t (Array.replicate l.toArray.size false)&&t.len==l.toArray.size)=true:=by kernel_rfl) :(Code.region id l.toArray true).wpIn F n P Q a w := Jav S t hF hm hB hS h
theorem YAC{a:Act}(h:wpQuiet P l.toArray S (λa'=>Q .normal a' w) (AG l qs) a):GH F n P l S Q (.fin qs) a w:=h
theorem I4{t:ED}{a:Act}(h:wpQuiet P l.toArray S (λa'=>wpListIn F n P l.toArray (Exit.then (λa2 w2=>S w2/\GH F n P l S Q t a2 w2) Q) (AG l [k]) a' w) (AG l qs) a):GH F n P l S Q (.one qs k t) a w:=h
theorem QX{a:Act}(h:wpQuiet P l.toArray S (λa'=>wpListIn F n P l.toArray (Exit.then (λa2 w2=>S w2/\GH F n P l S Q t1 a2 w2) Q) (AG l [k1]) a' w/\wpListIn F n P l.toArray (Exit.then (λa2 w2=>S w2/\GH F n P l S Q t2 a2 w2) Q) (AG l [k2]) a' w) (AG l qs) a):GH F n P l S Q (.two qs k1 t1 k2 t2) a w:=h
end
section
variable{l:List Oper}{S:World->Prop}
theorem Vy6{a:Act}(h:wpQuiet P l.toArray S (λa'=>Q .normal a' w) (AG l qs) a):F5 P l S Q (.fin qs) a w:=h
theorem NZ{t:ED}{a:Act}(h:wpQuiet P l.toArray S (λa'=>wpList P l.toArray (Exit.then (λa2 w2=>S w2/\F5 P l S Q t a2 w2) Q) (AG l [k]) a' w) (AG l qs) a):F5 P l S Q (.one qs k t) a w:=h
theorem QA{a:Act}(h:wpQuiet P l.toArray S (λa'=>wpList P l.toArray (Exit.then (λa2 w2=>S w2/\F5 P l S Q t1 a2 w2) Q) (AG l [k1]) a' w/\wpList P l.toArray (Exit.then (λa2 w2=>S w2/\F5 P l S Q t2 a2 w2) Q) (AG l [k2]) a' w) (AG l qs) a):F5 P l S Q (.two qs k1 t1 k2 t2) a w:=h
end
theorem YV8(k:Nat)(hk:k<=10):2 ^ k<=1024:=Nat.pow_le_pow_right (by decide) hk
theorem QCZ{n:Int}(h:BL n=true):∃k:Nat,k<=10/\n=((2 ^ k:Nat):Int):=by
 simp[BL]at h;rcases h with rfl|rfl|rfl|rfl|rfl|rfl|rfl|rfl|rfl|rfl|rfl
 ·exact⟨0,by decide,rfl⟩
 ·exact⟨1,by decide,rfl⟩
 ·exact⟨2,by decide,rfl⟩
 ·exact⟨3,by decide,rfl⟩
 ·exact⟨4,by decide,rfl⟩
 ·exact⟨5,by decide,rfl⟩
 ·exact⟨6,by decide,rfl⟩
 ·exact⟨7,by decide,rfl⟩
 ·exact⟨8,by decide,rfl⟩
 ·exact⟨9,by decide,rfl⟩
 ·exact⟨10,by decide,rfl⟩
theorem XB7(hk:k<=63)(hx:x<18446744073709551616):x &&& (18446744073709551615-(2 ^ k-1))=x/2 ^ k*2 ^ k:=by
 have h2:2 ^ k<=2 ^ 63:=Nat.pow_le_pow_right (by decide) hk;have h3:0<2 ^ k:=Nat.two_pow_pos k
 have e:18446744073709551615-(2 ^ k-1)=(2 ^ (64-k)-1)*2 ^ k:=by
  rw[Nat.sub_mul,<-Nat.pow_add,show 64-k+k=64 by omega];omega
 rw[e];apply ξB;intro i;rw[Nat.testBit_and,Nat.testBit_mul_two_pow,Nat.testBit_mul_two_pow,Nat.testBit_div_two_pow,Nat.testBit_two_pow_sub_one];by_cases hi:k<=i
 ·rw[θ hi,show i-k+k=i by omega];by_cases h64:i<64
  ·grind
  ·have:x.testBit i=false:=Nat.testBit_lt_two_pow (κ (show x<2 ^ 64 from hx) (Nat.pow_le_pow_right (by decide) Ω))
   simp_all
 grind
theorem ZgG(hk:k<=10)(hx:x<9223372036854775808):bits .andNot .i64 (x:Int) ((2 ^ k:Nat)-1:Int)=((x/2 ^ k*2 ^ k:Nat):Int):=by
 have hp:=YV8 k hk;have h3:0<2 ^ k:=Nat.two_pow_pos k
 have h1:(BitVec.ofInt 64 (x:Int)).toNat=x:=by
  grind
 have e:((2 ^ k:Nat)-1:Int)=((2 ^ k-1:Nat):Int):=Ω
 have h2:(BitVec.ofInt 64 ((2 ^ k:Nat)-1:Int)).toNat=2 ^ k-1:=by
  grind
 show IntKind.i64.wrap ((BitVec.ofInt 64 (x:Int) &&& ~~~ BitVec.ofInt 64 ((2 ^ k:Nat)-1:Int)).toNat:Int)=_
 rw[BitVec.toNat_and,BitVec.toNat_not,h1,h2];have:2 ^ 64-1-(2 ^ k-1)=18446744073709551615-(2 ^ k-1):=rfl;rw[this,XB7 Ω Ω];have hle:x/2 ^ k*2 ^ k<=x:=ζn x _;exact ζw _ Ω
theorem JRC(n:Nat)(hn:n<=1152921504606846976){u:Int}(hu:BL u=true)(w:World):
  cQ 266 #[iI n,iI u] w (.bool true):=by
 have hb:=DD hu;have HP:Hid (CR u=true):=⟨by grind [MU]⟩;have d1:decide ((n:Int)<=1152921504606846976)=true:=θ Ω;go_enter func266,ntmps266;go_wp2_with(go_at_call 165;refine(JW u Ω _).mono ?_;rintro e w1 ⟨rfl,rfl⟩;rw[HP.o]);go_ret
 simp_all
theorem Xnz(n B:Nat)(hn:n<=1152921504606846976)(hB:BL B=true)(w:World):
  cQ 235 #[iI n,iI B] w (iI ((n+B-1)/B*B:Nat)):=by
 have hb:=DD hB;obtain⟨k,hk,e⟩:=QCZ hB;have e':B=2 ^ k:=Int.ofNat.inj e
 have HE:Hid (bits .andNot .i64 ((n:Int)+(B:Int)-1) ((B:Int)-1)=(((n+B-1)/B*B:Nat):Int)):=⟨by
  grind [ZgG]⟩
 clear e e';go_enter func235,ntmps235;go_wp2_with(go_at_call 266;refine(JRC n hn hB _).mono ?_;rintro e w1 ⟨rfl,rfl⟩);go_ret;exact⟨AS HE.o,rfl⟩
structure Cf where
 fr:Nat
 tp:Nat
 to:Nat
 lm:Nat
 bk:Nat
 st:Nat
 ah:Nat
def cfV(c:Cf):Value:=.agg #[iI c.fr,iI c.tp,iI c.to,iI c.lm,iI c.bk,iI c.st,iI c.ah]
def upN(n B:Nat):Nat:=(n+B-1)/B*B
structure G9(pg n:Nat)(c:Cf):Prop where
 bk:BL c.bk=true
 st:1<=c.st/\c.st<=4096
 ah:c.ah<=16
 fr:pg<=c.fr
 tp:c.fr<=c.tp
 tn:c.tp<=n
 to:pg<=c.to
 lm:c.to<=c.lm
 ln:c.lm<=n
 af:c.fr%pg=0
 at_:c.to%pg=0
 al:c.lm%pg=0
 ap:¬(c.fr<upN c.tp pg/\c.to<c.lm/\c.fr<c.lm/\c.to<upN c.tp pg)
theorem VBT{b:Nat}{lo md hi:Nat->Nat}(hb:b<w.heap.size)
  (hc:∀j,j<7->w.cell? ⟨b,j*3,none⟩=some (iI (lo j))/\w.cell? ⟨b,j*3+1,none⟩=some (iI (md j))/\w.cell? ⟨b,j*3+2,none⟩=some (iI (hi j)))
  (ho:∀j,j<7->lo j<=md j/\md j<=hi j):A4 prog 234 #[.slice (some ⟨b,0,none⟩) 7 cp] w (.bool true):=by
 have HO:=ho;unfold A4;go_enter func234,ntmps234;go_wp2
 go_loopw [7] (λs7 wr=>∃j:Nat,j<=7/\Hid (Gr w wr)/\s7=iI j) (λs7 _=>7-(intOf s7).toNat)
 case atStart=>exact⟨0,by omega,⟨Gr.refl w⟩,rfl⟩
 case round=>
  obtain⟨j,hj,HG,rfl⟩:=hrel;by_cases Y:j=7
  ·subst Y;go_wp2;go_ret;exact⟨rfl,HG.o⟩
  ·obtain⟨k0,k1,k2⟩:=hc j Ω;obtain⟨o1,o2⟩:=HO j Ω;have c0:=(HG.o.cell hb _).trans k0;have c1:=(HG.o.cell hb _).trans k1;have c2:=(HG.o.cell hb _).trans k2;have hjI:(j:Int)<7:=Ω
   have d0:decide ((md j:Int)<(lo j:Int))=false:=ζ Ω;have d1:decide ((hi j:Int)<(md j:Int))=false:=ζ Ω;generalize lo j=x at *
   generalize md j=y at *
   generalize hi j=z at *
   go_wp2;go_round
   case rel=>exact⟨j+1,by omega,⟨HG.o.alloc _⟩,by go_num⟩
   case measure=>have:=Y;simp[intOf];omega
theorem JcE{a b c d:Prop}(h:¬(a/\b/\c/\d)):¬a\/(a/\¬b)\/(a/\b/\¬c)\/(a/\b/\c/\¬d):=by
 grind
theorem QzK(hV:AD w S q v){c:Cf}(hc:G9 v.pl.pg v.n c):Calls prog 189 #[pP q,cfV c] w λe w'=>e=.returned (iI 0)/\Gr w w':=by
 have Xk:=hV.ok.page;have Xn:=hV.ok.n2;have Xf:=hV.ok.pl.pg;obtain⟨fr,tp,to,lm,bk,st,ah⟩:=c;obtain⟨h1,h2,h3,h4,h5,h6,h7,h8,h9,V,U,I,J⟩:=hc;dsimp only at h1 h2 h3 h4 h5 h6 h7 h8 h9 V U I J;have hbp:=DD h1
 have E:CR bk=true:=by
  grind [MU]
 have Xi:=(λW=>JW (bk:Int) Ω W);rw[E]at Xi;have Xh:=(λ(W:World) (g:Gr w W)=>I0 (hV.gr g));have Xd:=(λ(W:World) (g:Gr w W)=>I8 (hV.gr g));have Xa:=(λW=>Xnz tp v.pl.pg Ω Xf W);obtain⟨pg,D⟩:∃pg,pg=v.pl.pg:=⟨_,rfl⟩;obtain⟨n,Xg⟩:∃n,n=v.n:=⟨_,rfl⟩;rw[<-D]at Xh Xa Xk h4 h7 V U I J;rw[<-Xg]at Xd Xn h6 h9
 have Xm:=(λ(W:World) (b:Nat) (cp:Nat) (R:Rec W b 143 [iI 1,iI bk,iI 1024,iI 1,iI st,iI 4096,iI 0,iI ah,iI 16,iI pg,iI fr,iI n,iI fr,iI tp,iI n,iI pg,iI to,iI n,iI to,iI lm,iI n])=>
  VBT (w:=W) (b:=b) (cp:=cp) (lo:=λj=>[1,1,0,pg,fr,pg,to].getD j 0) (md:=λj=>[bk,st,ah,fr,tp,to,lm].getD j 0) (hi:=λj=>[1024,4096,16,n,n,n,n].getD j 0) R.lt
   (λj hj=>by
    rcases(by omega:j=0\/j=1\/j=2\/j=3\/j=4\/j=5\/j=6)with rfl|rfl|rfl|rfl|rfl|rfl|rfl <;> exact⟨R.cell rfl,R.cell rfl,R.cell rfl⟩)
   (λj hj=>by
    rcases(by omega:j=0\/j=1\/j=2\/j=3\/j=4\/j=5\/j=6)with rfl|rfl|rfl|rfl|rfl|rfl|rfl <;> (refine⟨?_,?_⟩ <;> simp <;> omega)))
 have m1:((fr:Int)).tmod (pg:Int)=0:=by rw[<-Int.ofNat_tmod,V];rfl
 have m2:((to:Int)).tmod (pg:Int)=0:=by rw[<-Int.ofNat_tmod,U];rfl
 have m3:((lm:Int)).tmod (pg:Int)=0:=by rw[<-Int.ofNat_tmod,I];rfl
 have R0:=Rec.new w 171 [iI fr,iI tp,iI to,iI lm,iI bk,iI st,iI ah];have Xe:=(JcE J)
 have Xo:upN tp pg<=1048576:=by
  unfold upN;have:=ζn (tp+pg-1) pg;omega
 obtain⟨up,Z⟩:∃up,up=upN tp pg:=⟨_,rfl⟩;rw[<-Z]at Xe Xo;rw[show (tp+pg-1)/pg*pg=up from Z.symm]at Xa;have b0:((pg:Int)==0)=false:=by simp;omega
 have b1:(pg:Int)≠0:=Ω
 unfold cfV;obtain⟨z0,z1,z2,z3,z4,z5,z6,zl⟩:=R0.k7;obtain⟨W1,B⟩:∃W1,W1=w.alloc (.cells #[.int .i64 fr,.int .i64 tp,.int .i64 to,.int .i64 lm,.int .i64 bk,.int .i64 st,.int .i64 ah] 171):=⟨_,rfl⟩;have Xc:Hid (Gr w W1):=⟨by rw[B];exact(Gr.refl w).alloc _⟩;clear D Xg Z hV J E Xf h1 V U I;go_enter func189,ntmps189;go_upto_region 1 with(fail);rw[<-B]at z0 z1 z2 z3 z4 z5 z6 zl R0⊢;clear B
 go_upto_region 6 with(first
  | (go_at_call 154;refine(Xh _ Xc.o).mono ?_;rintro e w1 ⟨rfl,rfl⟩)
  | (go_at_call 67;refine(Xd _ Xc.o).mono ?_;rintro e w1 ⟨rfl,rfl⟩)
  | (go_at_call 165;refine(Xi _).mono ?_;rintro e w1 ⟨rfl,rfl⟩)
  | (go_at_call 234;refine(Xm _ _ _ (Rec.new _ _ _)).mono ?_;rintro e w2 ⟨rfl,Xl⟩;have Xj:=(((Gr.refl _).alloc _).trans Xl);have Y:=(R0.gr Xj);have y0:=Y.cc 0;have y1:=Y.cc 1;have y2:=Y.cc 2;have y3:=Y.cc 3;have yl:=Y.lt))
 go_quiet (fail);go_upto_region 9 with(go_at_call 235;refine(Xa _).mono ?_;rintro e w1 ⟨rfl,rfl⟩);have hG:=Xc.o.trans Xj;rcases Xe with h|⟨h,h'⟩|⟨h,h',Xb⟩|⟨h,h',Xb,h3⟩
 ·have e0:decide ((fr:Int)<(up:Int))=false:=ζ Ω;have f0:decide (fr<up)=false:=ζ h;go_wp2;go_ret;exact⟨rfl,hG.drewN _⟩
 ·have e0:decide ((fr:Int)<(up:Int))=true:=θ Ω;have e1:decide ((to:Int)<(lm:Int))=false:=ζ Ω;have f0:decide (fr<up)=true:=θ h;have f1:decide (to<lm)=false:=ζ h';go_wp2;go_ret;exact⟨rfl,hG.drewN _⟩
 ·have e0:decide ((fr:Int)<(up:Int))=true:=θ Ω;have e1:decide ((to:Int)<(lm:Int))=true:=θ Ω;have e2:decide ((fr:Int)<(lm:Int))=false:=ζ Ω;have f0:decide (fr<up)=true:=θ h;have f1:decide (to<lm)=true:=θ h';have f2:decide (fr<lm)=false:=ζ Xb;go_wp2;go_ret;exact⟨rfl,hG.drewN _⟩
 ·have e0:decide ((fr:Int)<(up:Int))=true:=θ Ω;have e1:decide ((to:Int)<(lm:Int))=true:=θ Ω;have e2:decide ((fr:Int)<(lm:Int))=true:=θ Ω;have e3:decide ((to:Int)<(up:Int))=false:=ζ Ω;have f0:decide (fr<up)=true:=θ h;have f1:decide (to<lm)=true:=θ h';have f2:decide (fr<lm)=true:=θ Xb;have f3:decide (to<up)=false:=ζ h3;go_wp2;go_ret;exact⟨rfl,hG.drewN _⟩
def FK(T:Nat->Prop)(w:World)(A:Option Addr)(l:List Int):Prop:=∀i (h:i<l.length),∃b o,A=some ⟨b,o,none⟩/\b<w.heap.size/\¬T b/\w.cell? ⟨b,o+i,none⟩=some (iI l[i])
theorem FK.touch{T:Nat->Prop}(h:FK T w A l)(t:AB S w w')(hs:∀b,b<w.heap.size->S b->T b):FK T w' A l:=λi hi=>by
 obtain⟨b,o,e,hb,hT,hc⟩:=h i hi;exact⟨b,o,e,κ hb t.size,hT,(t.cell hb (λx=>hT (hs b hb x)) _).trans hc⟩
theorem FK.gr{T:Nat->Prop}(h:FK T w A l)(t:Gr w w'):FK T w' A l:=h.touch (t.touch (λ_=>False)) (λ_ _ h=>h.elim)
theorem FK.mono{T:Nat->Prop}(h:FK T w A l)(hs:∀b,b<w.heap.size->T' b->T b):FK T' w A l:=λi hi=>by
 obtain⟨b,o,e,hb,hT,hc⟩:=h i hi
 grind
def zs(l:List Int):List Value:=l.map λx=>iI x
theorem L5(h:i<l.length):(zs l)[i]?=some (iI l[i]):=by simp[zs,h]
structure CA(w:World)(S:Nat->Prop)(s:Nat)(l:List Int)(R:Nat)(lost:Bool):Prop where
 ss:S s
 r1:1<=R/\R<=4096
 le:l.length<=R
 row:∃vl hi,Rec w s 265 [vl,iI R,iI hi,.bool lost]/\w.ownsRow 0 3 1 vl l.length (zs l)/\∀g,vl.ownBlock=some g->S g
theorem CA.touch{T:Nat->Prop}{s:Nat}(h:CA w S s l R b)(t:AB T w w')(hS:∀k,S k->k<w.heap.size->¬T k):CA w' S s l R b:=by
 obtain⟨h1,h2,h3,vl,hi,hr,ho,hs⟩:=h;exact⟨h1,h2,h3,vl,hi,hr.touch t (hS _ h1 hr.lt),BX ho t (λg hg=>hS g (hs g hg) (BE ho hg).2),hs⟩
theorem CA.gr{s:Nat}(h:CA w S s l R b)(t:Gr w w'):CA w' S s l R b:=h.touch (t.touch (λ_=>False)) (λ_ _ _ h=>h)
theorem CA.mono{T:Nat->Prop}{s:Nat}(h:CA w S s l R b)(hT:∀k,S k->T k):CA w T s l R b:=by
 obtain⟨h1,h2,h3,vl,hi,hr,ho,hs⟩:=h;exact⟨hT _ h1,h2,h3,vl,hi,hr,ho,λg hg=>hT g (hs g hg)⟩
theorem CA.cut{s:Nat}(h:CA w S s l R b):CA w (AC S w) s l R b:=by
 obtain⟨h1,h2,h3,vl,hi,hr,ho,hs⟩:=h;exact⟨⟨h1,hr.lt⟩,h2,h3,vl,hi,hr,ho,λg hg=>⟨hs g hg,(BE ho hg).2⟩⟩
section
variable{s:Nat}
theorem JIb(h:CA w S s l R lost):cQ 265 #[pP s] w (iI (l.length:Nat)):=by
 obtain⟨h1,h2,h3,vl,hi,hr,ho,hs⟩:=h;obtain⟨A,c,rfl,hc1,hc2⟩:=C7 ho;have c0:=hr.cc 0;go_enter func265,ntmps265;go_wp2;go_ret
 simp_all
theorem XPh(h:CA w S s l R lost):cQ 180 #[pP s] w (.bool lost):=by
 obtain⟨h1,h2,h3,vl,hi,hr,ho,hs⟩:=h;have c3:=hr.cc 3;go_enter func180,ntmps180;go_wp2;go_ret
 simp_all
theorem Qf8(h:CA w S s l R lost):Calls prog 181 #[pP s] w λe w'=>e=.returned (.tuple #[])/\AB S w w'/\CA w' S s l R false:=by
 obtain⟨h1,h2,h3,vl,hi,hr,ho,hs⟩:=h;have c3:=hr.cc 3;have f3:=hr.free 3;have HR:=hr;have HO:=ho;have HS:=hs;go_enter func181,ntmps181;go_wp2;refine ζz (ζl rfl _ _ _) rfl ?_;exact⟨rfl,(AB.refl S w).setCell (a:=⟨s,3,none⟩) (λ_=>h1) _,h1,h2,h3,vl,hi,Rec.set HR 3 _,AX HO _ (λg hg=>AQ HO HR (by decide) hg rfl),HS⟩
def Xjk(w:World)(S:Nat->Prop)(s:Nat)(l:List Int)(R:Nat)(lost:Bool)(e:Ending)(w':World):Prop:=
 (l=[]/\e=.returned (.tuple #[iI 0,.bool false])/\w=w')\/(∃l' a,l=l'++[a]/\e=.returned (.tuple #[iI a,.bool true])/\AB S w w'/\CA w' S s l' R lost)
theorem ZtN(h:CA w S s l R lost):Calls prog 231 #[pP s] w (Xjk w S s l R lost):=by
 have HL:=(JIb h);obtain⟨h1,h2,h3,vl,hi,hr,ho,hs⟩:=h;rcases List.eq_nil_or_concat l with rfl|⟨l',a,rfl⟩
 ·go_enter func231,ntmps231;go_wp2_with(go_at_call 265;refine HL.mono ?_;rintro e w1 ⟨rfl,rfl⟩);go_ret2;exact .inl ⟨rfl,rfl,rfl⟩
 ·rw[List.concat_eq_append]at *
  have Y:(l'++[a]).length=l'.length+1:=by simp
  rw[Y]at HL ho h3;obtain⟨g,c,rfl,-,J,U,-⟩:=E6 ho Ω;unfold maxLen at U;have c0:=hr.cc 0;have f0:=hr.free 0;have kb:=BS ho (j:=l'.length) (u:=iI a) (by simp[zs]);have HR:=hr;have HO:=ho;have HS:=hs;obtain⟨N,hN⟩:∃N,N=l'.length:=⟨_,rfl⟩;rw[<-hN]at HL c0 kb h3 J;have HN:=ι hN;clear hr ho hs Y hN;go_enter func231,ntmps231;go_wp2_with(go_at_call 265;refine HL.mono ?_;rintro e w1 ⟨rfl,rfl⟩);go_ret2;refine .inr ⟨l',a,rfl,rfl,(AB.refl S w).setCell (a:=⟨s,0,none⟩) (λ_=>h1) _,h1,h2,by have:=HN.o;omega,.slice (some ⟨g,0,none⟩) N c,hi,Rec.set HR 0 _,?_,λg' hg=>HS g' hg⟩;have Z:=HO;rw[show zs (l'++[a])=zs l'++[iI a]by unfold zs;rw[ζ1];rfl]at Z;have hp:=Y9 Z;rw[HN.o];exact AX hp _ (λg' hg=>AQ hp HR (by decide) hg rfl)
def Zxv(w:World)(R:Int)(e:Ending)(w':World):Prop:=
 ((R<1\/4096<R)/\e=.returned (.tuple #[.pointer none,iI 5])/\w=w') ∨
 (1<=R/\R<=4096/\e=.returned (.tuple #[pP w.heap.size,iI 0])/\Gr w w'/\CA w' (λk=>w.heap.size<=k) w.heap.size [] R.toNat false)
theorem VgV(R:Int)(w:World):Calls prog 126 #[iI R] w (Zxv w R):=by
 rcases(by omega:R<1\/(1<=R/\4096<R)\/(1<=R/\R<=4096))with h|h|h
 ·go_enter func126,ntmps126;go_wp2;go_ret2;exact .inl ⟨.inl h,rfl,rfl⟩
 ·go_enter func126,ntmps126;go_wp2;go_ret2;exact .inl ⟨.inr h.2,rfl,rfl⟩
 ·obtain⟨m,rfl⟩:∃m:Nat,R=m:=⟨R.toNat,by omega⟩;go_enter func126,ntmps126;go_wp2;go_ret2;refine .inr ⟨h.1,h.2,rfl,(Gr.refl w).alloc _,ϑ _,?_,ζf _,.slice none 0 0,0,?_,GP _ _ _ _,(λg hg=>by cases hg)⟩
  ·omega
  grind [Rec.new]
theorem PV:(prog.info? 3).map (λi=>(i.zero,i.size,i.bytes))=some (some (iI 0),1,8):=by kernel_rfl
def Jva(w:World)(S:Nat->Prop)(s:Nat)(l:List Int)(R:Nat)(lost:Bool)(a:Int)(e:Ending)(w':World):Prop:=
 (R<=l.length/\e=.returned (.bool false)/\AB S w w'/\CA w' (plus S w) s l R true)\/(l.length<R/\e=.returned (.bool true)/\AB S w w'/\CA w' (plus S w) s (l++[a]) R lost)
theorem Y4L(h:CA w S s l R lost)(a:Int):Calls prog 230 #[pP s,iI a] w (Jva w S s l R lost a):=by
 obtain⟨h1,h2,h3,vl,hi,hr,ho,hs⟩:=h;obtain⟨A,c,rfl,Xn,Xm⟩:=C7 ho;unfold maxLen at Xm;have hmax:=N8 prog;have c0:=hr.cc 0;have c1:=hr.cc 1;have c3:=hr.cc 3;have f3:=hr.free 3;have hsl:=hr.lt;have HR:=hr;have HO:=ho;have HS:=hs;obtain⟨N,hN⟩:∃N,N=l.length:=⟨_,rfl⟩;rw[<-hN]at c0 h3 Xn;have HN:=ι hN;have z0:∀m,(w.drewN m).cell? ⟨s,0,none⟩=some (.slice A N c):=λm=>c0;have z1:∀m,(w.drewN m).cell? ⟨s,1,none⟩=some (iI R):=λm=>c1;have z3:∀m,(w.drewN m).cell? ⟨s,3,none⟩=some (.bool lost):=λm=>c3;have zf:∀m,(w.drewN m).frozen? ⟨s,3,none⟩=false:=λm=>f3;clear hr ho hs hN;by_cases Y:R<=N
 ·have d0:decide (R<=N)=true:=θ Y;go_enter func230,ntmps230;go_wp2;go_quiet (fail);go_wp2;go_ret;have hg:Gr w (w.drewN nq):=(Gr.refl w).drewN nq;refine .inl ⟨by rw[<-HN.o];exact Y,rfl,(hg.touch S).setCell (a:=⟨s,3,none⟩) (λ_=>h1) _,.inl h1,h2,by rw[<-HN.o];exact h3,_,hi,Rec.set (HR.gr hg) 3 _,AX (CL HO hg) _ (λg hg'=>AQ HO HR (by decide) hg' rfl),λg hg'=>.inl (HS g hg')⟩
 ·have d0:decide (R<=N)=false:=ζ Y;obtain⟨ii,Xh,Xg,Xo,Xl⟩:=info_parts PV;go_enter func230,ntmps230;go_wp2;go_quiet (fail);have hg:Gr w (w.drewN nq):=(Gr.refl w).drewN nq;have HG:=hg;have Xa:=CL HO hg;rw[<-HN.o]at Xa;have Xb:=Xa;have Xc:=(HR.gr hg);clear hg Xa z0 z1 z3 zf;go_wp2_with(at_builtin;refine wpList_append_lies _ rfl _ _ 70 rfl 0 3 ii _ 1 8 underlying70 Xh Xg Xo Xl rfl (by decide) (.slice A N c) N (zs l) rfl (Xb.alloc _) ⟨(w.drewN nq).heap.size,0,none⟩ 1 1 [iI a] rfl rfl (ξv (cs:=#[iI a]) (t:=3) (fr:=(0,0)) (heap_alloc_new (w.drewN nq) (.cells #[.int .i64 a] 3))) (by simp[Value.oneCell']) Ω (by unfold maxLen;omega) Ω (ζf _) ((w.drewN nq).heap.size+1) (by simp) ?_;intro g2 c2 w2 U Z E D;have t2:AB (λk=>(Value.slice A N c).ownBlock=some k) (w.drewN nq) w2:=(((Gr.refl _).alloc _).touch _).trans (DM Z _ (λk e _=>e));have V:=(Xc.touch t2 (λe=>AQ Xb Xc (by decide) e rfl rfl));have k0:=V.cc 0;have kf:=V.free 0;have Xj:=t2;have Xe:=U;have Xk:=(ψ E D);clear U Z E D t2);obtain⟨W3,J⟩:∃W3,W3=w2.setCell ⟨s,0,none⟩ (.slice (some ⟨g2,0,none⟩) (N+1) c2):=⟨_,rfl⟩;rw[<-J];have R3:Rec W3 s 265 [.slice (some ⟨g2,0,none⟩) (N+1) c2,iI R,iI hi,.bool lost]:=by rw[J];exact Rec.set V 0 _
  have O3:=AX (q:=s) (j:=0) Xe (.slice (some ⟨g2,0,none⟩) (N+1) c2) (λg hg=>AQ Xe V (by decide) hg rfl);rw[<-J]at O3
  have T3:AB S w W3:=by
   rw[J];exact((HG.touch S).trans (Xj.mono (λk _ hk=>HS k (by rw[<-HN.o];exact hk)))).setCell (a:=⟨s,0,none⟩) (λ_=>h1) _
  have y0:=R3.cc 0;have y2:=R3.cc 2;have yf:=R3.free 2;have Xf:=(ψ R3 (ψ O3 T3));have hsz:(w.drewN nq).heap.size=w.heap.size:=rfl;clear J R3 O3 T3 k0 kf c0 c1 c3 f3;obtain⟨Sx,I⟩:∃Sx:World->Prop,Sx=λW'=>W'.cell? ⟨s,0,none⟩=some (.slice (some ⟨g2,0,none⟩) (N+1) c2)/\W'.cell? ⟨s,2,none⟩=some (iI hi):=⟨_,rfl⟩;have x0:∀p':AA Sx,p'.w.cell? ⟨s,0,none⟩=some (.slice (some ⟨g2,0,none⟩) (N+1) c2):=λp'=>(AA.get I p').1;have x2:∀p':AA Sx,p'.w.cell? ⟨s,2,none⟩=some (iI hi):=λp'=>(AA.get I p').2;have B:Sx W3.drew:=by rw[I];exact⟨y0,y2⟩
  clear I;have Xd:Inhabited (AA Sx):=⟨⟨_,B⟩⟩;refine AI Sx 13 [([0,1,2,3,4,5,6,7,8,9,10,11,12],13)] [] B ?_;refine AE ?_;go_wp2;refine⟨.inl trivial,?_⟩;refine ET ?_;refine ζd ?_;refine ζI ?_;clear x0 x2 B Xd;clear Sx;go_wp2;go_ret;obtain⟨R3,O3,T3⟩:=Xf;have Xi:=Xk;refine .inr ⟨by rw[<-HN.o];omega,rfl,(T3.setCell (a:=⟨s,2,none⟩) (λ_=>h1) _).drew,.inl h1,h2,by rw[ζr,<-HN.o];simp;omega,.slice (some ⟨g2,0,none⟩) (N+1) c2,max hi ((N:Int)+1),Rec.gr (Rec.set R3 2 _) (Gr.refl _).drew,?_,λg hg=>?_⟩
  ·rw[ζr,<-HN.o,show zs (l++[a])=zs l++[iI a]by unfold zs;rw[ζ1];rfl];exact CL (AX O3 _ (λg hg=>AQ O3 R3 (by decide) hg rfl)) (Gr.refl _).drew
  ·cases hg;rcases Xi.1 with h|h
   ·exact .inl (HS _ (by rw[<-HN.o];exact h))
   ·right
    show w.heap.size<=g2
    omega
end
structure AW(w:World)(r g:Nat)(rs:List Int):Prop where
 rcd:Rec w r 186 [.slice (some ⟨g,0,none⟩) rs.length rs.length]
 row:w.ownsRow 0 3 1 (.slice (some ⟨g,0,none⟩) rs.length rs.length) rs.length (zs rs)
 ne:rs≠[]
 le:rs.length<=64
theorem YR5(l:List Int)(i:Nat)(a:Int):(zs l).set i (iI a)=zs (l.set i a):=by unfold zs;simp_all
theorem AW.touch{r:Nat}(h:AW w r g rs)(t:AB S w w')(h1:¬S r)(h2:¬S g):AW w' r g rs:=
 ⟨h.rcd.touch t h1,BX h.row t (λg' hg=>by cases hg;exact h2),h.ne,h.le⟩
theorem AW.gr{r:Nat}(h:AW w r g rs)(t:Gr w w'):AW w' r g rs:=⟨h.rcd.gr t,CL h.row t,h.ne,h.le⟩
theorem AW.lt{r:Nat}(h:AW w r g rs):r<w.heap.size/\g<w.heap.size:=⟨h.rcd.lt,(BE h.row rfl).2⟩
theorem AW.dif{r:Nat}(h:AW w r g rs):g≠r:=AQ h.row h.rcd (by decide) rfl rfl
theorem AW.set{r:Nat}(h:AW w r g rs)(i:Nat)(a:Int):AW (w.setCell ⟨g,i,none⟩ (.int .i64 a)) r g (rs.set i a):=by
 have hl:(rs.set i a).length=rs.length:=ζb;refine⟨?_,?_,λe=>h.ne ?_,by rw[hl];exact h.le⟩
 ·rw[hl];exact AX h.rcd _ (λg' hg e=>by cases hg;exact h.dif e.symm)
 ·rw[hl];have:=(World.ownsRow.stored h.row i (iI a)).1;rw[YR5]at this;exact this
 simp_all
theorem AW.cell{r:Nat}(h:AW w r g rs)(hi:i<rs.length):w.cell? ⟨g,i,none⟩=some (iI rs[i]):=BS h.row (L5 hi)
section
variable{r:Nat}
def slE(rs:List Int)(i:Int):Int:=if 0<=i/\i<rs.length then 0 else 17
theorem RI(h:AW w r g rs){b:Nat}{i:Int}(hc:w.cell? ⟨b,0,none⟩=some (iI i)):cQ 134 #[pP r,.slice (some ⟨b,0,none⟩) 1 1] w (iI (slE rs i)):=by
 have c0:=h.rcd.cc 0;have Y:=h.le;obtain⟨n,hn⟩:∃n,n=rs.length:=⟨_,rfl⟩;unfold slE;rw[<-hn]at c0 Y⊢;rcases(by omega:i<0\/(0<=i/\(n:Int)<=i)\/(0<=i/\i<n))with h1|h1|h1
 ·have e0:(if 0<=i/\i<(n:Int)then (0:Int)else 17)=17:=ξ Ω;rw[e0];go_enter func134,ntmps134;go_wp2
  go_loopw [11] (λs11 wr=>wr=w/\s11=iI 0) (λ_ _=>0)
  case atStart=>simp_all
  case round=>
   obtain⟨rfl,rfl⟩:=hrel;go_wp2;go_ret
   simp_all
 ·obtain⟨h1,h2⟩:=h1;have d0:decide (i<0)=false:=ζ Ω;have e0:(if 0<=i/\i<(n:Int)then (0:Int)else 17)=17:=ξ Ω;rw[e0];go_enter func134,ntmps134;go_wp2
  go_loopw [11] (λs11 wr=>wr=w/\s11=iI 0) (λ_ _=>0)
  case atStart=>simp_all
  case round=>
   obtain⟨rfl,rfl⟩:=hrel;go_wp2;go_ret
   simp_all
 ·obtain⟨h1,h2⟩:=h1;have d0:decide (i<0)=false:=ζ Ω;have e0:(if 0<=i/\i<(n:Int)then (0:Int)else 17)=0:=φ ⟨h1,h2⟩;rw[e0];go_enter func134,ntmps134;go_wp2
  go_loopw [11] (λs11 wr=>∃j:Nat,j<=1/\wr=w/\s11=iI j) (λs11 _=>1-(intOf s11).toNat)
  case atStart=>grind
  case round=>
   obtain⟨j,hj,rfl,rfl⟩:=hrel;rcases(by omega:j=0\/j=1)with rfl|rfl
   ·go_wp2;go_round
    case rel=>exact⟨1,by omega,trivial,by go_num⟩
    case measure=>simp[intOf]
   ·go_wp2;go_ret
    simp_all
theorem XO(h:AW w r g rs):cQ 188 #[pP r] w (iI (rs.length:Nat)):=by
 have c0:=h.rcd.cc 0;go_enter func188,ntmps188;go_wp2;go_ret
 simp_all
theorem ZS(h:AW w r g rs)(hi:i<rs.length):Calls prog 75 #[pP r,iI i] w λe w'=>e=.returned (.tuple #[iI rs[i],iI 0])/\Gr w w':=by
 have HC:=(RI (h.gr ((Gr.refl w).alloc (.cells #[.int .i64 i] 3))) (b:=w.heap.size) (i:=i) ((Rec.new w 3 [iI i]).cell (j:=0) rfl));rw[show slE rs i=0 from φ ⟨by omega,by omega⟩]at HC;have h':=h.gr ((Gr.refl w).alloc (.cells #[.int .i64 i] 3));have c0:=h'.rcd.cc 0;have c1:=h'.cell hi;go_enter func75,ntmps75;go_wp2_with(go_at_call 134;refine HC.mono ?_;rintro e w1 ⟨rfl,rfl⟩);go_ret2;exact⟨rfl,(Gr.refl w).alloc _⟩
theorem VHr(h:AW w r g rs)(hi:i<rs.length)(ha:0<=a):Calls prog 80 #[pP r,iI i,iI a] w λe w'=>e=.returned (iI 0)/\AB (λk=>k=g) w w'/\AW w' r g (rs.set i a):=by
 have HC:=(RI (h.gr ((Gr.refl w).alloc (.cells #[.int .i64 i] 3))) (b:=w.heap.size) (i:=i) ((Rec.new w 3 [iI i]).cell (j:=0) rfl));rw[show slE rs i=0 from φ ⟨by omega,by omega⟩]at HC;have h':=h.gr ((Gr.refl w).alloc (.cells #[.int .i64 i] 3));have HR:=h';have c0:=h'.rcd.cc 0;have c1:=h'.cell hi;have cf:=FF h'.row i;have d0:decide (a<0)=false:=ζ Ω;go_enter func80,ntmps80;go_wp2_with(go_at_call 134;refine HC.mono ?_;rintro e w1 ⟨rfl,rfl⟩);go_ret;exact⟨rfl,AB.setCell (S:=λk=>k=g) (((Gr.refl w).alloc _).touch _) (a:=⟨g,i,none⟩) (λ_=>rfl) _,HR.set i a⟩
theorem YSY(n:Nat):(madeCells #[iI 0] n).toList=zs (List.replicate n 0):=by
 unfold madeCells zs;apply ξs
 ·simp
 grind
theorem QEf:(prog.info? 3).map (λi=>(i.zero,i.size,i.bytes))=some (some (iI 0),1,8):=by kernel_rfl
theorem YuH(h1:1<=n)(h2:n<=64)(w:World):Calls prog 43 #[iI n] w λe w'=>∃r g,e=.returned (.tuple #[pP r,iI 0])/\Gr w w'/\AW w' r g (List.replicate n 0)/\w.heap.size<=r/\w.heap.size<=g:=by
 obtain⟨i0,hi,J,V,hz2⟩:=info_parts QEf;have HB:Hid (i0.bytes*n<=281474976710656):=⟨by grind⟩;have HM:Hid (n<=maxLen):=⟨by unfold maxLen;omega⟩;have d0:decide ((n:Int)<1)=false:=ζ Ω;have d1:decide (64<(n:Int))=false:=ζ Ω;go_enter func43,ntmps43;go_wp2_with(at_make;refine wpList_make_full _ rfl _ _ 70 rfl w.heap.size 3 i0 (iI 0) 1 underlying70 hi J V .i64 .i64 _ _ n rfl rfl ?h1 ?h2 HB.o HM.o (ϑ _) ?h3)
 case h1=>omega
 case h2=>omega
 case h3=>
  intro w1 Z Y;have U:Gr w w1:=(KD Y (λ_=>False) (λk e _=>by cases e)).gr;have HO:=Z;have HG:=U;go_wp2;go_ret2;have hl:(List.replicate n (0:Int)).length=n:=ζT;refine⟨w1.heap.size,w.heap.size,BP rfl rfl,HG.alloc _,⟨?_,?_,λe=>?_,by omega⟩,HG.size,ϑ _⟩
  ·grind [Rec.new]
  ·rw[hl];have:=CL (RZ HO) ((Gr.refl w1).alloc (.cells #[.slice (some ⟨w.heap.size,0,none⟩) n n] 186))
   grind [YSY]
  grind
theorem Qgq{b cap:Nat}(hn:n=l.length)(hn0:n≠0)(hb:b<w.heap.size)(hc:∀i (h:i<l.length),w.cell? ⟨b,i,none⟩=some (iI l[i]))(hl:n<=64):
  Calls prog 131 #[.slice (some ⟨b,0,none⟩) n cap] w λe w'=>∃g c,e=.returned (.slice (some ⟨g,0,none⟩) n c)/\Gr w w'/\w.heap.size<=g/\w'.ownsRow 0 3 1 (.slice (some ⟨g,0,none⟩) n c) n (zs l):=by
 obtain⟨i0,hi,D,Xb,B⟩:=info_parts QEf;have hsn:=Lib.run_eql_slice_nil (P:=prog) w 70 3 (some ⟨b,0,none⟩) n cap 0 0 underlying70
 have U:(w.alloc (.cells #[] 3)).ownsRow w.heap.size 3 1 (.slice (some ⟨w.heap.size,0,none⟩) 0 0) 0 []:=
  ⟨rfl,.inr ⟨w.heap.size,0,#[],rfl,ϑ _,heap_alloc_new w _,ϑ _,by unfold maxLen;omega,rfl,rfl⟩⟩
 have Z:∀(j:Nat) (u:Value),(zs l)[j]?=some u->(w.alloc (.cells #[] 3)).cell? (Addr.add ⟨b,0,none⟩ j)=some u:=λj u hj=>by
  have E:j<l.length:=by
   rcases υ j l.length with h|h
   ·exact h
   ·rw[ζN (by simpa[zs]using h)]at hj;cases hj
  rw[L5 E]at hj;cases hj;have e:Addr.add ⟨b,0,none⟩ j=⟨b,j,none⟩:=by unfold Addr.add;split <;> simp_all
  rw[e,ψz (h:=hb),hc j E]
 have I:∀u∈zs l,u.oneCell'=true:=λu hu=>by
  obtain⟨i,_,rfl⟩:=ζK.1 hu;rfl
 have HO:=U;have HC:=Z;have H1:=I;have HL:=ι (show n=(zs l).length by rw[hn];simp[zs]);have HN0:=hn0;clear U Z I hn0 hc hn;go_enter func131,ntmps131;go_wp2_with(at_builtin;(refine wpList_append_own _ rfl _ _ 70 rfl w.heap.size 3 i0 (iI 0) 1 8 underlying70 hi D Xb B rfl (by decide) _ _ _ rfl HO ⟨b,0,none⟩ n cap (zs l) rfl (by rw[<-HL.o];omega) HC H1 (by unfold maxLen;omega) Ω (by simp) ?_);intro v' w1 Y V _;obtain⟨g,c,hv,Xa,hg2,hg3⟩:=YS7 Y Ω;subst hv);go_ret;have J:(w.alloc (.cells #[] 3)).grownBy w1 (some w.heap.size):=V;refine⟨g,c,by simp,?_,Xa,by simpa using RZ Y⟩;refine AB.gr ((((Gr.refl w).alloc _).touch _).trans' (KD J (λk=>k=w.heap.size) (λk e _=>by cases e;rfl)) ?_);rintro i hi rfl;omega
theorem S9(h:AW w r g rs):Calls prog 69 #[pP r] w λe w'=>∃g c,e=.returned (.slice (some ⟨g,0,none⟩) rs.length c)/\Gr w w'/\w.heap.size<=g/\w'.ownsRow 0 3 1 (.slice (some ⟨g,0,none⟩) rs.length c) rs.length (zs rs):=by
 have c0:=h.rcd.cc 0;have Y:=(Qgq (w:=w) (b:=g) (cap:=rs.length) rfl (λe=>h.ne (ζy e)) h.lt.2 (λi hi=>h.cell hi) h.le);go_enter func69,ntmps69;go_wp2_with(go_at_call 131;refine Y.mono ?_;rintro e w1 ⟨g1,c1,rfl,J,V,ho⟩;have I:=J;have U:=V;have Z:=ho);go_ret;exact⟨g1,c1,rfl,I,U,Z⟩
end
section
variable{r:Nat}
def ZCk(g r:Nat)(rs:List Int)(i:Nat)(out:List Int)(J:Nat->World->List Int->Prop)(e:Ending)(W':World):Prop:=
 ∃b:Int,e=.returned (iI b)/\AW W' r g (out++rs.drop i)/\∀W'',AB (λk=>k=g) W' W''->J (i+1) W'' (out++[max b 0])
theorem V3M{out:List Int}(hi:i<rs.length)(ho:out.length=i)(b:Int):(out++rs.drop i).set i b=(out++[b])++rs.drop (i+1):=by
 subst ho;rw[List.set_append_right _ _ (ϑ _),Nat.sub_self,ξK hi,ζv,ξu];rfl
theorem Vy9{out:List Int}(hi:i<rs.length)(ho:out.length=i)(h:i<(out++rs.drop i).length):(out++rs.drop i)[i]=rs[i]:=by
 simp_all
theorem X7{F:Nat}{pre caps:Array Value}(J:Nat->World->List Int->Prop)(hcf:∀args w,(callFunc F args).run prog w=.ok (.enter F args) w)
  (h:AW w r g rs) (h0:J 0 w [])
  (hz:∀i (hi:i<rs.length) W out,out.length=i->J i W out->rs[i]=0->J (i+1) W (out++[0]))
  (hF:∀i (hi:i<rs.length) W out,out.length=i->J i W out->AW W r g (out++rs.drop i)->rs[i]≠0->∀W0,Gr W W0->Calls prog F (pre++#[iI rs[i]]++caps) W0 (ZCk g r rs i out J)):
  Calls prog 151 #[pP r,.func (.func F) pre caps] w λe w'=>e=.returned (.tuple #[])/\∃out,out.length=rs.length/\J rs.length w' out/\AW w' r g out:=by
 have Xi:=h.le;obtain⟨n,hn⟩:∃n,n=rs.length:=⟨_,rfl⟩;have c0:=h.rcd.cc 0;have HN:=hn;have HR:=ι h;have Xf:=ι h0;have HZ:=hz;have HF:=hF;rw[<-hn]at c0 Xi⊢;go_enter func151,ntmps151;go_wp2
 go_loopw [13] (λs13 wr=>∃(i:Nat) (out:List Int),i<=n/\Hid (out.length=i)/\Hid (J i wr out)/\Hid (AW wr r g (out++rs.drop i))/\s13=iI i) (λs13 _=>n-(intOf s13).toNat)
 case atStart=>exact⟨0,[],by omega,⟨rfl⟩,Xf,HR,rfl⟩
 case round=>
  obtain⟨i,out,hi,HO,HJ,HT,rfl⟩:=hrel;by_cases Z:i=n
  ·subst Z;go_wp2;refine ζz (ζl rfl _ _ _) rfl ?_;refine⟨rfl,out,HO.o,HJ.o,?_⟩;have:=HT.o;rw[HN,List.drop_length,List.append_nil]at this;exact this
  ·have Xb:i<rs.length:=by have:=HN;omega
   have Y:(out++rs.drop i).length=n:=by have:=HO.o;have:=HN;simp;omega
   have hiI:(i:Int)<(n:Int):=Ω
   have c1:=HT.o.cell (i:=i) (by rw[Y];omega);rw[Vy9 Xb HO.o]at c1;obtain⟨a,ha⟩:∃a,a=rs[i]:=⟨_,rfl⟩;have HA:=ι ha;have D:=Xb;have Xe:=Y;have V:=Z;rw[<-ha]at c1;clear ha Z;by_cases Xa:a=0
   ·subst Xa;clear Y;go_wp2;go_round
    case rel=>
     refine⟨i+1,out++[0],by have:=V;omega,⟨by have:=HO.o;simp[this]⟩,⟨HZ i D _ out HO.o HJ.o HA.o.symm⟩,⟨?_⟩,by go_num⟩;have:=HT.o;rw[ξK D,<-HA.o]at this;simpa using this
    case measure=>have:=V;simp[intOf];omega
   ·have d0:(a !=0)=true:=by simpa using Xa
    have U:=(HF i D wr out HO.o HJ.o HT.o (by rw[<-HA.o];exact Xa) _ (Gr.refl wr).drew);rw[<-HA.o]at U;unfold ZCk at U;have y0:=HT.o.rcd.cc 0;rw[Y]at y0;have hrl:=HT.o.lt;clear Y;go_upto_region 5 with(fail);obtain⟨Sx,E⟩:∃Sx:World->Prop,Sx=λW'=>W'.cell? ⟨r,0,none⟩=some (.slice (some ⟨g,0,none⟩) n n):=⟨_,rfl⟩;have x0:∀p':AA Sx,p'.w.cell? ⟨r,0,none⟩=some (.slice (some ⟨g,0,none⟩) n n):=λp'=>AA.get E p';have B:Sx wr.drew:=by rw[E];exact y0
    have Xj:=ι E;clear E;have Xc:Inhabited (AA Sx):=⟨⟨_,B⟩⟩;have hmax:=N8 prog;refine AI Sx 10 [([0,1,2,3,4,5,6],7),([8,9],10)] [] B ?_;refine AE ?_;go_wp2_with(refine U.mono ?_;rintro e w3 ⟨b,rfl,I,Xd⟩;have Xg:=I;have Xh:=Xd;have z0:=I.rcd.cc 0;have z1:=I.cell (i:=i) (by rw[Xe];have:=V;omega);have zf:=FF I.row i;rw[Xe]at z0;clear I Xd);refine⟨.inr (AA.of (by rw[Xj.o];exact z0)),?_⟩;refine AE ?_;go_wp2;refine⟨.inl trivial,?_⟩;refine ET ?_;refine ζd ?_;refine ζI ?_;clear x0 B Xc;go_wp2;go_round
    case rel=>
     refine⟨i+1,out++[max b 0],by have:=V;omega,⟨by have:=HO.o;simp[this]⟩,⟨Xh _ ?_⟩,⟨?_⟩,by go_num⟩
     ·exact AB.setCell (S:=λk=>k=g) (AB.refl _ _) (a:=⟨g,i,none⟩) (λ_=>rfl) _
     ·have:=Xg.set i (max b 0);rw[V3M D HO.o]at this;exact this
    case measure=>have:=V;simp[intOf];omega
end
def VY(K:Nat)(F:Fence)(n:Nat)(P:Program)(g:Nat)(lb:Array Value)(encs:α->Array Value)(Inv:σ->World->Prop)(gives:σ->α->Prop)(next:σ->α->σ->Prop)(fin:σ->Prop)(s0:σ)(w:World):Prop:=
 ∀(l:Nat) (J:σ->World->Prop) (Jx:World->Prop) (W:World),Gr w W->(∀s A B,J s A->AB (λk=>W.heap.size<=k/\k<W.heap.size+K) A B->J s B)->(∀A B,Jx A->AB (λk=>W.heap.size<=k/\k<W.heap.size+K) A B->Jx B)->(∀s A,J s A->Inv s A) →
  (∀s x W1,J s W1->W.heap.size+K<=W1.heap.size->gives s x->YieldAt F (n-1) P l (encs x) W1 λe W'=>((e=.returned (.bool true)/\∃s',next s x s'/\J s' W')\/(e=.returned (.bool false)/\Jx W'))/\AB (λk=>k<W.heap.size\/W.heap.size+K<=k) W1 W') →
  J s0 W->CallsIn F n P g (#[.func (.yield l) #[] #[]]++lb) W λe W'=>(∃v,e=.returned v)/\((∃s,fin s/\J s W')\/Jx W')
def Y3E(B K:Nat)(I:σ->World->Prop)(Ix:Code->World->Prop)(next:σ->α->σ->Prop)(s:σ)(x:α)(W:World):Exit->Act->World->Prop
 | .normal,_,W'=>AB (λk=>k<B\/B+K<=k) W W'/\∃s',next s x s'/\I s' W'
 | .ret,_,W'=>AB (λk=>k<B\/B+K<=k) W W'/\Ix .ret W'
 | .exit id,_,W'=>AB (λk=>k<B\/B+K<=k) W W'/\Ix (.exit id) W'
 | .goto t,_,W'=>AB (λk=>k<B\/B+K<=k) W W'/\Ix (.goto t) W'
 | _,_,_=>False
theorem NB.toU{encs:α->Array Value}{Inv:σ->World->Prop}{gives:σ->α->Prop}{next:σ->α->σ->Prop}{fin:σ->Prop}{s0:σ}(h:NB F n P g lb encs Inv gives next fin s0 w):VY 0 F n P g lb encs Inv gives next fin s0 w:=by
 intro l J Jx W hg hJ U hI hY h0;refine h l (λs A=>J s A/\W.heap.size<=A.heap.size) Jx W hg (λs A B hs hAB=>⟨hJ s A B hs.1 (hAB.touch _),β hs.2 hAB.size⟩) (λA B hs hAB=>U A B hs (hAB.touch _)) (λs A hs=>hI s A hs.1) ?_ ⟨h0,ϑ _⟩ |>.mono ?_
 ·rintro s x W1 ⟨hs,Y⟩ hx;refine(hY s x W1 hs Y hx).mono ?_;rintro e W' ⟨⟨he,s',hn,Z⟩|⟨he,hx'⟩,ht⟩
  ·exact .inl ⟨he,s',hn,Z,β Y ht.size⟩
  simp_all
 grind
theorem L3{g:Operand}{ps:Array Tmp}{assign body:Code}{a:Act}
  (hro:F.round=none) (h1:1<=n) {gf:Nat}  (hg:a.eval g=.func (.func gf) #[] lb) (hFg:F.fn gf) (eg:∀args w,(callFunc gf args).run P w=.ok (.enter gf args) w)
  {encs:α->Array Value} {Inv:σ->World->Prop} {gives:σ->α->Prop} {next:σ->α->σ->Prop} {fin:σ->Prop} {s0:σ}  (hseq:VY K F (n-1) P gf lb encs Inv gives next fin s0 w)
  (hps:∀x,(encs x).size=ps.size)
  (I:σ->World->Prop) (Ix:Code->World->Prop) (hI:∀s A B,I s A->AB (λk=>w.heap.size<=k/\k<w.heap.size+2+K) A B->I s B) (hIx:∀c A B,Ix c A->AB (λk=>w.heap.size<=k/\k<w.heap.size+2+K) A B->Ix c B)
  (hInv:∀s A,I s A->Inv s A) (h0:I s0 w)
  (hround:∀(l:Nat) (s:σ) (x:α) (W:World),w.heap.size+2+K<=W.heap.size->I s W->gives s x →
   assign.wpIn (F.inRound l) (n-1-1) P (Exit.then (λa' Wa=>Gr W Wa/\∀W2,AB (λk=>k=w.heap.size+1) Wa W2->I s W2->body.wpIn (F.inRound l) (n-1-1) P (Y3E w.heap.size (2+K) I Ix next s x W2) a' W2) (λ_ _ _=>False))
    {tmps:=(ps.zip (encs x)).foldl (λt (p,v)=>t.setIfInBounds p v) a.tmps,defers:=[]} W)
  (hdone:∀(D:Nat) (s:σ) (W:World),D=w.heap.size->fin s->I s W->W.heap[D]?=some (.deferred (some []))->Q .normal {a with defers:={target:=.collected D,args:=#[]} :: a.defers} W)
  (hstop:∀(D:Nat) (c:Code) (W:World),D=w.heap.size->Ix c W->W.heap[D]?=some (.deferred (some []))->c.wpIn F n P Q {a with defers:={target:=.collected D,args:=#[]} :: a.defers} W):
  (Code.rangeFunc g ps assign body).wpIn F n P Q a w:=by
 refine wpIn_rangeFunc ?_;intro fn Xl;rw[hro];obtain⟨Z,U⟩:∃Z:LoopState->Option Code->Loop,Z=λst pe=>{state:=st,pending:=pe,fn,tmps:=a.tmps,params:=ps,assign,body,defers:=w.heap.size}:=⟨_,rfl⟩;obtain⟨W1,Xd⟩:∃W1,(w.alloc (.deferred (some []))).alloc (.loop (Z .ready none))=W1:=⟨_,rfl⟩
 have Xm:W1.heap[w.heap.size+1]?=some (.loop (Z .ready none)):=by
  rw[<-Xd];have:=ξL (w.alloc (.deferred (some []))) (.loop (Z .ready none));rwa [γ]at this
 have Xn:W1.heap[w.heap.size]?=some (.deferred (some [])):=by
  rw[<-Xd];exact(Below.heap_alloc _ _ _ (by simp)).trans (ξL w _)
 have Xi:Gr w W1:=by rw[<-Xd];exact((Gr.refl w).alloc _).alloc _
 have tt:∀{A B:World},Gr A B->AB (λk=>w.heap.size<=k/\k<w.heap.size+2+K) A B:=λh=>h.touch _;have Y:∀{A:World} {k:Nat} {o:Obj},A.heap[k]?=some o->k<A.heap.size:=λh=>(ζs.1 h).1
 refine⟨w.heap.size+1,[{target:=.collected w.heap.size,args:=#[]}],W1,{target:=.fn (.func gf) lb,args:=#[.func (.yield (w.heap.size+1)) #[] #[]]},W1,gf,
  #[.func (.yield (w.heap.size + 1)) #[] #[]] ++ lb, W1, ?_, ?_, ?_, ?_, λ_ => h1, ?_⟩
 ·rw[<-Xd,U];exact run_enterLoop_outer _ _ _ _ _
 ·simp only[resolve,hg];simp[go_sem]
 ·intro f' Xk;simp[Target.leads]at Xk;subst Xk;exact hFg
 ·simp[invoke,go_sem,eg]
 ·have hs1:W1.heap.size=w.heap.size+2:=by rw[<-Xd];simp
  refine(hseq (w.heap.size+1)
   (λs W=>I s W/\W.heap[w.heap.size+1]?=some (.loop (Z .ready none))/\W.heap[w.heap.size]?=some (.deferred (some [])))
   (λW=>∃c,Ix c W/\W.heap[w.heap.size+1]?=some (.loop (Z .done (some c)))/\W.heap[w.heap.size]?=some (.deferred (some [])))
   W1 Xi
   (λs A B hs ht=>⟨hI s A B hs.1 (ht.mono (λk _ h=>by omega)),(ht.block _ (Y hs.2.1) Ω).trans hs.2.1,(ht.block _ (Y hs.2.2) Ω).trans hs.2.2⟩)
   (λA B hs ht=>by
    obtain⟨c,hc,hl,hk⟩:=hs
    exact⟨c,hIx c A B hc (ht.mono (λk _ h=>by omega)),(ht.block _ (Y hl) Ω).trans hl,(ht.block _ (Y hk) Ω).trans hk⟩)
   (λs A hs=>hInv s A hs.1) ?_ ⟨hI _ _ _ h0 (tt Xi),Xm,Xn⟩).mono ?_
  ·rintro s x W ⟨hi,hl,hk⟩ hszW Xp;have Xf:w.heap.size+1<W.heap.size:=Y hl;have hy:=run_yield (P:=P) (args:=encs x) hl (by rw[U];exact hps x);rw[U]at hy;refine⟨fn,_,assign,body,hy,roundIn_of_wpIn Xl (wpIn_mono (hround _ s x W Ω hi Xp) ?_)⟩;rintro e a' Wa hp;cases e with
   | normal=>?_
   | _=>exact False.elim hp
   obtain⟨Xc,Xb⟩:=hp
   replace hl:=(Xc.block Xf).trans hl
   replace hk:=(Xc.block Ω).trans hk
   replace Xf:=Y hl
   replace hi:=hI _ _ _ hi (tt Xc)
   revert Xb Xc;generalize W=W0;intro Xc Xb;obtain⟨W,rfl⟩:∃W,W=Wa:=⟨_,rfl⟩;refine⟨_,run_beginRound hl (by rw[U]),?_⟩;have Xg:(W.putObj (w.heap.size+1) (.loop {Z .ready none with state:=.busy})).heap[w.heap.size+1]?=some (.loop {Z .ready none with state:=.busy}):=ξE Xf;have Xh:(W.putObj (w.heap.size+1) (.loop {Z .ready none with state:=.busy})).heap[w.heap.size]?=some (.deferred (some [])):=(ζp Ω).trans hk;refine wpIn_mono (Xb _ ⟨rfl,rfl,rfl,by simp,λk _ hn=>ζp hn⟩ (hI _ _ _ hi ((DW W (w.heap.size+1) _).mono (λk _ h=>by omega)))) ?_
   have fin:∀(jump:Option Code) (W3:World),AB (λk=>k<w.heap.size\/w.heap.size+(2+K)<=k) (W.putObj (w.heap.size+1) (.loop {Z .ready none with state:=.busy})) W3 →
     (Instr.endRound (w.heap.size+1) jump).run P W3=.ok (.bool jump.isNone) (W3.putObj (w.heap.size+1) (.loop (Z (if jump.isNone then .ready else .done) jump))) ∧
     (W3.putObj (w.heap.size+1) (.loop (Z (if jump.isNone then .ready else .done) jump))).heap[w.heap.size+1]?=some (.loop (Z (if jump.isNone then .ready else .done) jump)) ∧
     (W3.putObj (w.heap.size+1) (.loop (Z (if jump.isNone then .ready else .done) jump))).heap[w.heap.size]?=some (.deferred (some [])):=λjump W3 J=>by
    have Xj:=(J.block _ (Y Xg) Ω).trans Xg;have:=run_endRound (P:=P) jump Xj;rw[U]at this⊢;exact⟨this,ξE (Y Xj),(ζp Ω).trans ((J.block _ (Y Xh) Ω).trans Xh)⟩
   have Xe:∀(o:Obj) (W3:World),AB (λk=>k<w.heap.size\/w.heap.size+(2+K)<=k) (W.putObj (w.heap.size+1) (.loop {Z .ready none with state:=.busy})) W3->AB (λk=>k<W1.heap.size\/W1.heap.size+K<=k) W0 (W3.putObj (w.heap.size+1) o):=λo W3 h3=>
    (((Xc.touch _).trans ((DW W (w.heap.size+1) _).mono (λk _ h=>by omega))).trans (h3.mono (λk _ h=>by omega))).trans ((DW W3 (w.heap.size+1) o).mono (λk _ h=>by omega))
   rintro e a3 W3 hp;cases e with
   | normal=>
    obtain⟨J,s',Xo,E⟩:=hp;obtain⟨hr,Xa,V⟩:=fin none W3 J;exact⟨_,_,hr,.inl ⟨rfl,s',Xo,hI _ _ _ E ((DW W3 (w.heap.size+1) _).mono (λk _ h=>by omega)),Xa,V⟩,Xe _ _ J⟩
   | ret=>
    obtain⟨J,E⟩:=hp;obtain⟨hr,Xa,V⟩:=fin (some .ret) W3 J;exact⟨_,_,hr,.inr ⟨rfl,.ret,hIx _ _ _ E ((DW W3 (w.heap.size+1) _).mono (λk _ h=>by omega)),Xa,V⟩,Xe _ _ J⟩
   | exit id=>
    obtain⟨J,E⟩:=hp;obtain⟨hr,Xa,V⟩:=fin (some (.exit id)) W3 J;exact⟨_,_,hr,.inr ⟨rfl,.exit id,hIx _ _ _ E ((DW W3 (w.heap.size+1) _).mono (λk _ h=>by omega)),Xa,V⟩,Xe _ _ J⟩
   | goto t=>
    obtain⟨J,E⟩:=hp;obtain⟨hr,Xa,V⟩:=fin (some (.goto t)) W3 J;exact⟨_,_,hr,.inr ⟨rfl,.goto t,hIx _ _ _ E ((DW W3 (w.heap.size+1) _).mono (λk _ h=>by omega)),Xa,V⟩,Xe _ _ J⟩
   | panic ch=>exact hp.elim
   | outgrown=>exact hp.elim
  ·rintro e W2 ⟨⟨v,rfl⟩,(⟨s,hS,hi,hl,hk⟩|⟨c,hi,hl,hk⟩)⟩
   ·exact⟨none,_,by have:=run_endLoop (P:=P) hl (by rw[U];simp);rw[U]at this;exact this,hdone _ s _ rfl hS (hI _ _ _ hi ((DW W2 (w.heap.size+1) _).mono (λk _ h=>by omega))) ((ζp Ω).trans hk)⟩
   ·exact⟨some c,_,by have:=run_endLoop (P:=P) hl (by rw[U];simp);rw[U]at this;exact this,hstop _ c _ rfl (hIx _ _ _ hi ((DW W2 (w.heap.size+1) _).mono (λk _ h=>by omega))) ((ζp Ω).trans hk)⟩
open Go.Shelf
section
attribute [local go_sem] Oper.semAt_some
theorem PC(n':Nat)(box m p1 b1 p2 b2 n:Nat)(L:List Ob)(w:World):
  VY 4 Fence.wide n' prog 213 #[pP box] GO (Zxj box m p1 b1 p2 b2 n L) (ER L) (λj _ j'=>j'=j+1) (λj=>j=L.length) 0 w:=by
 intro l J Jx W hg hJ Xp hI hY h0;refine δ.2 ((δ (n:=5)).1 ?_);refine callsIn_of_wp_marks func213 rfl trivial ?_ rfl;have I:=hI _ _ h0;have c0:=I.2.2.1;have k0:=I.1.c0;have Xt:=h0;have Xj:=hI;simp only[ntmps213,ζ0,ζu,ξc,Nat.reduceAdd,Nat.reduceSub,ζR,ζQ,ζ5,ζX,ζU,ζC];have hbox:box<W.heap.size:=AV c0;have hmw:=I.1.hm
 gi_wp2_with(first
  | (refine⟨trivial,?_⟩;gi_at_call 174;refine(δ.2 (DU (I.1.gr ((Gr.refl W).alloc _)))).mono ?_;rintro e w1 ⟨rfl,rfl⟩)
  | (refine⟨trivial,?_⟩;gi_at_call 214;refine(δ.2 (Xig (some ⟨p1,0,none⟩))).mono ?_;rintro e w1 ⟨rfl,rfl⟩))
 obtain⟨W0,Xc⟩:∃W0,W0=(W.alloc (.cells #[.func (.yield l) #[] #[]] 296)).alloc (.cells #[.pointer (some ⟨p1,0,none⟩)] 202):=⟨_,rfl⟩;have Xu:Gr W W0:=by rw[Xc];exact((Gr.refl W).alloc _).alloc _
 have hsz0:W0.heap.size=W.heap.size+2:=by rw[Xc];simp
 have bY:W0.cell? ⟨W.heap.size,0,none⟩=some (.func (.yield l) #[] #[]):=by rw[Xc];exact((Boxed.new W _ _).alloc _).cell
 have bV:W0.cell? ⟨W.heap.size+1,0,none⟩=some (pP p1):=by
  rw[Xc];have:=Boxed.new (W.alloc (.cells #[.func (.yield l) #[] #[]] 296)) 202 (pP p1);rw[γ]at this;exact this.cell
 rw[<-Xc];have Y:=I.1.good;have hnb:=I.1.nb;have Xi:J 0 W0:=hJ _ _ _ Xt (Xu.touch _);have Xx:BA L ((0:Nat):Int)=0:=MH (ζf _) (λi hi h=>by omega) (λh=>by omega)
 have tI:∀s A B,MP n L J W.heap.size (W.heap.size+1) p1 (.func (.yield l) #[] #[]) s A->AB (λk=>W0.heap.size<=k/\k<W0.heap.size+2+0) A B->MP n L J W.heap.size (W.heap.size+1) p1 (.func (.yield l) #[] #[]) s B:=λs A B h t=>
  ⟨h.st,h.ps,by obtain⟨j,hj,e⟩:=h.j;exact⟨j,hJ _ _ _ hj (t.mono (λk _ h=>by omega)),e⟩,(t.cell (AV h.y) (by show ¬(W0.heap.size<=W.heap.size/\_);omega) 0).trans h.y,(t.cell (AV h.v) (by show ¬(W0.heap.size<=W.heap.size+1/\_);omega) 0).trans h.v⟩
 refine L3 (K:=0) (s0:=(B8 n L,0)) rfl Ω (gf:=254) (lb:=#[pP (W.heap.size+1)]) rfl trivial (enters_of func254 (by kernel_rfl) rfl)
  (ZNp _ (W.heap.size+1) p1 b1 n (B8 n L) _).toU (λ_=>rfl)
  (MP n L J W.heap.size (W.heap.size+1) p1 (.func (.yield l) #[] #[])) (λc A=>c=.ret/\Jx A) tI (λc A B h t=>⟨h.1,Xp _ _ h.2 (t.mono (λk _ h=>by omega))⟩)
  (λs A h=>by
   obtain⟨j,hj,-⟩:=h.j;have hi:=Xj _ _ hj
   exact⟨by rw[h.st];exact hi.1.v1,by rw[h.st,IQ],hi.2.1,h.v,h.ps⟩)
  ⟨rfl,ζf _,⟨0,Xi,Xx⟩,bY,bV⟩ ?round ?done ?stop
 case round=>
  intro lp s x W3 hsz3 Xg Yc;gi_wp2;refine⟨Gr.refl _,λW4 ht4 hI4=>?_⟩;obtain⟨E,Xl,⟨j,hj,U⟩,hy,hv⟩:=hI4;obtain⟨hx,Xn⟩:=Yc;have Xa:=Xj _ _ hj;rw[E]at hx Xn
  have Z:j<L.length:=by
   rcases υ j L.length with h|h
   ·exact h
   ·have:=XL Y (a:=(s.2:Int)) (by rw[U];omega);omega
  have Ya:x=L[j].1:=by
   have:=(NS Y (a:=(s.2:Int)) (by rw[U];exact Z)).1;rw[hx,this];congr 2
  subst Ya;have Xv:J j W4.drew:=hJ _ _ _ hj ((Gr.refl W4).drew.touch _);have Xq:W.heap.size+4<=W4.drew.heap.size:=by have:=ht4.size;show W.heap.size+4<=W4.heap.size;omega
  obtain⟨fn,tmps,assign,body,Xw,hR⟩:=ZVe (m':=2) (l2:=lp) (hY j L[j] W4.drew Xv Xq (η Z));have HZ:=(Q4 (Xa.1.gr (Gr.refl W4).drew) ((Gr.refl W4).drew.tab Xa.2.1.lt Xa.2.1) Z);have cbx:=Xa.2.2.1;have HS:=(ψ E (ψ U Z));clear E U hj Xa hx Xn Xg;dsimp only[GO]at Xw
  have Xr:=hR.mono (R':=λe W'=>∃bb:Bool,e=.returned (.bool bb)/\((bb=true/\J (j+1) W')\/(bb=false/\Jx W'))/\AB (λk=>k<W.heap.size\/W.heap.size+4<=k) W4.drew W') (by
   rintro e W' ⟨⟨he,s',rfl,Xy⟩|⟨he,hx⟩,ht⟩
   ·exact⟨true,he,.inl ⟨rfl,Xy⟩,ht⟩
   ·exact⟨false,he,.inr ⟨rfl,hx⟩,ht⟩)
  clear hR;gi_wp2;obtain⟨Sx,Xe⟩:∃S:World->Prop,S=λA=>A.cell? ⟨W.heap.size,0,none⟩=some (.func (.yield l) #[] #[]):=⟨_,rfl⟩;have x1:∀p:AA Sx,p.w.cell? ⟨W.heap.size,0,none⟩=some (.func (.yield l) #[] #[]):=λp=>AA.get Xe p;have Xb:Sx W4.drew:=by rw[Xe];exact hy
  have Xm:=ι Xe;clear Xe;have Xo:Inhabited (AA Sx):=⟨⟨_,Xb⟩⟩;refine GX Sx 7 [([0,1,3],2),([],4),([],5)] [6] (λ_=>trivial) Xb ?_;refine EL ?_;gi_wp2;refine⟨.inr (AA.of Xb),?_⟩;refine N3 ?_;simp only[AG,ν,π];refine ζd ?_;gi_wp2_with(refine⟨trivial,?_⟩;gi_at_call 215;refine(CallsIn.inRound lp (δ.2 HZ)).mono ?_;rintro e w' ⟨rfl,rfl⟩);refine⟨.inr (AA.of Xb),?_⟩;refine N3 ?_;simp only[AG,ν,π];refine ζd ?_;gi_wp2;refine Xr.mono ?_;rintro e W5 ⟨bb,rfl,Xf,Xd⟩;have Xk:=(Xd.cell (AV hy) (by show ¬(W.heap.size<W.heap.size\/W.heap.size+4<=W.heap.size);omega) 0).trans hy;have Yb:=(Xd.cell (AV hv) (by show ¬(W.heap.size+1<W.heap.size\/W.heap.size+4<=W.heap.size+1);omega) 0).trans hv;gi_wp2;refine⟨.inr (AA.of (by rw[Xm.o];exact Xk)),?_⟩;refine GM ?_;have T5:=(((Gr.refl W4).drew.touch (λk=>k<W0.heap.size\/W0.heap.size+(2+0)<=k)).trans (Xd.mono (λk _ h=>by omega)));have Xz:=(Y.sz _ (μ Z));clear x1 Xb Xm Xo Xr Xd;clear Sx;cases bb with
  | true=>
   have Xh:J (j+1) W5:=by
    rcases Xf with⟨_,h⟩|⟨h,_⟩
    ·exact h
    ·cases h
   clear Xf;gi_wp2;exact⟨T5,(B8 n L,L[j].1+1),rfl,rfl,by have:=Xz;show L[j].1+1<=n;omega,⟨j+1,Xh,by have:=ZjB Y Z;push_cast;exact this⟩,Xk,Yb⟩
  | false=>
   have Xh:Jx W5:=by
    rcases Xf with⟨h,_⟩|⟨_,h⟩
    ·cases h
    ·exact h
   clear Xf;gi_wp2;exact⟨T5,rfl,Xh⟩
 case done=>
  rintro D s W3 hD V Xg hK;obtain⟨E,Xl,⟨j,hj,U⟩,hy,hv⟩:=Xg
  have Z:¬j<L.length:=λh=>by
   have:=NS Y (a:=(s.2:Int)) (by rw[U];exact h);unfold VI at V;rw[E]at V;exact V this.2
  have Xs:j=L.length:=by have:=ON L (s.2:Int);omega
  have HE:=(ψ Xs hj);have HD:=hD;clear E Xl U hy hv V Xs hj hD Z;gi_wp2;refine⟨by simp,.inl ⟨_,_,rfl,run_takeDeferred hK,?_⟩⟩;refine⟨.tuple #[],ζl rfl _ _ _,⟨_,rfl⟩,.inl ⟨j,HE.1,hJ _ _ _ HE.2 ((DW W3 D _).mono (λk _ h=>by have:=HD;omega))⟩⟩
 case stop=>
  rintro D c W3 hD ⟨rfl,hx⟩ hK;have hK:=hK;have HD:=hD;clear hK hD;gi_wp2;refine⟨by simp,.inl ⟨_,_,rfl,run_takeDeferred hK,?_⟩⟩;refine⟨.tuple #[],ζl rfl _ _ _,⟨_,rfl⟩,.inr (Xp _ _ hx ((DW W3 D _).mono (λk _ h=>by have:=HD;omega)))⟩
end
structure MkC where
 k:Nat
 z:Sp
 m:Nat
 p1:Nat
 b1:Nat
 p2:Nat
 b2:Nat
 n:Nat
 g:Nat
 R:Nat
 wk:Nat
 B:Nat
variable{c:MkC}
def MkC.T(c:MkC)(G:Nat->Prop)(i:Nat):Prop:=i=c.k\/AR c.m c.b1 c.b2 i\/G i
structure DF(c:MkC)(SV G SW:Nat->Prop):Prop where
 sv':∀i,SV i->i<c.B/\¬c.T G i
 sw':∀i,SW i->i<c.B/\¬c.T G i
 tab':1<c.B/\¬c.T G 1
 p1':c.p1<c.B/\¬c.T G c.p1
 p2':c.p2<c.B/\¬c.T G c.p2
 k1:¬AR c.m c.b1 c.b2 c.k
 k2:¬G c.k
 kB:c.k<c.B
 mg:∀i,AR c.m c.b1 c.b2 i->¬G i
 mB:∀i,AR c.m c.b1 c.b2 i->i<c.B
 sd':∀i,c.z.D i->i<c.B/\¬c.T G i
theorem DF.sv(h:DF c SV G SW):∀i,SV i->¬c.T G i:=λi hi=>(h.sv' i hi).2
theorem DF.sw(h:DF c SV G SW):∀i,SW i->¬c.T G i:=λi hi=>(h.sw' i hi).2
theorem DF.sd(h:DF c SV G SW):∀i,c.z.D i->¬c.T G i:=λi hi=>(h.sd' i hi).2
theorem MkC.vm(hz:c.z.Ok)(hs:DF c SV G SW)(h:c.z.I v SV w)(t:AB T' w w')(hT:∀i,T' i->c.T G i):c.z.I v SV w':=hz.fr h t (λk _ hk=>⟨λh=>hs.sv k h (hT k hk),λh=>hs.sd k h (hT k hk)⟩) (λ_ h=>h)
theorem DF.tab(h:DF c SV G SW):¬c.T G 1:=h.tab'.2
theorem DF.p1(h:DF c SV G SW):¬c.T G c.p1:=h.p1'.2
theorem DF.p2(h:DF c SV G SW):¬c.T G c.p2:=h.p2'.2
theorem DF.plus(h:DF c SV G SW){w:World}(hw:c.B<=w.heap.size):DF c SV (plus G w) SW:=by
 have Y:∀i,i<c.B/\¬c.T G i->i<c.B/\¬c.T (Go.Proofs.YtbdimhlaaoadgaaGreatDoor.plus G w) i:=λi hi=>⟨hi.1,λht=>by
  rcases ht with h1|h1|h1|h1
  ·exact hi.2 (.inl h1)
  ·exact hi.2 (.inr (.inl h1))
  ·exact hi.2 (.inr (.inr h1))
  ·omega⟩
 exact⟨λi hi=>Y i (h.sv' i hi),λi hi=>Y i (h.sw' i hi),Y _ h.tab',Y _ h.p1',Y _ h.p2',h.k1,λh1=>h1.elim h.k2 (λh2=>by have:=h.kB;omega),h.kB,λi hi h1=>h1.elim (h.mg i hi) (λh2=>by have:=h.mB i hi;omega),h.mB,λi hi=>Y i (h.sd' i hi)⟩
def JG(c:MkC)(L:List Ob)(r vi:Int):List Value:=[c.z.v,pP c.m,pP c.g,pP c.wk,iI (L.length:Nat),iI (sizes L:Nat),iI r,iI vi]
structure BJ(w:World)(SV G SW:Nat->Prop)(c:MkC)(v:Vm)(s:MkS)(r vi:Int):Prop where
 vm:c.z.I v SV w
 ext:Ext w c.m c.p1 c.b1 c.p2 c.b2 c.n s.L
 stk:CA w G c.g s.st c.R s.lost
 wk:DS w SW c.wk c.z.v []
 row:Rec w c.k 213 (JG c s.L r vi)
 tab:AO w
 sep:DF c SV G SW
 bB:c.B<=w.heap.size
 zk:c.z.Ok/\¬c.z.M
theorem BJ.gr(h:BJ w SV G SW c v s r vi)(g:Gr w w'):BJ w' SV G SW c v s r vi:=
 ⟨h.zk.1.gr h.vm g,h.ext.gr g,h.stk.gr g,h.wk.gr g,h.row.gr g,g.tab h.tab.lt h.tab,h.sep,β h.bB g.size,h.zk⟩
theorem BJ.set(h:BJ w SV G SW c v s r vi){r' vi':Int}(hj:(JG c s.L r vi).set j u=JG c s.L r' vi'):BJ (w.setCell ⟨c.k,j,none⟩ u) SV G SW c v s r' vi':=by
 have t:AB (λi=>i=c.k) w (w.setCell ⟨c.k,j,none⟩ u):=(AB.refl (λi=>i=c.k) w).setCell (a:=⟨c.k,j,none⟩) (λ_=>rfl) u;have hs:=h.sep;refine⟨MkC.vm h.zk.1 hs h.vm t (λi e=>.inl e),?_,h.stk.touch t (λi hi _ e=>hs.k2 (e▸hi)),h.wk.touch t (λi hi _ e=>hs.sw i hi (.inl e)),hj▸h.row.set j u,t.tab h.tab.lt (λe=>hs.tab (.inl e)) h.tab,hs,β h.bB t.size,h.zk⟩;exact h.ext.touch t (λe=>hs.k1 (e▸.inl rfl)) (λe=>hs.p1 (.inl e)) (λe=>hs.k1 (e▸.inr (.inl rfl))) (λe=>hs.p2 (.inl e)) (λe=>hs.k1 (e▸.inr (.inr rfl)))
theorem PD(j:Nat)(u:Value):AB (c.T G) w (w.setCell ⟨c.k,j,none⟩ u):=(AB.refl _ w).setCell (a:=⟨c.k,j,none⟩) (λ_=>.inl rfl) u
def ES(w:World)(SV G SW:Nat->Prop)(c:MkC)(v:Vm)(P:MkS->Int->Int->Prop)(N:Prop)(e:Ending)(w':World):Prop:=
 AB (c.T G) w w'/\((e=.returned (.tuple #[])/\∃s r vi,BJ w' SV (plus G w) SW c v s r vi/\P s r vi)\/(e=.panicked [{v:=VSi 25 0,recovered:=false}]/\N/\∃s r vi,BJ w' SV (plus G w) SW c v s r vi))
section
variable{P:MkS->Int->Int->Prop}{N:Prop}
theorem BJ.sub{G':Nat->Prop}(h:BJ w SV G SW c v s r vi)(hg:∀i,G i->G' i)(hs:DF c SV G' SW):BJ w SV G' SW c v s r vi:=⟨h.vm,h.ext,h.stk.mono hg,h.wk,h.row,h.tab,hs,h.bB,h.zk⟩
theorem BJ.up(h:BJ w' SV G SW c v s r vi)(hw:c.B<=w.heap.size):BJ w' SV (plus G w) SW c v s r vi:=h.sub (λ_ h=>.inl h) (h.sep.plus hw)
theorem BJ.back(h:BJ w' SV (plus (plus G w0) w) SW c v s r vi)(hz:w0.heap.size<=w.heap.size)(hs:DF c SV G SW)(hw:c.B<=w0.heap.size):BJ w' SV (plus G w0) SW c v s r vi:=
 h.sub (λ_ h=>h.elim id (λh=>.inr (β hz h))) (hs.plus hw)
theorem JS{a b d:World}(h:AB (c.T G) a b)(k:AB (c.T (plus G a)) b d):AB (c.T G) a d:=
 h.trans' k (λi hi ht=>by
  rcases ht with h1|h1|h1|h1
  ·exact .inl h1
  ·exact .inr (.inl h1)
  ·exact .inr (.inr h1)
  ·omega)
theorem ES.ok(t:AB (c.T G) w w')(h:BJ w' SV (plus G w) SW c v s r vi)(p:P s r vi):ES w SV G SW c v P N (.returned (.tuple #[])) w':=⟨t,.inl ⟨rfl,s,r,vi,h,p⟩⟩
end
theorem VEk(L:List Ob)(o:Ob):sizes (DE L o)=sizes L+o.2:=by
 induction L with
 | nil=>simp[DE,sizes]
 | cons q t ih=>
  unfold DE
  split
  ·simp only[sizes];omega
  ·simp only[sizes,ih];omega
theorem Jqz(h:AP n L)(ha:Hs L a):A9 L a<L.length/\obS L (A9 L a)=a:=by
 obtain⟨o,ho,rfl⟩:=ha;obtain⟨j,hj,rfl⟩:=ζo ho;have hz:=(h.sz _ ho).1;rw[OW h hj (ψB _) Ω]
 grind [J3]
theorem Z8n(hn:¬Hs L a)(hf:A9 L a<L.length):obS L (A9 L a)≠a:=by
 rw[(J3 hf).1];exact λe=>hn ⟨_,μ hf,e⟩
theorem CA.set2(h:CA w G g l R b)(hk:¬G k):CA ((w.setCell ⟨k,i,none⟩ u).setCell ⟨k,j,none⟩ u') G g l R b:=
 (h.touch ((AB.refl (λx=>x=k) w).setCell (a:=⟨k,i,none⟩) (λ_=>rfl) u) (λ_ hx _ e=>hk (e▸hx))).touch ((AB.refl (λx=>x=k) _).setCell (a:=⟨k,j,none⟩) (λ_=>rfl) u') (λ_ hx _ e=>hk (e▸hx))
theorem VNW{z:Int}(he:DA L c.n a z=0):((JG c L r vi).set 4 (iI ((L.length:Nat)+1))).set 5 (iI ((sizes L:Nat)+z))=JG c (C2 L c.n a z) r vi:=by
 have hz:=(YLm he).1;have h1:=ZoS he;have h2:sizes (C2 L c.n a z)=sizes L+z.toNat:=by unfold C2;rw[φ he,VEk]
 unfold JG
 grind
theorem BJ.pushed{w4 w5:World}(h:BJ w SV G SW c v s r vi){L':List Ob}(t4:AB (AR c.m c.b1 c.b2) w w4)(x4:Ext w4 c.m c.p1 c.b1 c.p2 c.b2 c.n L')
  (t5:AB G ((w4.setCell ⟨c.k,4,none⟩ u).setCell ⟨c.k,5,none⟩ u') w5) (s5:CA w5 (plus G ((w4.setCell ⟨c.k,4,none⟩ u).setCell ⟨c.k,5,none⟩ u')) c.g st' c.R lost') (hm:((JG c s.L r vi).set 4 u).set 5 u'=JG c L' r vi):
  BJ w5 SV (plus G w) SW c v ⟨L',st',lost'⟩ r vi/\AB (c.T G) w w5:=by
 have hs:=h.sep
 have tk:AB (λi=>i=c.k) w4 ((w4.setCell ⟨c.k,4,none⟩ u).setCell ⟨c.k,5,none⟩ u'):=
  ((AB.refl (λi=>i=c.k) w4).setCell (a:=⟨c.k,4,none⟩) (λ_=>rfl) u).setCell (a:=⟨c.k,5,none⟩) (λ_=>rfl) u'
 have hz:w.heap.size<=((w4.setCell ⟨c.k,4,none⟩ u).setCell ⟨c.k,5,none⟩ u').heap.size:=β t4.size tk.size;have Y:¬G c.k:=hs.k2
 refine⟨⟨MkC.vm h.zk.1 hs (MkC.vm h.zk.1 hs (MkC.vm h.zk.1 hs h.vm t4 (λi e=>.inr (.inl e))) tk (λi e=>.inl e)) t5 (λi e=>.inr (.inr e)),?_,s5.mono (λi hi=>hi.imp id (λh'=>β hz h')),((h.wk.touch t4 (λi hi _ e=>hs.sw i hi (.inr (.inl e)))).touch tk (λi hi _ e=>hs.sw i hi (.inl e))).touch t5 (λi hi _ e=>hs.sw i hi (.inr (.inr e))),
   (hm▸((h.row.touch t4 hs.k1).set 4 u).set 5 u').touch t5 Y,?_,hs.plus h.bB,β h.bB (β hz t5.size),h.zk⟩,?_⟩
 ·have e1:=x4.touch tk (λe=>hs.k1 (e▸.inl rfl)) (λe=>hs.p1 (.inl e)) (λe=>hs.k1 (e▸.inr (.inl rfl))) (λe=>hs.p2 (.inl e)) (λe=>hs.k1 (e▸.inr (.inr rfl)));exact e1.touch t5 (hs.mg _ (.inl rfl)) (λe=>hs.p1 (.inr (.inr e))) (hs.mg _ (.inr (.inl rfl))) (λe=>hs.p2 (.inr (.inr e))) (hs.mg _ (.inr (.inr rfl)))
 ·have a1:=t4.tab h.tab.lt (λe=>hs.tab (.inr (.inl e))) h.tab;have a2:=tk.tab a1.lt (λe=>hs.tab (.inl e)) a1;exact t5.tab a2.lt (λe=>hs.tab (.inr (.inr e))) a2
 ·exact((t4.mono (λi _ hi=>.inr (.inl hi))).trans (tk.mono (λi _ hi=>.inl hi))).trans (t5.mono (λi _ hi=>.inr (.inr hi)))
theorem WZ(w:World)(k:Nat):cQ 229 #[pP k,.bool true] w (.tuple #[]):=by
 go_enter func229,ntmps229;go_wp2;refine ζz (ζl rfl _ _ _) rfl ?_
 simp_all
def Sp.Rd(z:Sp)(v:Vm)(a:Int):Prop:=(0<a->z.P a)/\∀i:Int,v.plE a i 1=0->z.P (a+1+i)
def XLt(s:MkS)(v:Vm)(rs:List Int)(c:MkC)(X:Int->Prop)(a r vi:Int)(s':MkS)(r' vi':Int):Prop:=CE v rs c.n c.R X s'/\DK s s'/\(a≠0->Hs s'.L a)/\r'=r/\vi'=vi
def Yr9(s:MkS)(v:Vm)(rs:List Int)(c:MkC)(X:Int->Prop)(a r:Int)(s':MkS)(r' _vi':Int):Prop:=CE v rs c.n c.R X s'/\DK s s'/\Cl v s'.L a/\r'=r
section
attribute [local go_sem] Oper.semAt_some
def LA(L:List Ob)(j:Nat):List Value:=zs ((L.take j).map λo=>(o.1:Int))
theorem QZB(h:j<L.length):LA L (j+1)=LA L j++[iI (L[j].1:Nat)]:=by
 unfold LA zs
 grind [ζ4]
theorem QrH{b b' E size:Nat}{v:Value}(h:w.ownsRow b E size v n xs)(hb:b'<=b):w.ownsRow b' E size v n xs:=by
 obtain⟨h1,h2⟩:=h;refine⟨h1,h2.imp id ?_⟩;rintro⟨g,Z,Y,e1,e2,e3⟩;exact⟨g,Z,Y,e1,β hb e2,e3⟩
structure StI(W0:World)(B:Nat)(L:List Ob)(j:Nat)(A:World):Prop where
 t:AB (λi=>i=B\/W0.heap.size<=i) W0 A
 jl:j<=L.length
 f0:A.frozen? ⟨B,0,none⟩=false
 row:∃vL,A.cell? ⟨B,0,none⟩=some vL/\A.ownsRow (W0.heap.size+6) 3 1 vL j (LA L j)
def JLP(w:World)(L:List Ob)(e:Ending)(w':World):Prop:=∃vL,e=.returned vL/\Gr w w'/\w'.ownsRow w.heap.size 3 1 vL L.length (LA L L.length)
theorem Yde{p1 b1 p2 b2:Nat}(hE:Ext w m p1 b1 p2 b2 n L)(hT:AO w)(c1:w.cell? ⟨k,1,none⟩=some (pP m)):
  Calls prog 182 #[pP k] w (JLP w L):=by
 have HE:=hE;have HT:=hT;have hkl:=AV c1;refine(δ (n:=5)).1 ?_;refine callsIn_of_wp_marks func182 rfl trivial ?_ rfl;simp only[ntmps182,ζ0,ζu,ξc,Nat.reduceAdd,Nat.reduceSub,ζR,ζQ,ζ5,ζX,ζU,ζC];gi_wp2_with(refine⟨trivial,?_⟩;gi_at_call 160;refine(δ.2 (KJ (some ⟨m,0,none⟩))).mono ?_;rintro e w1 ⟨rfl,rfl⟩);obtain⟨W2,I⟩:∃W2,W2=w.alloc (.cells #[.slice none 0 0] 70):=⟨_,rfl⟩;have Xo:Boxed W2 w.heap.size 70 (.slice none 0 0):=by rw[I];exact Boxed.new w _ _
 have Xl:Gr w W2:=by rw[I];exact(Gr.refl w).alloc _
 have Xi:W2.heap.size=w.heap.size+1:=by rw[I];simp
 rw[<-I];obtain⟨W0,U⟩:∃W0,W0=W2.alloc (.cells #[.pointer (some ⟨m,0,none⟩)] 120):=⟨_,rfl⟩;have Xa:Gr w W0:=by rw[U];exact Xl.alloc _
 have hsz:W0.heap.size=w.heap.size+2:=by rw[U];simp;omega
 have k1:Boxed W0 w.heap.size 70 (.slice none 0 0):=by rw[U];exact Xo.alloc _
 have k4:W0.cell? ⟨w.heap.size+1,0,none⟩=some (pP m):=by
  rw[U];have:=(Boxed.new W2 120 (pP m)).cell
  rwa [Xi]at this
 rw[<-U];have Y:=HE;have o1:=Y.hm;have o2:=Y.v1.hp;have o3:=Y.v1.hb;have o4:=Y.v2.hp;have o5:=Y.v2.hb;have o6:=HT.lt;have hnb:=Y.nb;have Xd:=Y.good;have hlen:=Xd.len;obtain⟨ii,Xh,Xg,Xs,Xj⟩:=info_parts PV
 have tI:∀j A B,StI W0 w.heap.size L j A->AB (λi=>W0.heap.size<=i/\i<W0.heap.size+2+4) A B->StI W0 w.heap.size L j B:=λj A B h t=>by
  have ht:=h.t.size;obtain⟨vL,hc,ho⟩:=h.row;exact⟨h.t.trans (t.mono (λi _ h=>.inr h.1)),h.jl,(t.frozen Ω (by show ¬(W0.heap.size<=w.heap.size/\_);omega) 0).trans h.f0,vL,(t.cell Ω (by show ¬(W0.heap.size<=w.heap.size/\_);omega) 0).trans hc,BX ho t (λg hg h=>by have:=(BE ho hg).1;omega)⟩
 refine L3 (K:=4) (s0:=0) rfl Ω (gf:=213) (lb:=#[pP (w.heap.size+1)]) rfl trivial (enters_of func213 (by kernel_rfl) rfl)
  (PC _ (w.heap.size+1) m p1 b1 p2 b2 n L _) (λ_=>rfl)
  (StI W0 w.heap.size L) (λ_ _=>False) tI (λ_ _ _ h _=>h)
  (λj A h=>⟨(HE.gr Xa).touch h.t Ω Ω Ω Ω Ω,(Xa.tab o6 HT).touch' h.t Ω,(h.t.cell Ω Ω 0).trans k4,h.jl⟩)
  ⟨AB.refl _ _,ζf _,k1.frozen,_,k1.cell,GP _ _ _ _⟩ ?round ?done ?stop
 case round=>
  intro lp j x W3 hsz3 J Z;dsimp only[GO];gi_wp2;refine⟨Gr.refl _,λW4 ht4 hI4=>?_⟩
  have Xc:j<L.length:=by
   rcases υ j L.length with h|h
   ·exact h
   ·unfold ER at Z;rw[ζN h]at Z;cases Z
  obtain rfl:x=L[j]:=by unfold ER at Z;rw[η Xc]at Z;exact(Option.some.inj Z).symm
  have E:=QZB Xc;obtain⟨y,hy⟩:∃y,y=L[j].1:=⟨_,rfl⟩;rw[<-hy]at E⊢;obtain⟨vL,hc,ho⟩:=hI4.row;have Xm:=hI4.f0;have hsz4:W0.heap.size+6<=W4.heap.size:=by have:=ht4.size;omega
  have Xq:=hI4;have HO:=ho;have Xp:=E;clear J hI4 E hy ho Z ht4;gi_wp2_with(gi_at_builtin;refine wpListIn_append_own _ rfl _ _ 70 rfl (W0.heap.size+6) 3 ii _ 1 8 underlying70 Xh Xg Xs Xj rfl (by decide) _ _ _ rfl (HO.alloc _) ⟨W4.heap.size,0,none⟩ 1 1 [iI (y:Nat)] rfl rfl (cell_one_new _ _ _) (by simp[Value.oneCell']) (by unfold maxLen;omega) Ω (by simp;omega) ?_;intro v' w5 V Xb _;obtain⟨A5,c5,rfl,-,-⟩:=C7 V;have t5:AB (λi=>W0.heap.size+6<=i) W4 w5:=((((Gr.refl W4).alloc _).touch _)).trans (DM Xb _ (λi e _=>(BE HO e).1));have Xn:=(t5.cell (b:=w.heap.size) Ω Ω 0).trans hc;have Xf:=(t5.frozen (b:=w.heap.size) Ω Ω 0).trans Xm;have Xe:=V;have Xr:=t5);have tt:AB (λi=>i=w.heap.size\/W0.heap.size+6<=i) W4 (w5.setCell ⟨w.heap.size,0,none⟩ (.slice A5 (j+1) c5)):=(Xr.mono (λi _ h=>.inr h)).setCell (a:=⟨w.heap.size,0,none⟩) (λ_=>.inl rfl) _;refine⟨tt.mono (λi _ h=>by omega),j+1,rfl,⟨Xq.t.trans (tt.mono (λi _ h=>h.imp id (λh=>by omega))),Xc,by rw[ξf];exact Xf,_,World.cell?_setCell_same' w5 ⟨w.heap.size,0,none⟩ _ (by rw[Xn];rfl),?_⟩⟩;rw[Xp];exact AX Xe _ (λg hg=>by have:=(BE Xe hg).1;omega)
 case done=>
  rintro D j W3 hD rfl J hK;obtain⟨vL,hc,ho⟩:=J.row;have HO:=ho;have HK:=hK;have HD:=hD;have Xk:=J;have hs3:=J.t.size;gi_wp2;refine⟨by simp,.inl ⟨_,_,rfl,run_takeDeferred HK,?_⟩⟩;refine⟨_,results_tmp rfl _ _ _,vL,rfl,(((Xa.touch (λ_=>False)).trans' Xk.t (λi hi h=>by omega)).trans' (DW W3 D _) (λi hi h=>by have:=HD;omega)).gr,?_⟩;exact QrH (BX HO (DW W3 D _) (λg hg h=>by have:=(BE HO hg).1;have:=HD;omega)) Ω
 simp_all
end
def MQ(s:MkS)(r vi:Int):Prop:=s.L=[]->r=1/\vi=0
theorem BJ.popped{st:List Int}(h:BJ w SV G SW c v ⟨L,st,lost⟩ r vi)(t:AB G w w')(s':CA w' G c.g st' c.R lost'):BJ w' SV G SW c v ⟨L,st',lost'⟩ r vi:=by
 have hs:=h.sep;have Y:¬G c.k:=hs.k2;exact⟨MkC.vm h.zk.1 hs h.vm t (λi e=>.inr (.inr e)),h.ext.touch t (hs.mg _ (.inl rfl)) (λe=>hs.p1 (.inr (.inr e))) (hs.mg _ (.inr (.inl rfl))) (λe=>hs.p2 (.inr (.inr e))) (hs.mg _ (.inr (.inr rfl))),s',h.wk.touch t (λi hi _ e=>hs.sw i hi (.inr (.inr e))),h.row.touch t Y,t.tab h.tab.lt (λe=>hs.tab (.inr (.inr e))) h.tab,hs,β h.bB t.size,h.zk⟩
def TK(st st':List Int)(a:Int)(b:Bool):Prop:=(b=true/\st=st'++[a])\/(b=false/\st=[]/\st'=[])
def VSm(w:World)(SV G SW:Nat->Prop)(c:MkC)(v:Vm)(s:MkS)(r vi:Int)(e:Ending)(w':World):Prop:=∃a b st',e=.returned (.tuple #[iI a,.bool b])/\AB (c.T G) w w'/\BJ w' SV G SW c v ⟨s.L,st',s.lost⟩ r vi/\TK s.st st' a b
theorem VPs(h:BJ w SV G SW c v s r vi):Calls prog 231 #[pP c.g] w (VSm w SV G SW c v s r vi):=by
 refine(ZtN h.stk).mono ?_;rintro e w' (⟨h0,rfl,rfl⟩|⟨l',a,h0,rfl,ht,hs⟩)
 ·refine⟨0,false,[],rfl,AB.refl _ _,?_,.inr ⟨rfl,h0,rfl⟩⟩;rw[<-h0];exact h
 ·exact⟨a,true,l',rfl,ht.mono (λi _ hi=>.inr (.inr hi)),BJ.popped (L:=s.L) (st:=s.st) (lost:=s.lost) h ht hs,.inl ⟨rfl,h0⟩⟩
def DrS(v:Vm)(rs:List Int)(c:MkC)(X:Int->Prop)(s:MkS)(a:Int)(b:Bool)(k:Nat):Prop:=
 ((b=false/\s.st=[]/\CE v rs c.n c.R X s)\/(b=true/\Hs s.L a/\CE v rs c.n c.R (λx=>X x\/x=a) s))/\2*c.n+s.st.length+(if b then 1 else 0)<=2*s.L.length+k
theorem DrS.of(h:CE v rs c.n c.R X s)(hp:TK s.st st' a b)(hk:2*c.n+s.st.length<=2*s.L.length+k):DrS v rs c X ⟨s.L,st',s.lost⟩ a b k:=by
 rcases hp with⟨rfl,h1⟩|⟨rfl,h1,rfl⟩
 ·have h':CE v rs c.n c.R X ⟨s.L,st'++[a],s.lost⟩:=by rw[<-h1];exact h
  refine⟨.inr ⟨rfl,h'.pop.2,h'.pop.1⟩,?_⟩
  grind
 ·refine⟨.inl ⟨rfl,rfl,by rw[<-h1];exact h⟩,?_⟩
  simp_all
def VA5(s:MkS)(v:Vm)(rs:List Int)(c:MkC)(X:Int->Prop)(r vi:Int)(s':MkS)(r' vi':Int):Prop:=CE v rs c.n c.R X s'/\DK s s'/\s'.st=[]/\(MQ s r vi->MQ s' r' vi')
theorem ZE{t:MkS}(h:DK s t)(hp:TK t.st st' a b):DK s ⟨t.L,st',t.lost⟩:=by
 refine⟨h.sub,h.len,h.los,?_⟩;have:=h.mea;rcases hp with⟨-,h1⟩|⟨-,h1,rfl⟩
 ·grind
 simp_all
theorem QHb(h:Hs L a):L≠[]:=by
 rintro rfl;obtain⟨o,ho,-⟩:=h;cases ho
theorem BJ.cut(h:BJ w SV G SW c v s r vi):BJ w SV (AC G w) SW c v s r vi:=by
 have hs:=h.sep;have Y:∀i,i<c.B/\¬c.T G i->i<c.B/\¬c.T (AC G w) i:=λi hi=>⟨hi.1,λht=>hi.2 (ht.imp id (λh=>h.imp id (λh=>h.1)))⟩
 exact⟨h.vm,h.ext,h.stk.cut,h.wk,h.row,h.tab,⟨λi hi=>Y i (hs.sv' i hi),λi hi=>Y i (hs.sw' i hi),Y _ hs.tab',Y _ hs.p1',Y _ hs.p2',hs.k1,λh=>hs.k2 h.1,hs.kB,λi hi h=>hs.mg i hi h.1,hs.mB,λi hi=>Y i (hs.sd' i hi)⟩,h.bB,h.zk⟩
def KZ(L:List Ob)(j:Nat)(a:Int):Prop:=∃o∈L.drop j,(o.1:Int)=a
theorem JmM(h:Hs L a):KZ L 0 a:=h
theorem J6E(h:j<L.length)(ha:KZ L j a):KZ L (j+1) a\/a=(L[j].1:Int):=by
 obtain⟨o,ho,rfl⟩:=ha;rw[ξK h]at ho;rcases ζi.1 ho with rfl|ho
 ·omega
 ·exact .inl ⟨o,ho,rfl⟩
theorem Jdx(a:Int):¬KZ L L.length a:=by
 rintro⟨o,ho,-⟩
 simp_all
theorem CE.found(h:CE v rs n R X s):CE v rs n R (KZ s.L 0) ⟨s.L,s.st,false⟩:=⟨h.mkd,h.st,h.r,λ_ ha=>.inr (.inr (.inr (JmM ha)))⟩
def s0:MkS:=⟨[],[],false⟩
def UC(v:Vm)(rs:List Int)(c:MkC)(j:Nat)(s:MkS)(r vi:Int):Prop:=CE v rs c.n c.R (λ_=>False) s/\s.st=[]/\(∀x∈rs.take j,x≠0->Hs s.L x)/\MQ s r vi/\(s.lost=true->s.L≠[])
def OE(v:Vm)(rs:List Int)(c:MkC)(s:MkS)(r vi:Int):Prop:=BM v rs c.n s.L/\MQ s r vi
theorem VUu(args:Array Value)(W:World):(callFunc 129 args).run prog W=.ok (.enter 129 args) W:=by kernel_rfl
def WO(z:Sp)(m g:Nat)(wk:Value)(L:List Ob)(r vi:Int):List Value:=[z.v,pP m,pP g,wk,iI (L.length:Nat),iI (sizes L:Nat),iI r,iI vi]
structure M3(w:World)(SV:Nat->Prop)(z:Sp)(k m p1 b1 p2 b2 n g:Nat)(v:Vm)(L:List Ob)(r vi:Int):Prop where
 zk:z.Ok
 vm:z.I v SV w
 ext:Ext w m p1 b1 p2 b2 n L
 tab:AO w
 row:∃wk,Rec w k 213 (WO z m g wk L r vi)
theorem M3.touch{z:Sp}{p1 b1 p2 b2:Nat}(h:M3 w SV z k m p1 b1 p2 b2 n g v L r vi)(t:AB S w w')(hv:∀i,SV i->¬S i)(hm:∀i,AR m b1 b2 i->¬S i)(h1:¬S p1)(h2:¬S p2)(ht:¬S 1)(hk:¬S k)(hd:∀i,z.D i->¬S i):M3 w' SV z k m p1 b1 p2 b2 n g v L r vi:=
 ⟨h.zk,h.zk.fr h.vm t (λi _ hi=>⟨λh=>hv i h hi,λh=>hd i h hi⟩) (λ_ h=>h),h.ext.touch t (hm _ (.inl rfl)) h1 (hm _ (.inr (.inl rfl))) h2 (hm _ (.inr (.inr rfl))),t.tab h.tab.lt ht h.tab,by obtain⟨wk,hr⟩:=h.row;exact⟨wk,hr.touch t hk⟩⟩
def QUw(a b c d:Int):Value:=.agg #[iI a,iI b,iI c,iI d]
theorem V7d(W:World)(blk off:Nat)(p q r s:Value)(h0:W.cell? ⟨blk,off,none⟩=some p)(h1:W.cell? ⟨blk,off+1,none⟩=some q)(h2:W.cell? ⟨blk,off+2,none⟩=some r)(h3:W.cell? ⟨blk,off+3,none⟩=some s):(loadVar 124 ⟨blk,off,none⟩).run prog W=.ok (.agg #[p,q,r,s]) W:=by
 have a1:(isAgg 124).run prog W=.ok true W:=by kernel_rfl
 have a2:(sizeOf 124).run prog W=.ok 4 W:=by kernel_rfl
 simp[loadVar,Sem.run_bind,a1,a2,Result.andThen,loadCells,go_sem,h0,h1,h2,h3]
section
variable{z:Sp}{p1 b1 p2 b2:Nat}{L0:List Ob}
theorem LF(w:World)(o:Obj)(T:Nat)(xs:List Value):Rec ((w.alloc o).alloc (.cells xs.toArray T)) (w.heap.size+1) T xs:=by
 have:=Rec.new (w.alloc o) T xs
 simp_all
theorem ZC(w:World)(o o':Obj)(T:Nat)(xs:List Value):Rec ((w.alloc o).alloc (.cells xs.toArray T)) (w.heap.size+1) T xs/\Rec (((w.alloc (.cells xs.toArray T)).alloc o')) w.heap.size T xs:=by
 have:=Rec.new (w.alloc o) T xs;rw[γ]at this;exact⟨this,(Rec.new w T xs).gr ((Gr.refl _).alloc _)⟩
theorem O6(W:World)(b:Nat)(z0 z1 z2 z3:Value):AB (λi=>i=b) W ((((W.setCell ⟨b,0,none⟩ z0).setCell ⟨b,1,none⟩ z1).setCell ⟨b,2,none⟩ z2).setCell ⟨b,3,none⟩ z3):=
 ((((AB.refl (λi=>i=b) W).setCell (a:=⟨b,0,none⟩) (λ_=>rfl) z0).setCell (a:=⟨b,1,none⟩) (λ_=>rfl) z1).setCell (a:=⟨b,2,none⟩) (λ_=>rfl) z2).setCell (a:=⟨b,3,none⟩) (λ_=>rfl) z3
end
end Go.Proofs.YtbdimhlaaoadgaaGreatDoor
