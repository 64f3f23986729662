/- Lemmas. -/
import Derived.Test.YtcihfnpokdbfpaaGreatDoorTwoD
import Derived.Defers
import Derived.Recover
import Derived.Laws.Pointers
import Derived.Maps.OwnSet
namespace Go.Proofs.YtcihfnpokdbfpaaGreatDoor
open _root_.Go.Proofs.Tryz
set_option maxHeartbeats 3200000
set_option maxRecDepth 100000
open Go.RowKit Word
variable{l':Array Bool}{caps:Array Value}{Q:Exit->Act->World->Prop}{a:Int}{O l out rs:List Int}{qs:List Nat}{L:List Ob}{B F K M R b b4 bA bH bT bW base c f g i id j k k1 k2 m n p p1 p2 q r s to x:Nat}{S S2 T:Nat->Prop}{A:Option Addr}{P:Program}{md:Region.Mode}{e:TypeId}{sp z:Value}{v v':Vm}{w w':World}
def Fwd(w:World)(F f n B:Nat)(base:Nat)(L:List Ob):Prop:=
 f<w.heap.size/\F<=f/\base<2147483648/\∃t o p1 b1 p2 b2,w.cell? ⟨f,0,none⟩=some (pP t)/\w.cell? ⟨f,1,none⟩=some (pP o)/\w.cell? ⟨f,2,none⟩=some (iI base) ∧
  GR w F t n B L/\Ext w o p1 b1 p2 b2 n L/\F<=o/\F<=p1/\F<=b1/\F<=p2/\F<=b2
theorem Fwd.touch(h:Fwd w F f n B base L)(t:AB S w w')(hS:∀k,F<=k->k<w.heap.size->¬S k):Fwd w' F f n B base L:=by
 obtain⟨h1,h2,h3,tt,o,p1,b1,p2,b2,c0,c1,c2,hO,hE,k1,k2,k3,k4,k5⟩:=h;exact⟨ϑ h1 t.size,h2,h3,tt,o,p1,b1,p2,b2,(t.cell h1 (hS f h2 h1) 0).trans c0,(t.cell h1 (hS f h2 h1) 1).trans c1,(t.cell h1 (hS f h2 h1) 2).trans c2,hO.touch t hS,hE.touch t (hS _ k1 hE.hm) (hS _ k2 hE.v1.hp) (hS _ k3 hE.v1.hb) (hS _ k4 hE.v2.hp) (hS _ k5 hE.v2.hb),k1,k2,k3,k4,k5⟩
theorem Fwd.gr(h:Fwd w F f n B base L)(g:Gr w w'):Fwd w' F f n B base L:=h.touch (g.touch (λ_=>False)) (λ_ _ _ h=>h)
theorem Fwd.good(h:Fwd w F f n B base L):AS n L/\n<=1048576:=by
 obtain⟨_,_,_,_,_,_,_,_,_,_,_,_,hO,hE,_⟩:=h;exact⟨hE.good,hE.nb.2⟩
theorem ZU(h:AS n L)(hn:n<=1048576)(a:Int):0<=BC L 0 a/\BC L 0 a<=1048576:=by
 rw[<-T0 h];have:LM L n 0 a<=n:=EY _ _;omega
theorem TB(hF:Fwd w F f n B base L)(a:Int):BB prog 138 #[pP f,iI a] w (.tuple #[iI (toV L base a),iI (toE L a)]):=by
 obtain⟨hg,hn⟩:=hF.good;obtain⟨h1,h2,h3,t,o,p1,b1,p2,b2,c0,c1,c2,hO,hE,-⟩:=hF;have U:=ZU hg hn a;have hl:=JFq (L:=L) a;by_cases hf:BD L a<L.length
 ·have HV:Hid (toV L base a=base+BC L 0 a/\toE L a=0):=⟨by unfold toV toE;omega⟩;have HL:Hid ((decide (0<=a)&&EA L a.toNat)=true):=⟨by simp_all⟩;rw[HV.o.1,HV.o.2];obtain⟨ov,X⟩:=ε (BC L 0 a);rw[<-X]at U⊢;have J:=X.symm;have z0:∀xs m,(grow w xs m).cell? ⟨f,0,none⟩=some (pP t):=λxs m=>((grown w xs m).cell h1 0).trans c0;have z2:∀xs m,(grow w xs m).cell? ⟨f,2,none⟩=some (iI base):=λxs m=>((grown w xs m).cell h1 2).trans c2;have hwr:IntKind.i64.wrap ((base:Int)+ov)=(base:Int)+ov:=ζp _ Ω;clear hl hf X;unfold BB;go_enter func138,ntmps138;go_wp2_with(go_at_call 208;refine(ZaO hO a).mono ?_;rintro e w1 ⟨rfl,rfl⟩;rw[HL.o]);refine JX (by kernel_rfl) (by kernel_rfl) ?_
  repeat(go_big_quiet_step ((go_at_call 209;have hc:=λxs m=>YWi (hO.gr (grown w xs m)) a;simp only[J]at hc;exact BB.grown (hc _ _))))
  refine ζb ?_;intro _ Z;obtain⟨⟨xs,nq⟩,Y⟩:=Z;subst Y;go_wp2;go_ret2;exact⟨rfl,grown w _ _⟩
 ·have HV:=ι (QM (base:=base) hf);have HL:Hid ((decide (0<=a)&&EA L a.toNat)=false):=⟨by simp_all⟩;rw[HV.o.1,HV.o.2];unfold BB;go_enter func138,ntmps138;go_wp2_with(go_at_call 208;refine(ZaO hO a).mono ?_;rintro e w1 ⟨rfl,rfl⟩;rw[HL.o]);go_ret2;exact⟨rfl,Gr.refl _⟩
theorem JwE(hF:Fwd w F f n B base L):cQ 263 #[pP f] w (iI base):=by
 obtain⟨h1,h2,h3,t,o,p1,b1,p2,b2,c0,c1,c2,-⟩:=hF;go_enter func263,ntmps263;go_wp2;go_ret
 simp_all
theorem Q14(hF:Fwd w F f n B base L):cQ 188 #[pP f] w (iI (AC L:Nat)):=by
 obtain⟨h1,h2,h3,t,o,p1,b1,p2,b2,c0,c1,c2,hO,-⟩:=hF;go_enter func188,ntmps188;go_wp2_with(go_at_call 201;refine Qa (XcN hO) λw1 rfl=>?_);go_ret
 simp_all
theorem OR(hF:Fwd w F f n B base L):BB prog 134 #[pP f] w (iI ((base:Int)+(AC L:Nat))):=by
 obtain⟨hg,hn⟩:=hF.good;have hs:=GJ hg;obtain⟨h1,h2,h3,t,o,p1,b1,p2,b2,c0,c1,c2,hO,-⟩:=hF;have z0:∀xs m,(grow w xs m).cell? ⟨f,0,none⟩=some (pP t):=λxs m=>((grown w xs m).cell h1 0).trans c0;have z2:∀xs m,(grow w xs m).cell? ⟨f,2,none⟩=some (iI base):=λxs m=>((grown w xs m).cell h1 2).trans c2;have hwr:IntKind.i64.wrap ((base:Int)+(AC L:Nat))=(base:Int)+(AC L:Nat):=ζp _ Ω;go_enter func134,ntmps134;go_wp2;refine JX (by kernel_rfl) (by kernel_rfl) ?_
 repeat(go_big_quiet_step ((go_at_call 201;have hc:=λxs m=>XcN (hO.gr (grown w xs m));exact BB.grown_same (hc _ _))))
 refine ζb ?_;intro _ X;obtain⟨⟨xs,nq⟩,hw''⟩:=X;go_wp2;go_ret;exact⟨rfl,grown w _ _⟩
theorem OS(hF:Fwd w F f n B base L)(hT:AQ w)(b:Int)(_hb:b<=9223372036854775807):BB prog 293 #[pP f,iI b] w (.tuple #[iI (CZ L base b),iI (GN L base b)]):=by
 obtain⟨hg,hn⟩:=hF.good;have hs:=GJ hg;have HF:=hF;obtain⟨h1,h2,h3,t,o,p1,b1,p2,b2,c0,c1,c2,hO,-⟩:=hF;have HO:=hO;by_cases hb1:b<base
 ·have E:=ι (N4 (W9 (L:=L) (base:=base) (b:=b) Ω));rw[E.o.1,E.o.2.2];unfold BB;go_enter func293,ntmps293;go_wp2;go_ret2;exact⟨rfl,Gr.refl _⟩
 ·by_cases hb2:(base:Int)+(AC L:Nat)<=b
  ·have E:=ι (N4 (W9 (L:=L) (base:=base) (b:=b) Ω));rw[E.o.1,E.o.2.2];unfold BB;go_enter func293,ntmps293;go_wp2_with(go_at_call 134;refine Qa (OR HF) λw1 X=>?_);go_ret2
   simp_all
  ·have hin:inF L base b=true:=F6.2 ⟨by omega,by omega⟩;have E:Hid (CZ L base b=JQ L (b-base)/\GN L base b=0):=⟨by unfold CZ GN;simp_all⟩;rw[E.o.1,E.o.2];obtain⟨q,hq⟩:=ε (b-(base:Int));have hwr:IntKind.i64.wrap (b-(base:Int))=b-(base:Int):=ζp _ Ω;unfold BB;go_enter func293,ntmps293;go_wp2_with(go_at_call 134;refine Qa (OR HF) λw1 X=>?_);have z0:∀xs m,(grow w1 xs m).cell? ⟨f,0,none⟩=some (pP t):=λxs m=>((X.trans (grown w1 xs m)).cell h1 0).trans c0;have z2:∀xs m,(grow w1 xs m).cell? ⟨f,2,none⟩=some (iI base):=λxs m=>((X.trans (grown w1 xs m)).cell h1 2).trans c2;refine JX (by kernel_rfl) (by kernel_rfl) ?_
   repeat(go_big_quiet_step ((go_at_call 303;have hc:=λxs m=>VXx (HO.gr (X.trans (grown w1 xs m))) ((X.trans (grown w1 xs m)).tab hT.lt hT) (b-(base:Int));exact BB.grown (hc _ _))))
   refine ζb ?_;intro _ Z;obtain⟨⟨xs,nq⟩,Y⟩:=Z;subst Y;go_wp2;go_ret2;exact⟨rfl,X.trans (grown w1 _ _)⟩
open Go.Shelf
section
attribute [local go_sem] Oper.semAt_some
theorem VEu(k b:Int)(w:World):cQ 133 #[.pointer none,iI k,iI b] w (.tuple #[.pointer none,iI 9]):=by
 refine(γ (n:=5)).1 ?_;refine callsIn_of_wp_marks func133 rfl trivial ?_ rfl;simp only[ntmps133,ζ3,ζD,ξf,Nat.reduceAdd,Nat.reduceSub,ζR,ζQ,ζ9,ζZ,ζ4,ζv];gi_wp2_with(refine⟨trivial,?_⟩;gi_at_call 199;refine(γ.2 (JWx k _)).mono ?_;rintro e w1 ⟨rfl,rfl⟩);refine⟨.tuple #[.pointer none,iI 9],?_,rfl,rfl⟩;simp[results,f133,go_sem]
structure TM(W0:World)(o p1 b1 p2 b2 n:Nat)(L:List Ob)(j:Nat)(A:World):Prop where
 t:AB (λi=>AT o b1 b2 i\/W0.heap.size<=i) W0 A
 jl:j<=L.length
 ext:Ext A o p1 b1 p2 b2 n (L.take j)
def GM(b:Int):Bool:=decide (0<=b)&&decide (b<2147483648)
def VWZ(w:World)(n:Nat)(L:List Ob)(k b:Int)(e:Ending)(w':World):Prop:=
 Gr w w'/\(((BQ k&&GM b)=false/\e=.returned (.tuple #[.pointer none,iI 5]))\/((BQ k&&GM b)=true/\∃f B base:Nat,k=B/\b=base/\e=.returned (.tuple #[pP f,iI 0])/\Fwd w' w.heap.size f n B base L))
theorem XJm{b1 b2:Nat}(hE:Ext w m p1 b1 p2 b2 n L)(hT:AQ w)(k b:Int)(hk:k<=9223372036854775807)(hbad:(BQ k&&GM b)=false):Calls prog 133 #[pP m,iI k,iI b] w (VWZ w n L k b):=by
 have HT:=hT;have HB:=hbad;refine(γ (n:=5)).1 ?_;refine callsIn_of_wp_marks func133 rfl trivial ?_ rfl;simp only[ntmps133,ζ3,ζD,ξf,Nat.reduceAdd,Nat.reduceSub,ζR,ζQ,ζ9,ζZ,ζ4,ζv];cases hok:BQ k with
 | false=>
  gi_wp2_with(refine⟨trivial,?_⟩;gi_at_call 199;refine(γ.2 (UY hE HT k hk)).mono ?_;rintro e w1 ⟨X,⟨-,rfl⟩|⟨hb,-⟩⟩;rotate_left;(rw[hok]at hb;cases hb);have Y:=X);refine⟨.tuple #[.pointer none,iI 5],?_,Y,.inl ⟨HB,rfl⟩⟩;simp[results,f133,go_sem]
 | true=>
  rw[hok,ψg]at hbad;by_cases h0:b<0
  ·gi_wp2_with(refine⟨trivial,?_⟩;gi_at_call 199;refine(γ.2 (UY hE HT k hk)).mono ?_;rintro e w1 ⟨X,⟨hb,-⟩|⟨-,t,B,Z,rfl,hO⟩⟩;(rw[hok]at hb;cases hb));refine⟨.tuple #[.pointer none,iI 5],?_,X,.inl ⟨HB,rfl⟩⟩;simp[results,f133,go_sem]
  ·have h1:2147483648<=b:=by
    unfold GM at hbad;rw[φ Ω,ψg]at hbad;have:=of_decide_eq_false hbad;omega
   gi_wp2_with(refine⟨trivial,?_⟩;gi_at_call 199;refine(γ.2 (UY hE HT k hk)).mono ?_;rintro e w1 ⟨X,⟨hb,-⟩|⟨-,t,B,Z,rfl,hO⟩⟩;(rw[hok]at hb;cases hb));refine⟨.tuple #[.pointer none,iI 5],?_,X,.inl ⟨HB,rfl⟩⟩;simp[results,f133,go_sem]
theorem YD{b1 b2:Nat}(hE:Ext w m p1 b1 p2 b2 n L)(hT:AQ w)(k b:Int)(hk:k<=9223372036854775807):Calls prog 133 #[pP m,iI k,iI b] w (VWZ w n L k b):=by
 cases hgo:(BQ k&&GM b)with
 | false=>exact XJm hE hT k b hk hgo
 | true=>
  obtain⟨Xq,Xa⟩:=ξa.1 hgo;have Xj:0<=b/\b<2147483648:=by unfold GM at Xa;simpa using Xa
  obtain⟨base,rfl⟩:∃base:Nat,b=base:=⟨b.toNat,by omega⟩;obtain⟨hb0,hb1⟩:=Xj;have d0:decide ((base:Int)<0)=false:=ζ Ω;have d1:decide ((2147483648:Int)<=(base:Int))=false:=ζ Ω;have HO:=Xq;have HE:=hE;have HT:=hT;obtain⟨Xu,Yb⟩:=hE.nb;have hTl:=hT.lt;clear hE hT Xq Xa;refine(γ (n:=5)).1 ?_;refine callsIn_of_wp_marks func133 rfl trivial ?_ rfl;simp only[ntmps133,ζ3,ζD,ξf,Nat.reduceAdd,Nat.reduceSub,ζR,ζQ,ζ9,ζZ,ζ4,ζv]
  gi_wp2_with(first|(refine⟨trivial,?_⟩;gi_at_call 199;refine(γ.2 (UY HE HT k hk)).mono ?_;rintro e w1 ⟨Xc,⟨hb,-⟩|⟨-,t,B,Xh,rfl,hO⟩⟩;(rw[HO]at hb;cases hb);have Xs:=hO;have Yd:=Xh;clear hO Xh)|(refine⟨trivial,?_⟩;gi_at_call 151;refine(γ.2 (F7 (HE.gr Xc))).mono ?_;rintro e w2 ⟨rfl,rfl⟩)|(refine⟨trivial,?_⟩;gi_at_call 70;refine(γ.2 (P7 n Xu Yb _)).mono ?_;rintro e w2 ⟨o,q1,r1,q2,r2,rfl,Xd,Xr,Xm,Xg,Xf,Xl,Xo⟩;have V:=Xr;have HX:=(ξ Xm (ξ Xg (ξ Xf (ξ Xl Xo))));clear Xr Xm Xg Xf Xl Xo)|(refine⟨trivial,?_⟩;gi_at_call 135;refine(γ.2 (LO (some ⟨m,0,none⟩))).mono ?_;rintro e w3 ⟨rfl,rfl⟩))
  obtain⟨X,hX⟩:=ε w2.heap.size;obtain⟨W0,U⟩:=ε ((w2.alloc (.cells #[.pointer (some ⟨o,0,none⟩)] 137)).alloc (.cells #[.pointer (some ⟨m,0,none⟩)] 137));have E:Gr w2 W0:=by rw[U];exact((Gr.refl w2).alloc _).alloc _
  have hs0:W0.heap.size=X+2:=by rw[U,hX];simp
  have e0:W0.cell? ⟨X,0,none⟩=some (pP o):=by rw[U,hX];exact((Boxed.new w2 _ _).alloc _).cell
  have e1:W0.cell? ⟨X+1,0,none⟩=some (pP m):=by
   rw[U,hX];have:=Boxed.new (w2.alloc (.cells #[.pointer (some ⟨o,0,none⟩)] 137)) 137 (pP m);rw[π]at this;exact this.cell
  have Xw:=Xc.size;have Xy:=Xd.size;have o1:=HE.hm;have o2:=HE.v1.hp;have o3:=HE.v1.hb;have o4:=HE.v2.hp;have o5:=HE.v2.hb;have j1:=V.hm;have j2:=V.v1.hp;have j3:=V.v1.hb;have j4:=V.v2.hp;have j5:=V.v2.hb;rw[<-hX]at Xy j1 j2 j3 j4 j5;have I:=((Xc.trans Xd).trans E);have Yf:=(HE.gr I);have Xt:=(V.gr E);have Xv:=(Xd.trans E);have N:=HE.good;have Xe:=(ξ e0 e1);have HW1:=(show w.heap.size<=w1.heap.size from Xw);rw[<-U,<-hX];clear U hX E e0 e1;have Y:∀i,AT o r1 r2 i->w1.heap.size<=i/\i<X:=λi h=>by rcases h with rfl|rfl|rfl <;> omega
  have Xx:TM W0 o q1 r1 q2 r2 n L 0 W0:=⟨AB.refl _ _,ζe _,Xt⟩
  have tI:∀j A B,TM W0 o q1 r1 q2 r2 n L j A->AB (λi=>W0.heap.size<=i) A B->TM W0 o q1 r1 q2 r2 n L j B:=λj A B h t=>
   ⟨h.t.trans (t.mono (λi _ h=>.inr h)),h.jl,h.ext.touch t Ω Ω Ω Ω Ω⟩
  refine VK (s0:=0) rfl Ω (gf:=202) (lb:=#[pP (X+1)]) rfl trivial (enters_of func202 (by kernel_rfl) rfl)
   (Xix _ (X+1) m p1 b1 p2 b2 n L _) (λ_=>rfl)
   (TM W0 o q1 r1 q2 r2 n L) (λ_ _=>False) tI (λ_ _ _ h _=>h)
   (λj A h=>⟨Yf.touch h.t (λh=>by rcases h with h|h;have:=Y _ h;omega;omega) (λh=>by rcases h with h|h;have:=Y _ h;omega;omega) (λh=>by rcases h with h|h;have:=Y _ h;omega;omega) (λh=>by rcases h with h|h;have:=Y _ h;omega;omega) (λh=>by rcases h with h|h;have:=Y _ h;omega;omega),
    (I.tab HT.lt HT).touch' h.t (λh=>by rcases h with h|h;have:=Y _ h;omega;omega),(h.t.cell Ω (λh=>by rcases h with h|h;have:=Y _ h;omega;omega) 0).trans Xe.2,h.jl⟩)
   Xx ?round ?done (λ_ _ _ _ h _=>h.elim)
  case round=>
   intro lp j x W3 hsz3 Z J;dsimp only[IC];gi_wp2;refine⟨Gr.refl _,λW4 ht4 hI4=>?_⟩
   have Xb:j<L.length:=by
    rcases δ j L.length with h|h
    ·exact h
    ·unfold FE at J;rw[ζz h]at J;cases J
   obtain rfl:x=L[j]:=by unfold FE at J;rw[τ Xb]at J;exact(Option.some.inj J).symm
   have hsz':=N.sz _ (χ Xb);have Yg:=(Zne N Xb);have c6:=(hI4.t.cell (b:=X) Ω (λh=>by rcases h with h|h;have:=Y _ h;omega;omega) 0).trans Xe.1;have Yc:=((I.tab HT.lt HT).touch' hI4.t (λh=>by rcases h with h|h;have:=Y _ h;omega;omega));clear Z ht4 J;gi_wp2_with(refine⟨trivial,?_⟩;gi_at_call 200;refine(CallsIn.inRound lp (γ.2 (Zc1 hI4.ext Yc _ _))).mono ?_;rintro e w5 ⟨rfl,Xk,Xp⟩);rw[Yg]at Xp;exact⟨Xk.mono (λi _ h=>by have:=Y _ h;omega),j+1,rfl,hI4.t.trans (Xk.mono (λi _ h=>.inl h)),by omega,Xp⟩
  case done=>
   rintro D j W3 hD rfl Z hK;have c6:=(Z.t.cell (b:=X) Ω (λh=>by rcases h with h|h;have:=Y _ h;omega;omega) 0).trans Xe.1;have Xn:=Z.ext;rw[ζ0]at Xn;have Ya:=((Xv.touch (λi=>w1.heap.size<=i)).trans' Z.t (λi hi h=>by rcases h with h|h;exact(Y _ h).1;omega));have HK:=hK;have HD:=hD;have Xi:Gr w W3:=((I.touch (λ_=>False)).trans' Z.t (λi hi h=>by rcases h with h|h;have:=Y _ h;omega;omega)).gr;have Xz:=Xi;have hz6:=Z.t.size;clear Z hK hD Xi;gi_wp2;obtain⟨O,hO⟩:=ε (.cells #[pP t,pP o,iI base] 283:Obj);rw[<-hO];have Ye:(W3.alloc O).heap[D]?=some (.deferred (some [])):=(((Gr.refl W3).alloc _).block (ζq.1 HK).1).trans HK;have tt:=((Xz.alloc O).touch (λ_=>False)).trans' (DW _ D (.deferred none) (μ D)) (λi hi h=>by have:=HD;have:=I.size;omega);refine⟨by simp,.inl ⟨_,_,rfl,run_takeDeferred Ye,?_⟩⟩;refine⟨.tuple #[pP W3.heap.size,iI 0],?_,tt.gr,.inr ⟨hgo,W3.heap.size,B,base,Yd,rfl,rfl,?_⟩⟩
   ·simp[results,f133,go_sem]
   ·have t5:=EJ (W3.alloc O) D (.deferred none);have hdl:=(ζq.1 HK).1;have hl:W3.heap.size<(W3.alloc O).heap.size:=by rw[π];omega
    subst hO
    exact⟨ϑ hl t5.size,by omega,by omega,t,o,q1,r1,q2,r2,(t5.cell (b:=W3.heap.size) hl Ω 0).trans (ζM ..),(t5.cell (b:=W3.heap.size) hl Ω 1).trans (ζM ..),(t5.cell (b:=W3.heap.size) hl Ω 2).trans (ζM ..),
     Xs.touch ((Ya.trans (((Gr.refl W3).alloc _).touch _)).trans' t5 (λi hi h=>by omega)) (λk _ h1 h2=>by omega),(Xn.gr ((Gr.refl _).alloc _)).touch t5 Ω Ω Ω Ω Ω,by omega,by omega,by omega,by omega,by omega⟩
end
abbrev Lg:=List (Int×Nat)
def lgV(l:Lg):List Value:=l.flatMap λx=>[iI x.1,uU (x.2:Nat)]
structure ED(w:World)(S:Nat->Prop)(k:Nat)(sp:Value)(l:Lg):Prop where
 sk:S k
 ll:l.length<=1048576
 lv:∀x∈l,x.2<18446744073709551616
 row:∃vl,Rec w k 304 [sp,vl]/\w.ownsRow 0 309 2 vl l.length (lgV l)/\∀g,vl.ownBlock=some g->S g
theorem ED.touch{l:Lg}(h:ED w S k sp l)(t:AB T w w')(hS:∀k,S k->k<w.heap.size->¬T k):ED w' S k sp l:=by
 obtain⟨h1,h2,h3,vl,hr,ho,hs⟩:=h;exact⟨h1,h2,h3,vl,hr.touch t (hS _ h1 hr.lt),AX ho t (λg hg=>hS g (hs g hg) (A9 ho hg).2),hs⟩
theorem ED.gr{l:Lg}(h:ED w S k sp l)(t:Gr w w'):ED w' S k sp l:=h.touch (t.touch (λ_=>False)) (λ_ _ _ h=>h)
theorem ED.mono{l:Lg}(h:ED w S k sp l)(hT:∀k,S k->T k):ED w T k sp l:=by
 obtain⟨h1,h2,h3,vl,hr,ho,hs⟩:=h;exact⟨hT _ h1,h2,h3,vl,hr,ho,λg hg=>hT g (hs g hg)⟩
def VSi(why at':Int):Value:=.iface 346 (.agg #[iI why,iI at'])
theorem JNg(a:Addr)(w:World):(binOp BinOp.eql 160 (.iface 99 (.pointer (some a))) .nilIface).run prog w=.ok (.bool false) w:=by kernel_rfl
section
variable{l:Lg}
theorem WG(n:Nat)(a:Addr)(w:World):(nilAhead (n+1) 99 (.pointer (some a)) "Store").run prog w=.ok (some false) w:=by kernel_rfl
theorem VB(n:Nat)(a:Addr)(w:World):(method (n+1) 99 (.pointer (some a)) "Store").run prog w=.ok (207,.pointer (some a)) w:=by kernel_rfl
theorem Qbw:(prog.info? 309).map (λi=>(i.zero,i.size,i.bytes))=some (some (.agg #[iI 0,uU 0]),2,16):=by kernel_rfl
end
section
variable{l:Lg}
theorem Ypt(x y z r:Value):#[x,y,z]++((Array.replicate 19 undef).setIfInBounds 3 r).setIfInBounds 0 r =
  #[x, y, z, r, undef, undef, r, undef, undef, undef, undef, undef, undef, undef, undef, undef, undef, undef, undef, undef, undef, undef] := by kernel_rfl
theorem Jv4(p2 p5 p4:Addr)(w:World):CallsD prog 270 #[.pointer (some p2),.pointer (some p5),.pointer (some p4)] .returning w λe u' w'=>e=.returned (.tuple #[])/\u'=.returning/\w'=w:=by
 refine callsD_of_wpS func270 rfl λc₀ cs hu=>?_;apply wpS_seq;apply wpS_region;simp[wpOpsS,go_sem,recoverD,hu,ntmps270,Exit.thenS];rw[Ypt];refine wpS_of_wp ?_;go_wp2;refine⟨rfl,.returning,?_,_,ζh rfl _ _ _,rfl,rfl,rfl⟩;cases c₀
 simp_all
end
section
variable{l:Lg}
def FO(w:World)(k:Nat):World:=((w.alloc (.cells #[.pointer (some ⟨k,0,none⟩)] 232)).alloc (.cells #[.int .i64 0,.int .i64 0] 236)).alloc (.cells #[.int .i64 0] 3)
theorem Zo0(W:World)(blk:Nat)(p q:Value)(h0:W.cell? ⟨blk,0,none⟩=some p)(h1:W.cell? ⟨blk,1,none⟩=some q):(loadVar 236 ⟨blk,0,none⟩).run prog W=.ok (.agg #[p,q]) W:=by
 have a1:(isAgg 236).run prog W=.ok true W:=by kernel_rfl
 have a2:(sizeOf 236).run prog W=.ok 2 W:=by kernel_rfl
 simp[loadVar,Sem.run_bind,a1,a2,Result.andThen,loadCells,go_sem,h0,h1]
def AP(w:World)(sp:Value):World:=(w.alloc (.cells #[.int .i64 0,.int .i64 0] 236)).alloc (.cells #[sp,.slice none 0 0] 304)
theorem S8(w:World)(sp:Value):ED (AP w sp) (λi=>i=w.heap.size+1) (w.heap.size+1) sp []:=by
 have:=Rec.new (w.alloc (.cells #[.int .i64 0,.int .i64 0] 236)) 304 [sp,.slice none 0 0];rw[π]at this;exact⟨rfl,ζe _,(λx hx=>by cases hx),.slice none 0 0,this,FD _ _ _ _,(λg hg=>by cases hg)⟩
end
def mkV(v:Vm)(a:Int)(x:Nat):Nat->Vm
 | 0=>v.st a x
 | m+1=>(mkV v a x m).st (a+1+m) 0
def mkE(v:Vm)(a:Int):Nat->Int
 | 0=>v.ldE a
 | m+1=>if mkE v a m≠0 then mkE v a m else v.ldE (a+1+m)
theorem QBF(v:Vm)(a:Int)(x:Nat)(m:Nat)(b:Int):(mkV v a x m).ldE b=v.ldE b:=by
 induction m with
 | zero=>exact GO ..
 | succ m ih=>unfold mkV;rw[GO,ih]
theorem ZGy(h:mkE v a m≠0)(hn:m<=n):mkE v a n=mkE v a m:=by
 induction n with
 | zero=>simp_all
 | succ n ih=>
  rcases δ n m with h'|h'
  ·grind
  ·have:=ih h'
   show (if mkE v a n≠0 then mkE v a n else _)=_
   omega
theorem Xln(h:mkE v a m=0):v.ldE a=0:=by
 induction m with
 | zero=>exact h
 | succ m ih=>
  refine ih (ξM.1 λhn=>?_);have h:(if mkE v a m≠0 then mkE v a m else v.ldE (a+1+m))=0:=h;rw[θ hn]at h;exact hn h
def wkS(w:World)(k i:Nat):Prop:=i=k\/w.heap.size<=i
theorem Xnm(args:Array Value)(w:World):(callFunc 164 args).run prog w=.ok (.enter 164 args) w:=by kernel_rfl
theorem X1o(x y:Value)(w:World):(Instr.field 236 (.agg #[x,y]) 0).run prog w=.ok x w:=by kernel_rfl
def IL(v:Vm)(a:Int)(h:Hdr):Int:=if a<=0 then 5 else if DA h≠0 then 15 else mkE v a (h.p+h.f+h.k).toNat
def mkVm(v:Vm)(a:Int)(h:Hdr):Vm:=if IL v a h=0 then mkV v a (C8 h.p.toNat h.f.toNat h.k.toNat) (h.p+h.f+h.k).toNat else v
theorem ZW{a:Nat}(hs:a+b+c<=255):C8 a b c<18446744073709551616:=by
 have:=Vts hs;unfold C8;omega
def cwL(v:Vm)(a:Int)(n m:Nat):List Nat:=(List.range n).map λj=>if j<m then v.ldV (a+j)else 0
theorem QGZ(v:Vm)(a:Int)(n m:Nat):(cwL v a n m).length=n:=by simp[cwL]
theorem PC(v:Vm)(a:Int)(hj:j<n):(CW (cwL v a n m))[j]?=some (uU ((if j<m then v.ldV (a+j)else 0:Nat):Int)):=by
 rw[ZpD (by grind [QGZ])];simp[cwL]
theorem Z0I(v:Vm)(a:Int)(n m:Nat):(CW (cwL v a n m)).set m (uU (v.ldV (a+m):Nat))=CW (cwL v a n (m+1)):=by
 apply List.ext_getElem?;intro j;rw[ψE];have hl:∀m,(CW (cwL v a n m)).length=n:=λm=>by simp[CW,cwL]
 grind [PC]
theorem YkC(v:Vm)(a:Int)(n:Nat):CW (cwL v a n 0)=List.replicate n (uU 0):=by
 apply List.ext_getElem?;intro j;by_cases hj:j<n
 ·rw[PC v a hj,ξz,θ hj];rfl
 ·rw[ζz (by simp[CW,cwL];omega),ξz,ψ hj]
theorem YJ3(n:Nat):(madeCells #[uU 0] n).toList=List.replicate n (uU 0):=by
 unfold madeCells;apply ξA
 ·simp
 grind
def cpG(q:Nat)(S2:Nat->Prop)(v:Vm)(a t:Int)(n:Nat)(w1:World):Prop:=AE w1 S2 q (cpV v a t n)
structure JEo(w wg wr:World)(S2:Nat->Prop)(k q g:Nat)(v:Vm)(a t:Int)(n m:Nat)(l:Lg):Prop where
 wk:ED wr (wkS wg k) k (spV q) l
 vm:AE wr S2 q (cpV v a t m)
 ll:l.length=m
 row:wr.ownsRow 0 35 1 (.slice (some ⟨g,0,none⟩) n n) n (CW (cwL v a n n))
 t:AB (λi=>wkS w k i\/S2 i) w wr
 wz:wg.heap.size<=wr.heap.size
 gk:g≠k
theorem Z5j(args:Array Value)(w:World):(callFunc 248 args).run prog w=.ok (.enter 248 args) w:=by kernel_rfl
theorem QRl(hV:AE w S q v){i:Int}(hp:v.plE a i 1=0)(hx:x<=2147483647):Calls prog 166 #[spV q,iI a,iI i,iI x] w λe w'=>e=.returned (iI (v.ldE (a+1+i)))/\AB S w w'/\AE w' (plus S w) q (v.st (a+1+i) x):=by
 have X:=(JNY hV a i 1 (by decide));have hA:v.plA a i 1=a+1+i:=θ hp;rw[hp,hA]at X;have n1:=WG;have n2:=VB;have d0:decide ((x:Int)<0)=false:=ζ Ω;have d1:decide (2147483647<(x:Int))=false:=ζ Ω;have hw:IntKind.u64.wrap (x:Int)=(x:Int):=by rw[ζG];omega
 have Z:=(λ(w':World) (g:Gr w w')=>NT (hV.cut.gr g) (a+1+i) (x:=x) Ω);generalize a+1+i=at' at X Z⊢;unfold spV at X⊢;go_in
 go_wp2_with(first|(go_at_call 229;refine Qa X λw1 Y=>?_)|(go_at_call 207;refine Qa (Z _ Y) λw2⟨V,J⟩=>?_;have U:=V;have N:=J))
 go_ret;exact⟨rfl,(Y.touch S).trans (U.mono (λi _ hi=>hi.1)),N.mono (λi hi=>.inl hi.1)⟩
section
variable{Sx:Nat->Prop}{G:World->Prop}
def Q8(Sx:Nat->Prop)(w0:World)(G:World->Prop)(e:Ending)(w1:World):Prop:=AB Sx w0 w1/\e=.returned (.tuple #[])/\G w1
def JIu(w:World)(k:Nat)(Sx:Nat->Prop)(G:World->Prop)(e:Ending)(w':World):Prop:=
 ∃w1,AB Sx (FO w k) w1/\G w1/\e=.returned (.agg #[iI 0,iI 0])/\w'=(w1.setCell ⟨w.heap.size+1,0,none⟩ (.int .i64 0)).setCell ⟨w.heap.size+1,1,none⟩ (.int .i64 0)
theorem XQn(hcf:∀args w,(callFunc F args).run prog w=.ok (.enter F args) w)(hW:ED w S k sp [])(hF:Calls prog F (#[pP k]++caps) (FO w k) (Q8 Sx (FO w k) G))(hx:∀i,w.heap.size<=i->i<=w.heap.size+2->¬Sx i):Calls prog 219 #[pP k,.func (.func F) #[] caps] w (JIu w k Sx G):=by
 have hmf:∀(fn:Fn) (first cap:Array Value) (w:World),(Instr.makeFunc fn first cap).run prog w=.ok (.func fn first cap) w:=λ_ _ _ _=>rfl;obtain⟨vl,hr,ho,-⟩:=hW.row;obtain⟨A,c,rfl,hc1,hc2⟩:=B9 ho;have c1:=hr.cc 1;have hkl:=hr.lt
 go_enter_defers func219,ntmps219
 have Z:Rec (FO w k) (w.heap.size+1) 236 [iI 0,iI 0]:=by
  have:=Rec.gr (Rec.new (w.alloc (.cells #[.pointer (some ⟨k,0,none⟩)] 232)) 236 [iI 0,iI 0]) ((Gr.refl _).alloc (.cells #[.int .i64 0] 3));rw[π]at this;exact this
 go_wp2;refine hF.mono ?_;rintro e w1 ⟨Y,rfl,HG⟩;have X:=Z.touch Y (hx _ Ω Ω);have k0:=X.cc 0;have k1:=X.cc 1;have kf:=X.free;go_wp2;have R6:=Rec.set (Rec.set X 0 (iI 0)) 1 (iI 0);refine leaves_cons (f:=270) (args:=#[pP w.heap.size,pP (w.heap.size+1+1),pP (w.heap.size+1)]) (by simp) (by simp[go_sem]) ?_;refine(Jv4 _ _ _ _).mono ?_;rintro e u' w2 ⟨rfl,rfl,rfl⟩;have hl:=Zo0 _ (w.heap.size+1) _ _ (R6.cc 0) (R6.cc 1);simp only[Leaves,settle];refine⟨_,?_,w1,Y,HG,rfl,rfl⟩;simp[results,results219,asAddr,hl]
def Q2l(w:World)(sp:Value)(Sx:Nat->Prop)(G:World->Prop)(e:Ending)(w':World):Prop:=
 ∃w1,AB Sx (FO (AP w sp) (w.heap.size+1)) w1/\G w1/\e=.returned (.agg #[iI 0,iI 0])/\AB (λi=>w.heap.size<=i) w1 w'
theorem ZR(hsp:∃T rv,sp=.iface T rv)(hcf:∀args w,(callFunc F args).run prog w=.ok (.enter F args) w)
  (hF:Calls prog F (#[pP (w.heap.size+1)]++caps) (FO (AP w sp) (w.heap.size+1)) (Q8 Sx (FO (AP w sp) (w.heap.size+1)) G))
  (hx:∀i,w.heap.size<=i->i<=w.heap.size+4->i≠w.heap.size+1->¬Sx i):Calls prog 154 #[sp,.func (.func F) #[] caps] w (Q2l w sp Sx G):=by
 obtain⟨T,rv,rfl⟩:=hsp;have Y:(AP w (.iface T rv)).heap.size=w.heap.size+2:=by unfold AP;rw[π,π]
 have HP:=(XQn (k:=w.heap.size+1) (w:=AP w (.iface T rv)) (Sx:=Sx) (G:=G) hcf (S8 w _) hF (by rw[Y];exact λi h1 h2=>hx i Ω Ω Ω));have V:=(Rec.gr (Rec.new w 236 [iI 0,iI 0]) ((Gr.refl _).alloc (.cells #[.iface T rv,.slice none 0 0] 304)))
 have Z:Hid (∀e w',JIu (AP w (.iface T rv)) (w.heap.size+1) Sx G e w'->e=.returned (.agg #[iI 0,iI 0])/\Rec w' w.heap.size 236 [iI 0,iI 0]/\∃w1,AB Sx (FO (AP w (.iface T rv)) (w.heap.size+1)) w1/\G w1/\AB (λi=>w.heap.size<=i) w1 w'):=⟨by
  rintro e w' ⟨w1,t1,g1,rfl,rfl⟩;have r0:Rec (FO (AP w (.iface T rv)) (w.heap.size+1)) w.heap.size 236 [iI 0,iI 0]:=V.gr (((((Gr.refl _).alloc _).alloc _).alloc _));have r1:=r0.touch t1 (hx _ (μ _) Ω Ω);rw[Y];have t2:=((AB.refl (λi=>w.heap.size+2<=i) w1).setCell (a:=⟨w.heap.size+2+1,0,none⟩) (λ_=>by show w.heap.size+2<=w.heap.size+2+1;omega) (iI 0)).setCell (a:=⟨w.heap.size+2+1,1,none⟩) (λ_=>by show w.heap.size+2<=w.heap.size+2+1;omega) (iI 0)
  exact⟨rfl,r1.touch t2 Ω,w1,t1,g1,t2.mono (λi _ h=>by omega)⟩⟩
 go_in;go_wp2_with(go_at_call 219;refine HP.mono ?_;intro e w2 U;obtain⟨rfl,X,hq⟩:=Z.o _ _ U;have k0:=X.cc 0;have k1:=X.cc 1;have kf:=X.free;have J:=X;have HQ:=ι hq);have R3:=Rec.set (Rec.set J 0 (iI 0)) 1 (iI 0);have hl:=Zo0 _ w.heap.size _ _ (R3.cc 0) (R3.cc 1);obtain⟨w1,t1,g1,t2⟩:=HQ.o;refine ζH (v:=.agg #[iI 0,iI 0]) ?_ rfl ⟨w1,t1,g1,rfl,(t2.setCell (a:=⟨w.heap.size,0,none⟩) (λ_=>μ _) _).setCell (a:=⟨w.heap.size,1,none⟩) (λ_=>μ _) _⟩;simp[results,results154,asAddr,hl]
end
section
variable{l:Lg}
theorem XeL(HE:v.ldE a=0)(hW:ED w S k (spV q) l)(hV:AE w S2 q v):Calls prog 227 #[pP k,iI a] w λe w'=>Gr w w'/\e=.returned (uU (v.ldV a:Nat)):=by
 have HL:=(λ(w':World) (g:Gr w w')=>KX (hV.gr g) a);obtain⟨vl,hr,-⟩:=hW.row;have c0:=hr.cc 0;unfold spV at c0;have n0:=JNg;have n1:=Y8;have n2:=WY;clear hr hW hV;rw[HE]at HL;go_in;go_wp2_with(go_at_call 206;refine Qa (HL _ (Gr.refl w)) λw1 Y=>?_);go_ret;exact⟨Y,rfl⟩
def VP7(w:World)(S S2:Nat->Prop)(k q:Nat)(v:Vm)(l:Lg)(a:Int)(x:Nat)(e:Ending)(w':World):Prop:=
 e=.returned (.tuple #[])/\AB (λi=>S i\/S2 i) w w'/\AE w' (AD S2 w) q (v.st a x)/\ED w' (plus S w) k (spV q) (l++[(a,v.ldV a)])
theorem V5(HE:v.ldE a=0)(hW:ED w S k (spV q) l)(hV:AE w S2 q v)(hd:∀i,S i->¬S2 i)(hl:l.length<1048576)(hx:x<18446744073709551616):Calls prog 165 #[pP k,iI a,uU x] w (VP7 w S S2 k q v l a x):=by
 have HW:=hW;have HV:=hV;have HX:=hx;have HD:=hd;obtain⟨vl,hr,ho,hs⟩:=hW.row;have c0:=hr.cc 0;unfold spV at c0;have n0:=JNg;have n1:=WG;have n2:=VB;obtain⟨A,c,rfl,Xq,Xm⟩:=B9 ho;unfold maxLen at Xm;have HR:=hr;have HO:=ho;have HS:=hs;obtain⟨N,hN⟩:=ε l.length;have HN:=ι hN;rw[<-hN]at hl Xq;obtain⟨ii,Xn,Xp,Xg,Xj⟩:=info_parts Qbw;have Xi:=hr.lt;have I:=hW.sk;clear hr hW hV ho hs hN hd;go_in
 go_wp2_with(first|(go_at_call 227;refine(XeL HE HW HV).mono ?_;rintro e w1 ⟨Xb,rfl⟩;have k0:=(Xb.cell Xi 0).trans c0;have Z:=Xb;clear Xb)|(go_at_call 207;refine Qa (NT (HV.cut.gr Z) a HX) λw2⟨V,Xc⟩=>?_;rw[HE];have U:=((HR.gr Z).touch V (λh=>HD _ I h.1));have d1:=U.cc 1;have df:=U.free 1;have Xa:=(AX (CF HO Z) V (λg hg h=>HD _ (HS g hg) h.1));rw[<-HN.o]at d1 Xa;have Xe:=V;have Xk:=Xc;clear V Xc)|(at_builtin;refine wpList_append_lies _ rfl _ _ 302 rfl 0 309 ii _ 2 16 underlying302 Xn Xp Xg Xj rfl (by decide) (.slice A N c) N (lgV l) rfl (Xa.alloc _) ⟨w2.heap.size,0,none⟩ 1 1 [iI a,uU (v.ldV a:Nat)] rfl rfl (ζY (cs:=#[iI a,uU (v.ldV a:Nat)]) (t:=309) (fr:=(0,0)) (heap_alloc_new w2 (.cells #[.int .i64 a,.int .u64 (v.ldV a:Nat)] 309))) (by simp[Value.oneCell']) Ω (by unfold maxLen;omega) Ω (ζe _) (w2.heap.size+1) (by simp) ?_;intro g3 c3 w3 Y X E D;have t3:AB (λk=>(Value.slice A N c).ownBlock=some k) w2 w3:=(((Gr.refl _).alloc _).touch _).trans (DT X _ (λk e _=>e));have J:=(U.touch t3 (λe=>AG Xa U (by decide) e rfl rfl));have d3:=J.cc 1;have df3:=J.free 1;have Xf:=t3;have Xd:=Y;have Xh:=(ξ E D);clear Y X E D t3))
 refine ζk (ζh rfl _ _ _) rfl ?_;have hsz1:=Z.size;have hsz2:=Xe.size;have Xl:=Xh;have hT:AB (λi=>S i\/S2 i) w w3:=((Z.touch _).trans (Xe.mono (λi _ hi=>.inr hi.1))).trans (Xf.mono (λi _ hi=>.inl (HS i (by rw[<-HN.o];exact hi))));have Xo:∀i,AD S2 w i->¬(Value.slice A N c).ownBlock=some i:=λi hi e=>HD i (HS i (by rw[<-HN.o];exact e)) hi.1;refine⟨rfl,hT.setCell (a:=⟨k,1,none⟩) (λ_=>.inl I) _,?_,.inl I,by rw[ζm,<-HN.o];simp;omega,λy hy=>(ζs.1 hy).elim (HW.lv y) (λh=>by simp at h;subst h;exact HV.ok.ldV_lt a),.slice (some ⟨g3,0,none⟩) (N+1) c3,Rec.set J 1 _,?_,λg hg=>?_⟩
 ·exact(Xk.touch Xf (λi hi _=>Xo i hi)).touch ((AB.refl (λi=>i=k) w3).setCell (a:=⟨k,1,none⟩) (λ_=>rfl) _) (λi hi _ e=>by subst e;exact HD i I hi.1)
 ·rw[ζm,<-HN.o,show lgV (l++[(a,v.ldV a)])=lgV l++[iI a,uU (v.ldV a:Nat)]by unfold lgV;rw[List.flatMap_append];rfl];exact AW Xd _ (λg hg=>AG Xd J (by decide) hg rfl)
 ·cases hg;rcases Xl.1 with h|h
  ·exact .inl (HS _ (by rw[<-HN.o];exact h))
  ·right
   show w.heap.size<=g3
   omega
end
def QIk(q:Nat)(S2:Nat->Prop)(v:Vm)(a:Int)(x n:Nat)(w1:World):Prop:=AE w1 S2 q (mkV v a x n)
theorem YJ9{v:Vm}{a:Int}:∀{n m:Nat},mkE v a n=0->m<n->v.ldE (a+1+m)=0
 | 0,_,_,h=>absurd h (ζ8 _)
 | n+1,m,h,hm=>by
  have h0:mkE v a n=0:=ξM.1 λhn=>hn ((ZGy hn (Nat.le_succ n)).symm.trans h);rcases Nat.lt_succ_iff_lt_or_eq.1 hm with h1|rfl
  ·exact YJ9 h0 h1
  ·exact(ψ (λe=>e h0)).symm.trans h
structure XvF(w wr:World)(S2:Nat->Prop)(k q:Nat)(v:Vm)(a:Int)(x m:Nat)(l:Lg):Prop where
 wk:ED wr (wkS w k) k (spV q) l
 vm:AE wr S2 q (mkV v a x m)
 ll:l.length=m+1
 t:AB (λi=>wkS w k i\/S2 i) w wr
theorem Jlw(hE:mkE v a (p+f+c)=0)(hs:p+f+c<=255)(hx:x<18446744073709551616)(hW:ED w (λi=>i=k) k (spV q) [])(hV:AE w S2 q v)(hS:∀i,S2 i->i<w.heap.size)(hk:¬S2 k)
  (cA:Rec w bA 3 [iI a]) (cW:Rec w bW 35 [uU x]) (cH:Rec w bH 34 [iI p,iI f,iI c]) (nA:¬S2 bA) (nH:¬S2 bH):Calls prog 164 #[pP k,pP bA,pP bW,pP bH] w
   (Q8 (λi=>wkS w k i\/S2 i) w (QIk q S2 v a x (p+f+c))):=by
 have kA:=cA.cc 0;have kW:=cW.cc 0;obtain⟨vl,hr,-⟩:=hW.row;have A:bA≠k:=AG cA hr (by decide) rfl rfl;have Xk:bH≠k:=AG cH hr (by decide) rfl rfl;have hkl:=hr.lt
 have hd:∀i,wkS w k i->¬S2 i:=λi hi h=>by
  rcases hi with rfl|hi
  ·exact hk h
  ·have:=hS i h;omega
 have Xl:ED w (wkS w k) k (spV q) []:=hW.mono (λi hi=>.inl hi);have HD:=hd;have HE:=Xln hE;have Xr:=(V5 HE Xl hV hd (by simp) hx);have hN:CD ⟨p,f,c⟩=1+(p:Int)+f+c:=θ (DM hs);have U:=(λW=>LH ⟨p,f,c⟩ W);rw[hN]at U;unfold AO at U;have HV:=hV;have E:=cA;have V:=cH;have Z:=(ξ nA (ξ nH (ξ A Xk)));have har:=L6 HE;have hn2:=HV.ok.n2;go_in
 go_wp2_with(first|(go_at_call 165;refine Qa Xr λw1⟨D,Xc,Xb⟩=>?_;have Y:=V.touch D (λh=>h.elim (λh=>h.elim Z.2.2.2 (λh=>absurd V.lt (ξs h))) Z.2.1);have j0:=Y.cc 0;have j1:=Y.cc 1;have j2:=Y.cc 2;have HH1:=Y;have Xm:=D;have Xa:=Xc;have Xg:=Xb)|(go_at_call 81;refine Qa (U _) λw2 J=>?_))
 have Xn:Hid (XvF w w2 S2 k q v a x 0 [(a,v.ldV a)]):=⟨⟨(Xg.gr J).mono (λi hi=>hi.elim id .inr),(Xa.gr J).mono (λi hi=>hi.1),rfl,Xm.trans (J.touch _)⟩⟩
 go_loopw [13] (λi wr=>∃(m:Nat) (l:Lg),m<=p+f+c/\Hid (XvF w wr S2 k q v a x m l)/\i=iI m) (λi _=>p+f+c-(intOf i).toNat)
 case atStart=>exact⟨0,_,by omega,Xn,rfl⟩
 case round=>
  obtain⟨m,l,hm,HI,rfl⟩:=hrel;have Xe:=E.touch HI.o.t (λh=>h.elim (λh=>h.elim Z.2.2.1 (λh=>absurd E.lt (ξs h))) Z.1);have kA1:=Xe.cc 0;by_cases X:m=p+f+c
  ·have d0:decide ((m:Int)<1+(p:Int)+f+c-1)=false:=ζ Ω;have HM:=X;go_wp2;refine ζk (ζh rfl _ _ _) rfl ?_;refine⟨HI.o.t,rfl,?_⟩;rw[<-HM];exact HI.o.vm
  ·have d0:decide ((m:Int)<1+(p:Int)+f+c-1)=true:=φ Ω;have hll:=HI.o.ll;have h1:v.ldE (a+1+m)=0:=YJ9 hE Ω;have Xf:=QBF v a x m (a+1+m);have I:=(V5 (Xf.trans h1) HI.o.wk HI.o.vm HD Ω (x:=0) Ω);have N:=X;go_wp2_with(go_at_call 165;refine Qa I λw3⟨Xp,Xi,Xo⟩=>?_;have Xj:=Xp;have Xd:=Xi;have Xq:=Xo);go_round
   case rel=>
    refine⟨m+1,l++[(a+1+m,(mkV v a x m).ldV (a+1+m))],by have:=N;omega,⟨Xq.mono (λi hi=>hi.elim id (λh=>.inr (ω HI.o.t.size h))),Xd.mono (λi hi=>hi.1),by rw[ζm,HI.o.ll];rfl,HI.o.t.trans Xj⟩,by go_num⟩
   case measure=>have:=N;simp[intOf];omega
theorem V4k(hE:mkE v a (p+f+c)=0)(hV:AE w S q v)(hs:p+f+c<=255)(hx:x<18446744073709551616)
  (cA:Rec w bA 3 [iI a]) (cW:Rec w bW 35 [uU x]) (cH:Rec w bH 34 [iI p,iI f,iI c]) (nA:¬S bA) (nH:¬S bH):Calls prog 154 #[spV q,.func (.func 164) #[] #[pP bA,pP bW,pP bH]] w λe w'=>e=.returned (.agg #[iI 0,iI 0])/\AB S w w'/\AE w' S q (mkV v a x (p+f+c)):=by
 have N:(AP w (spV q)).heap.size=w.heap.size+2:=by unfold AP;rw[π,π]
 obtain⟨W0,X⟩:=ε (FO (AP w (spV q)) (w.heap.size+1));have hsz0:W0.heap.size=w.heap.size+5:=by rw[X];unfold FO;rw[π,π,π,N]
 have g1:Gr w (AP w (spV q)):=((Gr.refl w).alloc _).alloc _;have g2:Gr (AP w (spV q)) W0:=by rw[X];exact(((Gr.refl _).alloc _).alloc _).alloc _
 have g:Gr w W0:=g1.trans g2;have Z:∀i,AD S w i->i<w.heap.size:=λi hi=>hi.2;have Y:=Jlw hE (S2:=AD S w) hs hx ((S8 w (spV q)).gr g2) (hV.cut.gr g) (λi hi=>by have:=Z i hi;omega) (λh=>by have:=Z _ h;omega) (cA.gr g) (cW.gr g) (cH.gr g) (λh=>nA h.1) (λh=>nH h.1)
 have J:=ZR (w:=w) (sp:=spV q) (F:=164) (caps:=#[pP bA,pP bW,pP bH]) ⟨_,_,rfl⟩ (Sx:=λi=>wkS W0 (w.heap.size+1) i\/AD S w i)
  (G:=QIk q (AD S w) v a x (p+f+c)) Xnm (by rw[<-X];exact Y)
  (λi h1 h2 h3 h=>by
   rcases h with(h|h)|h
   ·omega
   ·omega
   ·have:=h.2;omega)
 refine J.mono ?_;rintro e w' ⟨w1,U,V,rfl,hT⟩;rw[<-X]at U
 have T1:AB (λi=>w.heap.size<=i\/S i) w w1:=(g.touch _).trans' U (λi hi h=>by
  rcases h with(h|h)|h
  ·left;omega
  ·left;omega
  ·exact .inr h.1)
 exact⟨rfl,(T1.trans (hT.mono (λi _ h=>.inl h))).mono (λi hi h=>h.resolve_left Ω),(V.touch hT (λi hi _ h=>by have:=hi.2;omega)).mono (λi hi=>hi.1)⟩
theorem Vg0(hV:AE w S q v)(h0:0<a)(hs:p+f+c<=255)(hE:mkE v a (p+f+c)=0):Calls prog 82 #[spV q,iI a,AO ⟨p,f,c⟩] w λe w'=>e=.returned (iI 0)/\AB S w w'/\AE w' (plus S w) q (mkV v a (C8 p f c) (p+f+c)):=by
 have hmf:∀(fn:Fn) (first cap:Array Value) (w:World),(Instr.makeFunc fn first cap).run prog w=.ok (.func fn first cap) w:=λ_ _ _ _=>rfl;have d0:decide (a<=0)=false:=ζ Ω;have HP:=(λW=>Jii hs W)
 have Y:=(λ(W:World) (g:Gr w W) (bW:Nat) (cA:Rec W w.heap.size 3 [iI a]) (cW:Rec W bW 35 [uU (C8 p f c:Nat)]) (cH:Rec W (w.heap.size+1) 34 [iI p,iI f,iI c])=>
  V4k hE (hV.cut.gr g) hs (ZW hs) cA cW cH (λh=>absurd h.2 (ξb _)) (λh=>by have:=h.2;omega))
 unfold AO at HP;unfold spV AO;unfold spV at Y;have hfl:=X1o;go_in
 go_wp2_with(first|(go_at_call 163;refine Qa (HP _) λw1 X=>?_)|(go_at_call 154;have cA:=(((Rec.new w 3 [iI a]).gr ((Gr.refl _).alloc _)).gr X).gr ((Gr.refl w1).alloc (.cells #[.int .u64 (C8 p f c:Nat)] 35));have cH:=((Rec.new (w.alloc (.cells #[.int .i64 a] 3)) 34 [iI p,iI f,iI c]).gr X).gr ((Gr.refl w1).alloc (.cells #[.int .u64 (C8 p f c:Nat)] 35));rw[π]at cH;have cW:=Rec.new w1 35 [uU (C8 p f c:Nat)];refine Qa (Y _ (((((Gr.refl w).alloc _).alloc _).trans X).alloc _) _ cA cW cH) λw2⟨U,Z⟩=>?_;have J:=U;have V:=Z))
 go_ret;refine⟨rfl,((((((Gr.refl w).alloc _).alloc _).trans X).alloc _).touch S).trans (J.mono (λi _ hi=>hi.1)),?_⟩;exact V.mono (λi hi=>.inl hi.1)
theorem Xr0(hV:AE w S q v)(h0:0<a)(hs:p+f+c<=255)(hm:IL v a ⟨p,f,c⟩=0):Calls prog 82 #[spV q,iI a,AO ⟨p,f,c⟩] w λe w'=>e=.returned (iI 0)/\AB S w w'/\AE w' (plus S w) q (mkVm v a ⟨p,f,c⟩):=by
 have hR:IL v a ⟨p,f,c⟩=mkE v a (p+f+c):=by
  unfold IL;rw[ψ Ω,ψ (λh=>h (DM hs))];congr 1
 have hM:mkVm v a ⟨p,f,c⟩=mkV v a (C8 p f c) (p+f+c):=by
  unfold mkVm;rw[θ hm];congr 1
 rw[hM];exact Vg0 hV h0 hs (hR.symm.trans hm)
theorem Xq3{t:Int}(hs:p+f+c<=255)(hn:n=1+p+f+c)(hW:ED w (λi=>i=k) k (spV q) [])(hV:AE w S2 q v)(hS:∀i,S2 i->i<w.heap.size)(hk:¬S2 k)
  (cA:Rec w bA 3 [iI a]) (cT:Rec w bT 3 [iI t]) (cH:Rec w bH 34 [iI p,iI f,iI c]) (nA:¬S2 bA) (nT:¬S2 bT)
  (hl:∀m:Nat,m<n->v.ldE (a+m)=0) (ht:∀m:Nat,m<n->v.ldE (t+m)=0):Calls prog 248 #[pP k,pP bH,pP bA,pP bT] w
   (Q8 (λi=>wkS w k i\/S2 i) w (cpG q S2 v a t n)):=by
 have kA:=cA.cc 0;have kT:=cT.cc 0;obtain⟨j0,j1,j2,hHl⟩:=cH.k3;have hAl:=cA.lt;obtain⟨vl,hr,-⟩:=hW.row;have Xo:bA≠k:=AG cA hr (by decide) rfl rfl;have Xr:bT≠k:=AG cT hr (by decide) rfl rfl;have hkl:=hr.lt;have hN:CD ⟨p,f,c⟩=(n:Int):=by rw[show CD ⟨p,f,c⟩=1+(p:Int)+f+c from θ (DM hs)];omega
 have E:=(λW=>LH ⟨p,f,c⟩ W);rw[hN]at E;unfold AO at E;have HW:=hW;have HV:=hV;have Ya:=cA;have Xi:=cT;have D:=(ξ nA (ξ nT (ξ Xo (ξ Xr hk))));have HL:=hl;have Yb:=ht;have HS:=hS;obtain⟨i0,hi,Xs,Xw,Xy⟩:=info_parts OV;have hn256:n<=256:=Ω
 have hn1:1<=n:=Ω
 have hn2:=hV.ok.n2;have har:=L6 (hl 0 Ω);have har2:=L6 (hl (n-1) Ω);have htr:=L6 (ht 0 Ω);have htr2:=L6 (ht (n-1) Ω);have HB:Hid (i0.bytes*n<=281474976710656):=⟨by rw[Xy];omega⟩;have HM:Hid (n<=maxLen):=⟨by unfold maxLen;omega⟩;clear hr hW hV hS hk nA nT hN cA cT cH hl ht hs hn;go_in
 go_wp2_with(first|(go_at_call 81;refine Qa (E _) λw1 Xn=>?_)|(at_make;refine wpList_make_full _ rfl _ _ 55 rfl w1.heap.size 35 i0 (uU 0) 1 underlying55 hi Xs Xw .i64 .i64 _ _ n rfl rfl ?h1 ?h2 HB.o HM.o (μ _) ?h3))
 case h1=>omega
 case h2=>omega
 case h3=>
  intro w2 N U;have Xe:Gr w1 w2:=(LL U (λ_=>False) (λk e _=>by cases e)).gr;have HO:Hid (w2.ownsRow 0 35 1 (.slice (some ⟨w1.heap.size,0,none⟩) n n) n (CW (cwL v a n 0))):=⟨by rw[YkC,<-YJ3];exact M4 N⟩;have Xv:=ι (Xn.trans Xe);obtain⟨g,hg⟩:=ε w1.heap.size;have Xb:w.heap.size<=g:=by rw[hg];exact Xn.size
  have Xu:Hid (g≠k):=⟨by omega⟩;rw[<-hg]at HO⊢;clear N U Xe hg j0 j1 j2;go_wp2
  go_loopw [14] (λs14 wr=>∃m:Nat,m<=n/\Hid (Gr w wr)/\Hid (wr.ownsRow 0 35 1 (.slice (some ⟨g,0,none⟩) n n) n (CW (cwL v a n m)))/\s14=iI m) (λs14 _=>n-(intOf s14).toNat)
  case atStart=>exact⟨0,by omega,Xv,HO,rfl⟩
  case round=>
   obtain⟨m,hm,Y,J,rfl⟩:=hrel;clear HO kA kT;by_cases X:m=n
   ·subst X;go_wp2;obtain⟨wg,Xl⟩:=ε wr;rw[<-Xl]at Y J⊢;clear Xl;have Xh:=ι (ξ Xb (A9 J.o rfl).2);have Xj:Hid (JEo w wg wg S2 k q g v a t m 0 []):=⟨⟨(HW.gr Y.o).mono (λi hi=>.inl hi),HV.gr Y.o,rfl,J.o,Y.o.touch _,μ _,Xu.o⟩⟩;have hcz:=Y.o.size;clear hm
    go_loopw [28] (λs28 wr=>∃(j:Nat) (l:Lg),j<=m/\Hid (JEo w wg wr S2 k q g v a t m j l)/\s28=iI j) (λs28 _=>m-(intOf s28).toNat)
    case atStart=>exact⟨0,_,by omega,Xj,rfl⟩
    case round=>
     obtain⟨j,l,hj,HI,rfl⟩:=hrel;clear Xj;by_cases X:j=m
     ·subst X;go_wp2;refine ζk (ζh rfl _ _ _) rfl ?_;exact⟨HI.o.t,rfl,HI.o.vm⟩
     ·have Xx:(j:Int)<(m:Int):=Ω
      have kT:=(Xi.touch HI.o.t (λh=>h.elim (λh=>h.elim D.2.2.2.1 (λh=>absurd Xi.lt (ξs h))) D.2.1)).cell (j:=0) rfl;have kc:=BU HI.o.row (PC v a (m:=m) (show j<m by omega));rw[θ Ω]at kc
      have HD:Hid (∀i,wkS wg k i->¬S2 i):=⟨λi hi h=>by
       rcases hi with rfl|hi
       ·exact D.2.2.2.2 h
       ·have:=HS i h;omega⟩
      have Xc:=HV.ok.ldV_lt (a+j);obtain⟨y,hy⟩:=ε (v.ldV (a+j));rw[<-hy]at kc Xc;have HY:=ι hy;have Xq:=HI.o.ll;have HE:Hid ((cpV v a t j).ldE (t+j)=0):=⟨by rw[(X3 v a t j).ldE];exact Yb j Ω⟩;have Xp:=ι (V5 HE.o HI.o.wk HI.o.vm HD.o Ω Xc);have Z:=ι X;clear X hy Xq;go_wp2_with(go_at_call 165;refine Qa Xp.o λw3⟨Xm,Xf,Xk⟩=>?_;have A:=ι Xm;have Xt:=ι Xf;have Yc:=ι Xk;clear Xm Xf Xk);go_round
      case rel=>
       have hz:=HI.o.t.size;have Xg:wg.heap.size<=wr.heap.size:=HI.o.wz;refine⟨j+1,l++[(t+j,(cpV v a t j).ldV (t+j))],by have:=Z.o;omega,⟨⟨Yc.o.mono (λi hi=>hi.elim id (λh=>.inr (ω Xg h))),?_,by rw[ζm,HI.o.ll];rfl,AX HI.o.row A.o (λg' hg' h=>?_),HI.o.t.trans (A.o.mono (λi hi h=>?_)),ω Xg A.o.size,HI.o.gk⟩⟩,by go_num⟩
       ·have:=Xt.o.mono (T:=S2) (λi hi=>hi.1);rw[HY.o]at this;exact this
       ·cases hg';rcases h with(h|h)|h
        ·exact HI.o.gk h
        ·have h:wg.heap.size<=g:=h;have:=Xh.o.2;omega
        ·have:g<w.heap.size:=HS _ h;have:=Xh.o.1;omega
       ·rcases h with(h|h)|h
        ·exact .inl (.inl h)
        ·exact .inl (.inr Ω)
        ·exact .inr h
      case measure=>have:=Z.o;simp[intOf];omega
   ·have Xx:(m:Int)<(n:Int):=Ω
    have kA:=(Ya.gr Y.o).cell (j:=0) rfl;have hE:=HL m Ω;have Xa:=ι (XeL hE (HW.gr Y.o) (HV.gr Y.o));have Z:=ι X;obtain⟨y,hy⟩:=ε (v.ldV (a+m));have HY:=ι hy;rw[<-hy]at Xa;have kc:=BU J.o (PC v a (m:=m) (show m<n by omega));have kf:=GG J.o m;clear X hE hy;go_wp2_with(go_at_call 227;refine Xa.o.mono ?_;rintro e w3 ⟨I,rfl⟩;have V:=ι (CF J.o I);have kc3:=BU V.o (PC v a (m:=m) (show m<n by have:=Z.o;omega));have kf3:=GG V.o m;have hgl3:=(A9 V.o rfl).2;have Xz:=ι (Y.o.trans I);clear I);go_round
    case rel=>
     refine⟨m+1,by have:=Z.o;omega,⟨?_⟩,⟨?_⟩,by go_num⟩
     ·refine((Xz.o.touch (λi=>w.heap.size<=i)).setCell (a:=⟨g,m,none⟩) (λ_=>Xb) _ |>.mono (T:=λ_=>False) (λi hi h=>by omega)).gr
     ·have:=(World.ownsRow.stored V.o m (uU (y:Nat))).1;rw[HY.o,Z0I]at this;rw[HY.o];exact this
    case measure=>have:=Z.o;simp[intOf];omega
theorem XXq(hV:AE w S q v){t:Int}(hs:p+f+c<=255)(hn:n=1+p+f+c)
  (cA:Rec w bA 3 [iI a]) (cT:Rec w bT 3 [iI t]) (cH:Rec w bH 34 [iI p,iI f,iI c]) (nA:¬S bA) (nT:¬S bT)
  (hl:∀m:Nat,m<n->v.ldE (a+m)=0) (ht:∀m:Nat,m<n->v.ldE (t+m)=0):Calls prog 154 #[spV q,.func (.func 248) #[] #[pP bH,pP bA,pP bT]] w λe w'=>
   e=.returned (.agg #[iI 0,iI 0])/\AB S w w'/\AE w' S q (cpV v a t n):=by
 have hsz:(AP w (spV q)).heap.size=w.heap.size+2:=by unfold AP;simp_all
 obtain⟨W0,X⟩:=ε (FO (AP w (spV q)) (w.heap.size+1));have hsz0:W0.heap.size=w.heap.size+5:=by rw[X];unfold FO;simp_all
 have g1:Gr w (AP w (spV q)):=((Gr.refl w).alloc _).alloc _;have g2:Gr (AP w (spV q)) W0:=by rw[X];exact(((Gr.refl _).alloc _).alloc _).alloc _
 have g:Gr w W0:=g1.trans g2;have hS2:∀i,AD S w i->i<w.heap.size:=λi hi=>hi.2;have hbody:=Xq3 (S2:=AD S w) hs hn ((S8 w (spV q)).gr g2) (hV.cut.gr g) (λi hi=>by grind) (λh=>by grind) (cA.gr g) (cT.gr g) (cH.gr g) (λh=>nA h.1) (λh=>nT h.1) hl ht
 have Z:=ZR (w:=w) (sp:=spV q) (F:=248) (caps:=#[pP bH,pP bA,pP bT]) ⟨_,_,rfl⟩ (Sx:=λi=>wkS W0 (w.heap.size+1) i\/AD S w i)
  (G:=cpG q (AD S w) v a t n) Z5j (by simp_all)
  (λi h1 h2 h3 h=>by
   rcases h with(h|h)|h
   ·omega
   ·omega
   ·have:=h.2;omega)
 refine Z.mono ?_;rintro e w' ⟨w1,Y,J,rfl,hT⟩;rw[<-X]at Y
 have T1:AB (λi=>w.heap.size<=i\/S i) w w1:=(g.touch _).trans' Y (λi hi h=>by
  rcases h with(h|h)|h
  ·left;omega
  ·left;omega
  ·exact .inr h.1)
 exact⟨rfl,(T1.trans (hT.mono (λi _ h=>.inl h))).mono (λi hi h=>h.resolve_left Ω),(J.touch hT (λi hi _ h=>by have:=hi.2;omega)).mono (λi hi=>hi.1)⟩
theorem QmA(hV:AE w S q v){t:Int}(hr:v.rdE a=0)(hn:(n:Int)=v.osz a)(h0:0<t)(hl:∀m:Nat,m<n->v.ldE (a+m)=0)(ht:∀m:Nat,m<n->v.ldE (t+m)=0):Calls prog 194 #[spV q,iI a,iI t] w λe w'=>e=.returned (iI 0)/\AB S w w'/\AE w' (plus S w) q (cpV v a t n):=by
 have d0:decide (t<=0)=false:=ζ Ω;obtain⟨-,-,p,f,c,hh,hs⟩:=GP hr
 have V:n=1+p+f+c:=by
  unfold Vm.osz at hn;rw[hh,show CD ⟨p,f,c⟩=1+(p:Int)+f+c from θ (DM hs)]at hn;omega
 have Z:=(λ(w':World) (g:Gr w w')=>Q6 (hV.gr g) a)
 have Y:=(λ(W:World) (g:Gr w W) (bH:Nat) (cA:Rec W w.heap.size 3 [iI a]) (cT:Rec W (w.heap.size+1) 3 [iI t]) (cH:Rec W bH 34 [iI p,iI f,iI c])=>
  XXq (hV.cut.gr g) hs V cA cT cH (λh=>absurd h.2 (ξb _)) (λh=>by have:=h.2;omega) hl ht)
 have hfl:=X1o;unfold AO at Z;go_in
 go_wp2_with(first|(go_at_call 95;refine Qa (Z _ (((Gr.refl w).alloc _).alloc _)) λw1 J=>?_;have rt:=(Rec.new (w.alloc (.cells #[.int .i64 a] 3)) 3 [iI t]).gr J;rw[π]at rt;have kt:=rt.cc 0;have ktl:=rt.lt;have X:=J)|(go_at_call 154;have cA:=(((Rec.new w 3 [iI a]).gr ((Gr.refl _).alloc _)).gr X).gr ((Gr.refl w1).alloc (.cells #[.int .i64 p,.int .i64 f,.int .i64 c] 34));have cT:=((Rec.new (w.alloc (.cells #[.int .i64 a] 3)) 3 [iI t]).gr X).gr ((Gr.refl w1).alloc (.cells #[.int .i64 p,.int .i64 f,.int .i64 c] 34));rw[π]at cT;have cH:=Rec.new w1 34 [iI p,iI f,iI c];refine Qa (Y _ (((((Gr.refl w).alloc _).alloc _).trans X).alloc _) _ cA cT cH) λw2⟨I,U⟩=>?_;have N:=I;have E:=U))
 go_ret;refine⟨rfl,((((((Gr.refl w).alloc _).alloc _).trans X).alloc _).touch S).trans (N.mono (λi _ hi=>hi.1)),?_⟩;exact E.mono (λi hi=>.inl hi.1)
def RD(v:Value):Option (DataW Value×List MemPlace):=some (.held v,[])
def BH(P:Program)(K:TypeId)(w:World)(b n:Nat)(f:Int->Option Value):Prop:=
 ∃D:DataW Value,w.ownsMap P K RD b n D/\∀x:Int,(Lit.int .i64 x).wf=true->Maps.has D (.int .i64 x)=(f x).isSome/\∀v,f x=some v->∀z,D.atKey (.int .i64 x) z=.held v
section
variable{K:TypeId}{f:Int->Option Value}
theorem BH.made(w:World):BH P K (w.alloc (.map #[] 0)) w.heap.size 0 (λ_=>none):=
 ⟨.map [],World.ownsMap_made _ _ _ _,λ_ _=>⟨rfl,λ_ h=>by cases h⟩⟩
theorem BH.lt(h:BH P K w b n f):b<w.heap.size:=by obtain⟨D,h,-⟩:=h;exact h.lt
theorem BH.touch(h:BH P K w b n f)(t:AB S w w')(hS:¬S b):BH P K w' b n f:=by
 obtain⟨D,h,hf⟩:=h;have Y:=h.lt;obtain⟨es,X,hb,r⟩:=h;exact⟨D,⟨es,X,(t.block b Y hS).trans hb,r⟩,hf⟩
theorem BH.gr(h:BH P K w b n f)(t:Gr w w'):BH P K w' b n f:=h.touch (t.touch (λ_=>False)) (λh=>h)
theorem BH.congr(h:BH P K w b n f){g:Int->Option Value}(hg:∀x,f x=g x):BH P K w b n g:=by
 have:f=g:=funext hg
 simp_all
theorem BH.ne{T:Nat}(h:BH P K w b n f)(hq:∃cs fr,w.heap[q]?=some (.cells cs T fr)):b≠q:=by
 rintro rfl;obtain⟨D,⟨es,clock,hb,-⟩,-⟩:=h
 simp_all
theorem BH.look_ok(h:BH P K w b n f)(KI:Maps.Keyed P K){t:TypeId}(ht:P.underlying t=some (.map K e))(hk:P.underlying K=some (.int .i64))(hz:(zeroValue e).run P w=.ok z w){x:Int}(hx:(Lit.int .i64 x).wf=true):
  (Instr.lookup t (.map (some b)) (.int .i64 x) true).run P w=.ok (.tuple #[(f x).getD z,.bool (f x).isSome]) w:=by
 obtain⟨D,hD,hf⟩:=h;obtain⟨v,ps,hr,hv⟩:=hD.look_ok KI ht hz (zd:=.held z) (zp:=[]) rfl (Maps.keyOf_int_mk hk hx);obtain⟨h1,h2⟩:=hf x hx;rw[hr,h1];unfold RD at hv;simp only[Option.some.injEq,Prod.mk.injEq]at hv;cases hfx:f x with
 | none=>
  rw[hfx]at h1;have:=hv.1;rw[Maps.atKey_of_not_has h1]at this
  grind
 | some u=>
  simp_all
theorem BH.look(h:BH P K w b n f)(KI:Maps.Keyed P K){t:TypeId}(ht:P.underlying t=some (.map K e))(hk:P.underlying K=some (.int .i64))(hz:(zeroValue e).run P w=.ok z w){x:Int}(hx:(Lit.int .i64 x).wf=true):
  (Instr.lookup t (.map (some b)) (.int .i64 x) false).run P w=.ok ((f x).getD z) w:=by
 obtain⟨D,hD,hf⟩:=h;obtain⟨v,ps,hr,hv⟩:=hD.lookup KI ht hz (zd:=.held z) (zp:=[]) rfl (Maps.keyOf_int_mk hk hx);obtain⟨h1,h2⟩:=hf x hx;rw[hr];unfold RD at hv;simp only[Option.some.injEq,Prod.mk.injEq]at hv;cases hfx:f x with
 | none=>
  rw[hfx]at h1;have:=hv.1;rw[Maps.atKey_of_not_has h1]at this
  grind
 | some u=>
  simp_all
end
theorem X8(w:World){ops:Array Oper}{rest:List Oper}{o:Oper}{a:Act}
  (hg:o.guard=none) (m x v:Operand) (t:TypeId) (hop:o.op=Op.mapUpdate t m x v)
  (k e:TypeId) (K:Maps.Keyed P k) (ht:P.underlying t=some (.map k e)) (hk:P.underlying k=some (.int .i64)) (b n:Nat) (f:Int->Option Value)
  (hm:a.eval m=.map (some b)) (hown:BH P k w b n f) (hn:n<maxLen) (key:Int) (val:Value) (hx:a.eval x=.int .i64 key) (hv:a.eval v=val) (hw:(Lit.int .i64 key).wf=true)
  (hK:∀w',BH P k w' b (n+1) (λy=>if y=key then some val else f y)->AB (λi=>i=b) w w'->wpList P ops Q rest (a.put o.dst undef) w'):
  wpList P ops Q (o :: rest) a w:=by
 obtain⟨D,hD,hf⟩:=hown;have X:=Maps.keyOf_int_mk (P:=P) hk hw;refine wpList_mapUpdate_own w hg m x v t hop k e K ht RD b n D hm hD hn (.int .i64 key) val _ hx hv X (.held val) [] rfl λw' h1 h2=>?_;refine hK w' ⟨_,h1,λy hy=>?_⟩ (DT h2 _ (λi hi _=>by cases hi;rfl));by_cases e:y=key
 ·subst e;dsimp only;rw[θ rfl];refine⟨Maps.has_put_same hD.isMap (K.key X) _,λv hv z=>?_⟩;cases hv;exact Maps.atKey_put_same hD.isMap (K.key X) _ _
 ·dsimp only;rw[ψ e];have Y:(Lit.int .i64 y)≠.int .i64 key:=λh=>e (by injection h);exact⟨(Maps.has_put_other Y _).trans (hf y hy).1,λv hv z=>(Maps.atKey_put_other Y _ _).trans ((hf y hy).2 v hv z)⟩
theorem OM(w:World):(zeroValue 3).run prog w=.ok (iI 0) w:=by kernel_rfl
theorem GQ:Maps.Keyed prog 3:=Maps.int_keyed underlying3
def MF(v:Vm)(O:List Int)(to:Int)(x:Int):Option Value:=if x∈O then some (iI (B7 v O to x))else none
structure CpS(v:Vm)(rs:List Int)(L:List Ob)(to:Nat)(O:List Int)(k i:Nat)(v':Vm):Prop where
 nd:O.Nodup
 rch:∀a∈O,Rch v rs a
 cp:Cpd v v' to O k i
 kn:MR v O k i
 lt:k<O.length\/(k=O.length/\i=0)
structure DG(w:World)(S:Nat->Prop)(K M q:Nat)(v:Vm)(to:Nat)(O:List Int)(v':Vm):Prop where
 rc:Rec w K 198 [pP q,.map (some M),iI ((to:Int)+AK v O)]
 mp:BH prog 3 w M O.length (MF v O to)
 vm:AE w S q v'
 nK:¬S K
 nM:¬S M
theorem DG.gr(h:DG w S K M q v to O v')(g:Gr w w'):DG w' S K M q v to O v':=
 ⟨h.rc.gr g,h.mp.gr g,h.vm.gr g,h.nK,h.nM⟩
theorem JH{T:Nat}{xs:List Value}(h:Rec w q T xs):∃cs fr,w.heap[q]?=some (.cells cs T fr):=by
 obtain⟨cur,h1⟩:=H9 h rfl
 simp_all
theorem DG.ne(h:DG w S K M q v to O v'):M≠K:=h.mp.ne (JH h.rc)
def SO(w:World)(S:Nat->Prop)(K M q:Nat)(v:Vm)(rs:List Int)(L:List Ob)(to:Nat)(O:List Int)(k i:Nat)(a:Int)(e:Ending)(w':World):Prop:=
 ∃v'',e=.returned (iI (B7 v (CV O a) to a))/\AB (λb=>(b=K\/b=M)\/S b) w w'/\DG w' (plus S w) K M q v to (CV O a) v''/\CpS v rs L to (CV O a) k i v''
theorem DG.plus{w0:World}(h:DG w S K M q v to O v')(hz:K<w0.heap.size/\M<w0.heap.size):DG w (plus S w0) K M q v to O v':=
 ⟨h.rc,h.mp,h.vm.mono (λ_ h=>.inl h),λh'=>h'.elim h.nK (λh=>absurd hz.1 (ξs h)),λh'=>h'.elim h.nM (λh=>absurd hz.2 (ξs h))⟩
theorem DG.lt(h:DG w S K M q v to O v'):K<w.heap.size/\M<w.heap.size:=⟨h.rc.lt,h.mp.lt⟩
theorem VYh(h:DG w S K M q v to O v')(ha:-9223372036854775808<=a/\a<=9223372036854775807):
  (Instr.lookup 129 (.map (some M)) (iI a) true).run prog w=.ok (.tuple #[iI (if a∈O then B7 v O to a else 0),.bool (decide (a∈O))]) w:=by
 rw[h.mp.look_ok GQ underlying129 underlying3 (OM w) (WalkArith.wf_i64 ha)];unfold MF
 grind
theorem CpS.zero(c:DY v rs L to)(h:CpS v rs L to O k i v'):(0:Int)∉O:=λhm=>by
 have:=(DQ (c.mks.sound.rd _ (h.rch 0 hm))).1;omega
theorem Zz2(hC:DG w S K M q v to O v')(c:DY v rs L to)(hf:GI v L)(hs:CpS v rs L to O k i v'){a:Nat}(ha:a=0\/Rch v rs a)(ha2:a<=2147483647):Calls prog 127 #[pP K,.int .i64 a] w (SO w S K M q v rs L to O k i a):=by
 have Xq:=hs.zero c;have HC:=hC;have HS:=hs;by_cases h0:a=0
 ·subst h0;have X:CV O ((0:Nat):Int)=O:=θ (.inl rfl)
  have hE:Hid (SO w S K M q v rs L to O k i ((0:Nat):Int) (.returned (.int .i64 0)) w):=⟨by
   refine⟨v',?_,AB.refl _ _,?_,?_⟩
   ·rw[X,show B7 v O to ((0:Nat):Int)=0 from QN v _ Xq]
   ·rw[X];exact hC.plus hC.lt
   ·rw[X];exact hs⟩
  clear hC c hf hs ha X;go_in;go_wp2;go_ret;exact hE.o
 ·have d0:((a:Int)==0)=false:=by simp;omega
  have Xh:=VYh hC (a:=a) Ω;have c1:=hC.rc.cc 1;by_cases hm:(a:Int)∈O
  ·have X:CV O (a:Int)=O:=θ (.inr hm);rw[θ hm,φ hm]at Xh
   have hE:Hid (SO w S K M q v rs L to O k i (a:Int) (.returned (.int .i64 (B7 v O to a))) w):=⟨by
    refine⟨v',?_,AB.refl _ _,?_,?_⟩
    ·rw[X]
    ·rw[X];exact hC.plus hC.lt
    ·rw[X];exact hs⟩
   clear hC c hf hs ha X hm h0;generalize B7 v O to a=y at *
   go_in;go_wp2;go_ret;exact hE.o
  ·have X:CV O (a:Int)=O++[(a:Int)]:=ψ (λh=>h.elim Ω hm);rw[ψ hm,ζ hm]at Xh;have hr:=ha.resolve_left h0;obtain⟨q1,q2,q3,q4⟩:=c.same hf hs.nd hs.rch hs.cp hr;have V:v'.osz a=v.osz a:=by unfold Vm.osz;rw[q3]
   obtain⟨-,-,p,f,cc,hh,Ye⟩:=GP q2;have hp:=DQ q2;obtain⟨z,hz⟩:∃z:Nat,(z:Int)=v.osz a:=⟨(v.osz a).toNat,by omega⟩;obtain⟨t1,t2,t3,t4⟩:=Cpd.take c hf hs.nd hs.rch hs.cp hs.kn hs.lt hr hm z hz;obtain⟨tp,D⟩:∃tp:Nat,(tp:Int)=to+AK v O:=⟨((to:Int)+AK v O).toNat,by have:=G2 v O;omega⟩;rw[<-D]at t1 t2 t3;have c0:=hC.rc.cc 0;have c2:=hC.rc.cc 2;rw[<-D]at c2;have hn2:=c.ok.n2;have hpos:=c.pos;have Xz:=G2 v O;have Xb:=(λ(W:World) (g:Gr w W)=>Q6 (hC.vm.gr g) (a:Int));rw[q2,hh]at Xb;have hN:CD ⟨p,f,cc⟩=(z:Int):=by rw[hz,<-V];unfold Vm.osz;rw[hh]
   have Xg:=(λW=>LH ⟨p,f,cc⟩ W);rw[hN]at Xg;have Xs:=(λ(W:World) (g:Gr w W)=>QmA (hC.vm.cut.gr g) (a:=a) (t:=tp) (n:=z) q2 (by rw[hz,V]) Ω (λm hm=>(q4 m Ω).1) t1)
   have Xi:Hid (B7 v (O++[(a:Int)]) to a=tp/\(to:Int)+AK v (O++[(a:Int)])=(tp:Int)+z):=⟨by
    rw[V7 v _ _ hm,OZ];refine⟨?_,?_⟩
    ·rw[D];exact θ rfl
    ·simp only[AK];omega⟩
   have Xw:Hid (CpS v rs L to (O++[(a:Int)]) k i (cpV v' a tp z)):=⟨⟨by
     have:=V8 hs.nd (a:Int);rwa [X]at this,λb hb=>by
     rcases ζs.1 hb with hb|hb
     ·exact hs.rch b hb
     ·rw[ζO.1 hb];exact hr,t3,t4,by
     rw[ζm,ξt];rcases hs.lt with h|h <;> left <;> omega⟩⟩
   have Xl:O.length<9223372036854775807:=by
    have h1:=c.sum hs.nd hs.rch
    have h2:(O.length:Int)<=AK v O:=by
     have:∀l:List Int,(∀b∈l,Rch v rs b)->(l.length:Int)<=AK v l:=λl=>by
      induction l with
      | nil=>intro _;exact ψV _
      | cons b r ih=>
       intro hl;have:=ih (λx hx=>hl x (ζB _ hx));have:=(DQ (c.mks.sound.rd _ (hl b (ζu ..)))).2.1;simp only[AK,ζD];push_cast;omega
     exact this O hs.rch
    have:=c.top;omega
   have HLK:=Xh;have J:=ι X;have Xj:=ι D;have Xc:=ι hC.lt;have Xy:Hid (O.length<maxLen):=⟨Xl⟩;have Ya:Hid ((Lit.int .i64 (a:Int)).wf=true):=⟨WalkArith.wf_i64 Ω⟩
   have Yb:Hid (∀y:Int,(if y=(a:Int)then some (Value.int .i64 tp)else MF v O to y)=MF v (O++[(a:Int)]) to y):=⟨λy=>by
    unfold MF;by_cases e:y=(a:Int)
    ·rw[θ e,θ (by rw[e];simp),e,Xi.o.1]
    ·rw[ψ e];by_cases hy:y∈O
     ·rw[θ hy,θ (ξq _ hy),YAF v _ _ hy]
     ·rw[ψ hy,ψ (λh=>(ζs.1 h).elim hy (λh=>e (ζO.1 h)))]⟩
   have Xr:=ι hC.ne;have HMEM:=ι hm;unfold AO at Xb Xg;unfold spV at Xb Xs;have hKl:=hC.lt;clear hC c hf hs ha X hm h0 hr q1 q2 q3 q4 V hh Ye hp hz t1 t3 t4 D hN Xq Xz Xl;go_in
   go_upto_region 10 with(first|(go_at_call 95;refine Qa (Xb _ (Gr.refl w)) λw1 Xf=>?_;have U:=ι Xf;have I:=ι (HC.rc.gr Xf);have x0:=I.o.cc 0;have x1:=I.o.cc 1;have x2:=I.o.cc 2;rw[<-Xj.o]at x2;have xl:=I.o.lt;clear Xf)|(go_at_call 194;refine Qa (Xs _ (U.o.alloc _)) λw2⟨E,Xo⟩=>?_;have Yg:=ι E;have Yc:=ι Xo;have N:=ι ((I.o.gr ((Gr.refl w1).alloc (.cells #[.int .i64 p,.int .i64 f,.int .i64 cc] 34))).touch E (λh=>HC.nK h.1));have Xv:=ι ((HC.mp.gr (U.o.alloc (.cells #[.int .i64 p,.int .i64 f,.int .i64 cc] 34))).touch E (λh=>HC.nM h.1));have Xx:=ι ((Rec.new w1 34 [.int .i64 p,.int .i64 f,.int .i64 cc]).touch E (λh=>by have h1:=h.2;have h2:=U.o.size;omega));have y0:=N.o.cc 0;have y1:=N.o.cc 1;have y2:=N.o.cc 2;rw[<-Xj.o]at y2;have yl:=N.o.lt;clear E Xo)|(at_mapUpdate;refine X8 _ rfl _ _ _ 129 rfl 3 3 GQ underlying129 underlying3 M O.length (MF v O to) rfl Xv.o Xy.o (a:Int) (.int .i64 tp) rfl rfl Ya.o ?_;intro w3 Xp Xd;have Yf:=ι (Xp.congr Yb.o);have Xu:=ι Xd;have A:=ι (N.o.touch Xd (λh=>Xr.o h.symm));have Xa:=ι (Xx.o.touch Xd (λh=>by have h1:=Xc.o.2;have h2:=U.o.size;omega));clear Xp Xd))
   have u2:=A.o.cc 2;rw[<-Xj.o]at u2;have uf:=A.o.free 2;have ul:=A.o.lt;obtain⟨e0,e1,e2,el⟩:=Xa.o.k3;obtain⟨hb,Xt⟩:=ε w1.heap.size;rw[<-Xt]at e0 e1 e2 el⊢;clear Xt
   have KS:Hid (∀W',Gr w3 W'->(W'.cell? ⟨K,2,none⟩=some (.int .i64 tp)/\W'.cell? ⟨hb,0,none⟩=some (.int .i64 p))/\W'.cell? ⟨hb,1,none⟩=some (.int .i64 f)/\W'.cell? ⟨hb,2,none⟩=some (.int .i64 cc)):=
    ⟨λW' h=>⟨⟨(h.cell ul 2).trans u2,(h.cell el 0).trans e0⟩,(h.cell el 1).trans e1,(h.cell el 2).trans e2⟩⟩
   obtain⟨Sx,Y⟩:=ε (λW'=>Gr w3 W':World->Prop);have z1:∀p':AA Sx,p'.w.cell? ⟨K,2,none⟩=some (.int .i64 tp):=λp=>(KS.o _ (AA.get Y p)).1.1;have z2:∀p':AA Sx,p'.w.cell? ⟨hb,0,none⟩=some (.int .i64 p):=λp=>(KS.o _ (AA.get Y p)).1.2;have z3:∀p':AA Sx,p'.w.cell? ⟨hb,1,none⟩=some (.int .i64 f):=λp=>(KS.o _ (AA.get Y p)).2.1;have z4:∀p':AA Sx,p'.w.cell? ⟨hb,2,none⟩=some (.int .i64 cc):=λp=>(KS.o _ (AA.get Y p)).2.2;have Xe:Sx w3.drew:=by rw[Y];exact(Gr.refl w3).drew
   have Yd:=ι Y;have Xm:Inhabited (AA Sx):=⟨⟨_,Xe⟩⟩;clear Y x0 x1 x2 xl y0 y1 y2 yl c0 c1 c2 e0 e1 e2 el;simp only[Act.put];refine BI Sx 9 [([0,1,2,3,4],5),([6,7,8],9)] [] Xe ?_;refine AL ?_;go_wp2_with(go_at_call 81;refine Qa (Xg _) λw4 Xn=>?_;have Z:=ι ((Gr.refl w3).drew.trans Xn);have uf4:=(Z.o.frozen ul 2).trans uf;have u4:=(Z.o.cell ul 2).trans u2;clear Xn);refine⟨.inr (AA.of (by rw[Yd.o];exact Z.o)),?_⟩;refine AL ?_;go_wp2;refine⟨.inl trivial,?_⟩;refine EM ?_;refine ζb ?_;refine ζx ?_;clear z1 z2 z3 z4 Xe Xm;go_wp2;go_ret;have hz1:=U.o.size;have T3:AB (λb=>(b=K\/b=M)\/S b) w w3:=(((U.o.alloc _).touch _).trans (Yg.o.mono (λb _ h=>.inr h.1))).trans (Xu.o.mono (λb _ h=>.inl (.inr h)));have T5:=(T3.trans (Z.o.touch _)).setCell (a:=⟨K,2,none⟩) (λ_=>.inl (.inl rfl)) (.int .i64 ((tp:Int)+z));have tK:=(AB.refl (λb=>b=K) w4).setCell (a:=⟨K,2,none⟩) (λ_=>rfl) (.int .i64 ((tp:Int)+z))
   have Xk:∀b,(b=K\/b=M)->¬plus (AD S w) (w1.alloc (.cells #[.int .i64 p,.int .i64 f,.int .i64 cc] 34)) b:=λb hb h=>by
    rw[plus,π]at h;have:=Xc.o;rcases hb with rfl|rfl
    ·rcases h with h|h
     ·exact HC.nK h.1
     ·omega
    ·rcases h with h|h
     ·exact HC.nM h.1
     ·omega
   refine⟨cpV v' a tp z,?_,T5,⟨?_,?_,?_,?_,?_⟩,?_⟩
   ·rw[J.o,Xi.o.1];rfl
   ·rw[J.o,Xi.o.2];exact(A.o.gr Z.o).set 2 (.int .i64 ((tp:Int)+z))
   ·rw[J.o,ζm,ξt];exact(Yf.o.gr Z.o).touch tK Xr.o
   ·exact((((Yc.o.touch Xu.o (λb hb _ e=>Xk b (.inr e) hb)).gr Z.o).touch tK (λb hb _ e=>Xk b (.inl e) hb))).mono (λb hb=>by
     rcases hb with h|h
     ·exact .inl h.1
     ·rw[π]at h;right;omega)
   ·exact λh=>h.elim HC.nK (λh=>by have:=Xc.o.1;omega)
   ·exact λh=>h.elim HC.nM (λh=>by have:=Xc.o.2;omega)
   ·rw[J.o];exact Xw.o
structure QRU(w wr:World)(S Si:Nat->Prop)(K M q hb:Nat)(v:Vm)(rs:List Int)(L:List Ob)(to:Nat)(O:List Int)(k:Nat)(ob:Int)(p f c i:Nat)(Oi:List Int)(vi:Vm):Prop where
 cat:DG wr Si K M q v to Oi vi
 st:CpS v rs L to Oi k i vi
 oi:Oi=DV O ((EB v ob).take i)
 sub:∀b,Si b->plus S w b
 rh:Rec wr hb 34 [iI p,iI f,iI c]
 nh:¬Si hb
 lh:w.heap.size<=hb
 t:AB (λb=>(b=K\/b=M)\/S b) w wr
def Y7m(w:World)(S:Nat->Prop)(K M q:Nat)(v:Vm)(rs:List Int)(L:List Ob)(to:Nat)(O:List Int)(k:Nat)(e:Ending)(w':World):Prop:=
 ∃v'',e=.returned (iI ((to:Int)+AK v (O.take (k+1))))/\AB (λb=>(b=K\/b=M)\/S b) w w'/\DG w' (plus S w) K M q v to (DV O (EB v (O.getD k 0))) v''/\CpS v rs L to (DV O (EB v (O.getD k 0))) (k+1) 0 v''
theorem JP(h:i<l.length):l.take (i+1)=l.take i++[l[i]]:=by simp_all
theorem MV(hj:j<l.length)(a:Int):∃h:j<(CV l a).length,(CV l a)[j]=l[j]/\(CV l a).take j=l.take j:=by
 obtain⟨Y,hY⟩:=YE l a
 grind
theorem CpS.field(c:DY v rs L to)(hs:CpS v rs L to O k i v')(hj:j<l.length){b:Int}(hO:O=CV l b){t:Int}(ha:l[j]=a)(ht:t=to+AK v (l.take j))(hm:(m:Int)<(v.rdH a).p):
  v'.plE t m 1=0/\v'.ldE (t+1+m)=0:=by
 obtain⟨h1,h2,h3⟩:=MV hj b;subst hO;have:=(Cpd.copy c hs.nd hs.rch hs.cp h1 (t:=t) (by simp_all)).2.2.2 m
 simp_all
theorem ZQS(hC:DG w S K M q v to O v')(c:DY v rs L to)(hf:GI v L)(hs:CpS v rs L to O k 0 v')(hk:k<O.length):Calls prog 128 #[pP K,iI ((to:Int)+AK v (O.take k))] w (Y7m w S K M q v rs L to O k):=by
 obtain⟨ob,Xz⟩:=ε (O.getD k 0);have V:O[k]=ob:=by rw[Xz,κ,τ hk];rfl
 obtain⟨t,ht⟩:∃t:Nat,(t:Int)=to+AK v (O.take k):=⟨((to:Int)+AK v (O.take k)).toNat,by have:=G2 v (O.take k);omega⟩;have hr:=hs.rch _ (χ hk);rw[V]at hr;have Ze:=c.mks.sound.rd _ hr;obtain⟨-,-,p,f,cc,hh,Yd⟩:=GP Ze;have Xo:v.osz ob=((1+p+f+cc:Nat):Int):=by unfold Vm.osz;rw[hh,show CD ⟨p,f,cc⟩=1+(p:Int)+f+cc from θ (DM Yd)];push_cast;rfl
 have E:=Cpd.copy c hs.nd hs.rch hs.cp hk ht;rw[V]at E;have Xj:=(λ(W:World) (g:Gr w W)=>Q6 (hC.vm.gr g) (t:Int));rw[E.1,E.2.1,hh]at Xj;have Yf:=(λW=>LH ⟨p,f,cc⟩ W);rw[show CD ⟨p,f,cc⟩=1+(p:Int)+f+cc from θ (DM Yd)]at Yf;have Xa:(EB v ob).length=p:=by rw[VX,hh];rfl
 have Xq:(to:Int)+AK v (O.take (k+1))=(t:Int)+(1+p+f+cc):=by
  rw[MG v hk,V,Xo,ht];push_cast;omega
 have J:(t:Int)+(1+p+f+cc)<=v.n:=by
  have h1:=c.sum hs.nd hs.rch;have h2:=UU v O (k+1);have:=c.top;omega
 have hn2:=c.ok.n2;have c0:=hC.rc.cc 0;have HC:=hC;have HS:=hs;have Z:=(ξ c hf);have N:=(ξ Xz (ξ (show ∀h:k<O.length,O[k]=ob from λ_=>V) (ξ hr (ξ hh (ξ Yd Xa)))));have HK:=hk;have HT:=ι ht;have Yl:=ι Xq;have Zf:=hC.lt;rw[<-ht];have hplast:p<=255:=Ω
 unfold AO at Xj Yf;unfold spV at Xj;clear hC hs c hf Xz V hr Ze hh Xo E Xa Xq ht hk;go_in
 go_upto_region 2 with(first|(go_at_call 95;refine Qa (Xj _ (Gr.refl w)) λw1 Yt=>?_;have Xg:=ι Yt;have Yb:=ι (Rec.new w1 34 [iI p,iI f,iI cc]);clear Yt))
 have e0:=Yb.o.cc 0;have el:=Yb.o.lt;have Zk:=Xg.o.size
 have Yg:Hid (QRU w (w1.alloc (.cells #[.int .i64 p,.int .i64 f,.int .i64 cc] 34)) S (AD S w) K M q w1.heap.size v rs L to O k ob p f cc 0 O v'):=⟨
  ⟨⟨(HC.gr (Xg.o.alloc _)).rc,(HC.gr (Xg.o.alloc _)).mp,(HC.vm.cut.gr (Xg.o.alloc _)),λh=>HC.nK h.1,λh=>HC.nM h.1⟩,HS,by simp[DV],λb hb=>.inl hb.1,Yb.o,λh=>by have:=h.2;omega,Zk,(Xg.o.alloc _).touch _⟩⟩
 obtain⟨hb,Yz⟩:=ε w1.heap.size;rw[<-Yz]at e0 el Yg⊢;clear Yz;go_wp2
 go_loopw [22] (λs22 wr=>∃(i:Nat) (Oi:List Int) (vi:Vm) (Si:Nat->Prop),i<=p/\Hid (QRU w wr S Si K M q hb v rs L to O k ob p f cc i Oi vi)/\s22=iI i) (λs22 _=>p-(intOf s22).toNat)
 case atStart=>exact⟨0,O,v',_,by omega,Yg,rfl⟩
 case round=>
  obtain⟨i,Oi,vi,Si,hi,HI,rfl⟩:=hrel;clear e0 el Yg c0;obtain⟨X,hX⟩:=YN O ((EB v ob).take i);rw[<-HI.o.oi]at hX;have D:k<Oi.length:=by rw[hX,ζm];have:=HK;omega
  have Xb:Oi[k]=ob:=by
   have:=N.2.1 HK;simp only[hX,ζJ HK];exact this
  have Xh:(t:Int)=to+AK v (Oi.take k):=by rw[HT.o,hX,ξK (ξV HK)]
  by_cases J:i=p
  ·subst J;have x0:=HI.o.rh.cc 0;have x1:=HI.o.rh.cc 1;have x2:=HI.o.rh.cc 2;have Yy:=Cpd.next HI.o.st.cp HI.o.st.kn D (by rw[Xb,N.2.2.2.1])
   have Zd:Oi=DV O (EB v (O.getD k 0)):=by rw[<-N.1,HI.o.oi,ξe (by rw[N.2.2.2.2.2];exact μ _)]
   have Yn:=ι Yy;have Ys:=ι Zd;have Y:=ι D;clear Yy Zd hX D Xb Xh;go_wp2_with(go_at_call 81;refine Qb (Yf _) λw3 Yv=>?_);go_ret;have hc:=HI.o.cat.gr Yv.o;refine⟨vi,?_,HI.o.t.trans (Yv.o.touch _),?_,?_⟩
   ·rw[Yl.o];rfl
   ·rw[<-Ys.o];exact⟨hc.rc,hc.mp,hc.vm.mono HI.o.sub,λh=>h.elim HC.nK (λh=>by have:=Zf.1;omega),λh=>h.elim HC.nM (λh=>by have:=Zf.2;omega)⟩
   ·rw[<-Ys.o];exact⟨HI.o.st.nd,HI.o.st.rch,Yn.o.1,Yn.o.2,by have:=Y.o;omega⟩
  ·have Xs:=Cpd.copy Z.1 HI.o.st.nd HI.o.st.rch HI.o.st.cp D Xh;rw[Xb]at Xs;have Xc:(i:Int)<(v.rdH ob).p:=by rw[N.2.2.2.1];show (i:Int)<(p:Int);omega
   obtain⟨Yx,Yu⟩:=Xs.2.2.1 rfl i (μ _) Xc;have Yh:=Z.1.mks.sound.pt _ N.2.2.1 i Xc;have Xm:=LI Yh;have Xn:=ι (λ(W:World) (g:Gr wr W)=>ZZi (HI.o.cat.vm.gr g) (t:Int) i);rw[Yx,Yu]at Xn;have Xv:i<(EB v ob).length:=by rw[N.2.2.2.2.2];omega
   have Zb:=ZI v ob Xv;have Xi:=JP Xv;rw[Zb]at Xi
   have Xl:v.ldV (ob+1+i)=0\/Rch v rs (v.ldV (ob+1+i):Nat):=by
    by_cases h0:v.ldV (ob+1+i)=0
    ·exact .inl h0
    ·right;have hh:=N.2.2.1;exact hh.step ⟨Z.1.mks.sound.rd _ hh,i,Xc,Yh,by rw[Xm.1];exact h0,by rw[Xm.1]⟩
   have Yi:=Xm.2.1;obtain⟨pv,Xe⟩:=ε (v.ldV (ob+1+i));rw[<-Xe]at Xn Xi Xl Yi;have Xp:=V8 HI.o.st.nd (pv:Int)
   have I:∀b∈CV Oi (pv:Int),Rch v rs b:=λb hb=>by
    rcases PE.1 hb with h|⟨rfl,h0⟩
    ·exact HI.o.st.rch b h
    ·exact Xl.resolve_left Ω
   obtain⟨xN,Xt,Ym⟩:∃xN:Nat,(xN:Int)=B7 v (CV Oi (pv:Int)) to pv/\xN<=2147483647:=by
    by_cases h0:pv=0
    ·refine⟨0,?_,by omega⟩;rw[h0,QN v _ (λh=>by have:=(DQ (Z.1.mks.sound.rd _ (I _ (by rw[h0];exact h)))).1;omega)];rfl
    ·have h1:=XE v (to:Int) (PE (O:=Oi).2 (.inr ⟨rfl,(by omega:(pv:Int)≠0)⟩));have h2:=Z.1.sum Xp I;have h3:=Z.1.top;have h4:=V6 v (pv:Int);exact⟨(B7 v (CV Oi (pv:Int)) to pv).toNat,by omega,by omega⟩
   have Xy:=ι (λ(W:World) (g:Gr wr W)=>Zz2 (HI.o.cat.gr g) Z.1 Z.2 HI.o.st Xl Yi);unfold SO at Xy;rw[<-Xt]at Xy;have Xr:=ι Xe;have Ye:=ι (ξ Xt Ym);have Zj:=ι Xi;have Y:=ι (ξ D (ξ Xh (ξ hX (show ∀h:k<Oi.length,Oi[k]=ob from λ_=>Xb))));have Zg:=ι Xc;have y0:=HI.o.cat.rc.cc 0;have yl:=HI.o.cat.rc.lt;have x0:=HI.o.rh.cc 0;have Xw:=ι J;have hiI:(i:Int)<(p:Int):=Ω
   have Zh:=HI.o.rh.lt;unfold spV at Xn;clear Xs Xc Yx Yu Yh Xm Xv Zb Xi Xl Yi Xe Xp I Xt Ym D Xh hX Xb J;go_upto_region 6 with(go_at_call 168;refine Qa (Xn.o _ (Gr.refl _)) λw2 Yc=>?_;have Xd:=ι Yc;have Xx:=(Yc.cell yl 0).trans y0;clear Yc);have KS:Hid (∀W',Gr w2 W'->W'.cell? ⟨K,0,none⟩=some (pP q)):=⟨λW' h=>(h.cell (ϑ yl Xd.o.size) 0).trans Xx⟩;obtain⟨Sx,Xk⟩:=ε (λW'=>W'.cell? ⟨K,0,none⟩=some (pP q):World->Prop);have z1:∀p':AA Sx,p'.w.cell? ⟨K,0,none⟩=some (pP q):=λp=>AA.get Xk p;have Ya:Sx w2.drew:=by rw[Xk];exact Xx
   have Zl:=ι Xk;have Yp:Inhabited (AA Sx):=⟨⟨_,Ya⟩⟩;clear Xk y0 Xx x0 Zh;refine BI Sx 10 [([0,1,2,3,4,5,6,7,8],9),([],10)] [] Ya ?_;refine AL ?_;go_wp2_with(go_at_call 127;refine(Xy.o _ Xd.o.drew).mono ?_;rintro e w3 ⟨v2,rfl,Zc,Yj,Xu⟩;have Yk:=ι Zc;have U:=ι Yj;have A:=ι Xu;have Zi:=ι (CpS.field Z.1 Xu Y.o.1 rfl (Y.o.2.2.2 Y.o.1) Y.o.2.1 Zg.o);have u0:=Yj.rc.cc 0;clear Zc Yj Xu);refine⟨.inr (AA.of (by rw[Zl.o];exact u0)),?_⟩;refine P4 ?_;simp only[AF,υ,ν];refine ζb ?_;go_wp2_with(go_at_call 166;have Za:=QRl U.o.vm Zi.o.1 Ye.o.2;unfold spV at Za;refine Qa Za λw4⟨Yw,Yo⟩=>?_;have Xf:=ι Yw;have Zm:=ι Yo;clear Yw Yo);refine⟨.inl trivial,?_⟩;refine EM ?_;refine ζb ?_;refine ζx ?_;clear z1 Ya Yp u0;go_wp2;have hzr:=HI.o.t.size;have hz2:=Xd.o.size;have hz3:=Yk.o.size;have hz4:=Xf.o.size;have hzd:w2.drew.heap.size=w2.heap.size:=rfl;have hbl:=HI.o.rh.lt;have hKr:=HI.o.cat.lt;go_round
   case rel=>
    have Yq:=Cpd.set Z.1 A.o.nd A.o.rch A.o.cp A.o.kn (MV Y.o.1 (pv:Int)).1 (t:=(t:Int)) (by rw[(MV Y.o.1 (pv:Int)).2.2];exact Y.o.2.1) (by rw[(MV Y.o.1 (pv:Int)).2.1,Y.o.2.2.2 Y.o.1];exact Zg.o)
     (by rw[(MV Y.o.1 (pv:Int)).2.1,Y.o.2.2.2 Y.o.1,<-Xr.o];by_cases h0:(pv:Int)=0;(· exact .inl h0);(· exact .inr (PE.2 (.inr ⟨rfl,h0⟩)))) (x:=xN) (by rw[(MV Y.o.1 (pv:Int)).2.1,Y.o.2.2.2 Y.o.1,<-Xr.o];exact Ye.o.1) (by have:=Ye.o.2;omega)
    refine⟨i+1,CV Oi (pv:Int),v2.st ((t:Int)+1+i) xN,plus (plus Si w2.drew) w3,by have:=Xw.o;omega,⟨⟨⟨?_,?_,Zm.o,?_,?_⟩,⟨A.o.nd,A.o.rch,Yq.1,Yq.2,.inl (MV Y.o.1 (pv:Int)).1⟩,?_,?_,?_,?_,HI.o.lh,?_⟩⟩,by go_num⟩
    ·exact U.o.rc.touch Xf.o U.o.nK
    ·exact U.o.mp.touch Xf.o U.o.nM
    ·exact λh=>h.elim U.o.nK (λh=>by have:=U.o.lt.1;omega)
    ·exact λh=>h.elim U.o.nM (λh=>by have:=U.o.lt.2;omega)
    ·rw[Zj.o,WT,<-HI.o.oi]
    ·intro b hb;rcases hb with(h|h)|h
     ·exact HI.o.sub b h
     ·right;omega
     ·right;omega
    ·refine(((HI.o.rh.gr Xd.o.drew).touch Yk.o (λh=>?_))).touch Xf.o (λh=>?_)
     ·have:=HI.o.lh;rcases h with(h|h)|h
      ·omega
      ·omega
      ·exact HI.o.nh h
     ·rcases h with h|h
      ·exact HI.o.nh h
      ·omega
    ·intro h;rcases h with(h|h)|h
     ·exact HI.o.nh h
     ·omega
     ·omega
    ·have t2:=HI.o.t.trans (Xd.o.drew.touch _)
     have t3:=t2.trans' Yk.o (λb hb h=>by
      rcases h with h|h
      ·exact .inl h
      ·exact(HI.o.sub b h).elim .inr (λh=>by omega))
     refine t3.trans' Xf.o (λb hb h=>?_);rcases h with h|h
     ·exact(HI.o.sub b h).elim .inr (λh=>by omega)
     ·omega
   case measure=>simp[intOf];omega
inductive ET where
 | fin (qs:List Nat)
 | one (qs:List Nat) (k:Nat) (t:ET)
 | two (qs:List Nat) (k1:Nat) (t1:ET) (k2:Nat) (t2:ET)
variable{t1 t2:ET}
def ET.len:ET->Nat
 | .fin qs=>qs.length
 | .one qs _ t=>qs.length+(t.len+1)
 | .two qs _ t1 _ _=>qs.length+(t1.len+1)
def G9(md:Region.Mode)(ops:Array Oper):List Nat->Array Bool->Option (Array Bool)
 | [],listed=>some listed
 | k :: r,listed=>if (Region.ready md ops listed).contains k&&Region.free md ops listed k&&((ops[k]?).any H8)then G9 md ops r (listed.setIfInBounds k true)else none
def FQ(md:Region.Mode)(ops:Array Oper):ET->Array Bool->Bool
 | .fin qs,listed=>match G9 md ops qs listed with
  | some l=>(Region.ready md ops l).isEmpty
  | none=>false
 | .one qs k t,listed=>match G9 md ops qs listed with
  | some l=>decide (Region.ready md ops l=[k])&&FQ md ops t (l.setIfInBounds k true)
  | none=>false
 | .two qs k1 t1 k2 t2,listed=>match G9 md ops qs listed with
  | some l=>decide (Region.ready md ops l=[k1,k2])&&decide (t1.len=t2.len)&&FQ md ops t1 (l.setIfInBounds k1 true)&&FQ md ops t2 (l.setIfInBounds k2 true)
  | none=>false
def GS(P:Program)(l:List Oper)(S:World->Prop)(Q:Exit->Act->World->Prop):ET->Act->World->Prop
 | .fin qs,a,w=>wpQuiet P l.toArray S (λa'=>Q .normal a' w) (AF l qs) a
 | .one qs k t,a,w=>wpQuiet P l.toArray S (λa'=>wpList P l.toArray (Exit.then (λa2 w2=>S w2/\GS P l S Q t a2 w2) Q) (AF l [k]) a' w) (AF l qs) a
 | .two qs k1 t1 k2 t2,a,w=>wpQuiet P l.toArray S (λa'=>wpList P l.toArray (Exit.then (λa2 w2=>S w2/\GS P l S Q t1 a2 w2) Q) (AF l [k1]) a' w/\wpList P l.toArray (Exit.then (λa2 w2=>S w2/\GS P l S Q t2 a2 w2) Q) (AF l [k2]) a' w) (AF l qs) a
section
variable{l:List Oper}{S:World->Prop}{z:Nat}
theorem SZ(hsel:Region.noSelect l.toArray=true)(hQ:∀c a b w,Q (.panic c) b w->Q (.panic c) a w)(hz:DF md l.toArray z=true){w:World}(hS:S w){K:Act->Prop}{f:Nat}{l':Array Bool}
  (hK:∀a,BE md l.toArray l'->K a->IZ P md l.toArray Q S z f l' a w):
  ∀(qs:List Nat) (listed:Array Bool) (a:Act),G9 md l.toArray qs listed=some l'->BE md l.toArray listed->wpQuiet P l.toArray S K (AF l qs) a →
   IZ P md l.toArray Q S z (qs.length+f) listed a w
 | [],listed,a,hB,hc,h=>by
  simp only[G9,Option.some.injEq]at hB;subst hB;simpa using hK a hc h
 | k :: qs,listed,a,hB,hc,h=>by
  simp only[G9]at hB
  split at hB
  ·rename_i hb;simp only[ζd]at hb;obtain⟨⟨hr,hf⟩,hq⟩:=hb;cases ho:l.toArray[k]? with
   | none=>simp_all
   | some o=>
    rw[ho]at hq;have Y:k∈Region.ready md l.toArray listed:=by simp_all
    rw[EK ho]at h;simp only[wpQuiet]at h
    have hy:∃v,YieldsIf P l.toArray S o v a/\wpQuiet P l.toArray S K (AF l qs) (a.put o.dst v):=by
     split at h
     ·rename_i hw;obtain⟨v,h1,h2⟩:=h
      grind [MP]
     ·rename_i hw;exact⟨undef,.inr ⟨by simp_all,rfl⟩,h⟩
    obtain⟨v,hy,Z⟩:=hy;have X:(k :: qs).length+f=(qs.length+f)+1:=by simp;omega
    rw[X];exact JDV ho (Region.noSelect_spec hsel) (λc a w h=>hQ c a _ w h) hz _ listed a w hc (Region.free_spec ho hf) Y hy hS (SZ hsel hQ hz hS hK qs _ _ hB (hc.set Y) Z)
  ·cases hB
theorem UL(hsel:Region.noSelect l.toArray=true)(hQ:∀c a b w,Q (.panic c) b w->Q (.panic c) a w)(hz:DF md l.toArray z=true):
  ∀(t:ET) (listed:Array Bool) (a:Act) (w:World),FQ md l.toArray t listed=true->BE md l.toArray listed->S w->GS P l S Q t a w->IZ P md l.toArray Q S z t.len listed a w
 | .fin qs,listed,a,w,hB,hc,hS,h=>by
  simp only[FQ]at hB
  split at hB
  ·rename_i l' hl;exact SZ (f:=0) (K:=λa'=>Q .normal a' w) hsel hQ hz hS (λa _ h=>⟨by simpa using hB,h⟩) qs listed a hl hc h
  ·cases hB
 | .one qs k t,listed,a,w,hB,hc,hS,h=>by
  simp only[FQ]at hB
  split at hB
  ·rename_i l' hl;simp only[ζd,ζg]at hB;obtain⟨hr,hB'⟩:=hB;refine SZ hsel hQ hz hS (λa hc h=>?_) qs listed a hl hc h;have X:k∈Region.ready md l.toArray l':=by rw[hr];simp
   refine⟨λh0=>(by rw[hr]at h0;cases h0),λi hi=>?_⟩;rw[hr]at hi;obtain rfl:i=k:=by simpa using hi
   obtain⟨_,o,ho,_⟩:=mem_ready.1 X;rw[EK ho]at h;exact ML ho (λa2 w2 h2=>⟨.inr h2.1,UL hsel hQ hz t _ a2 w2 hB' (hc.set X) h2.1 h2.2⟩) h
  ·cases hB
 | .two qs k1 t1 k2 t2,listed,a,w,hB,hc,hS,h=>by
  simp only[FQ]at hB
  split at hB
  ·rename_i l' hl;simp only[ζd,ζg]at hB;obtain⟨⟨⟨hr,Y⟩,J⟩,Z⟩:=hB;refine SZ hsel hQ hz hS (λa hc h=>?_) qs listed a hl hc h;refine⟨λh0=>(by rw[hr]at h0;cases h0),λi hi=>?_⟩;have X:i∈Region.ready md l.toArray l':=hi;rw[hr]at hi;obtain⟨_,o,ho,_⟩:=mem_ready.1 X;have hi:i=k1\/i=k2:=by simpa using hi
   rcases hi with rfl|rfl
   ·have h:=h.1;rw[EK ho]at h;exact ML ho (λa2 w2 h2=>⟨.inr h2.1,UL hsel hQ hz t1 _ a2 w2 J (hc.set X) h2.1 h2.2⟩) h
   ·have h:=h.2;rw[EK ho]at h;rw[Y];exact ML ho (λa2 w2 h2=>⟨.inr h2.1,UL hsel hQ hz t2 _ a2 w2 Z (hc.set X) h2.1 h2.2⟩) h
  ·cases hB
theorem JzF{a:Act}(S:World->Prop)(t:ET)(hm:P.follows .mixedOrders=true)
  (hB:(Region.noSelect l.toArray&&FQ .any l.toArray t (Array.replicate l.toArray.size false)&&t.len==l.toArray.size)=true) (hS:S w.drew)
  (h:GS P l (λw'=>∃p:AA S,w'=p.w) (NoPanic Q) t a w.drew):(Code.region id l.toArray true).wp P Q a w:=by
 simp only[ζd,ξk]at hB;obtain⟨⟨Y,hB⟩,X⟩:=hB;refine wp_region_noPanic (wp_region_any hm ?_);have hz:DF .any l.toArray l.toArray.size=true:=by unfold DF;simp
 have:=UL (P:=P) (Q:=NoPanic Q) (S:=λw'=>∃p:AA S,w'=p.w) (md:=.any) Y (λc a b w h=>h) hz t _ a w.drew hB (BE.none .any l.toArray) (AA.of hS) h;rw[X]at this;exact Z0 _ _ _ _ this
theorem JVh{a:Act}(S:World->Prop)(t:ET)(hS:S w.drew)(h:GS P l (λw'=>∃p:AA S,w'=p.w) (NoPanic Q) t a w.drew)(hm:P.follows .mixedOrders=true:=by kernel_rfl)(hB:(Region.noSelect l.toArray&&FQ .any l.toArray t (Array.replicate l.toArray.size false)&&t.len==l.toArray.size)=true:=by kernel_rfl) :(Code.region id l.toArray true).wp P Q a w := JzF S t hm hB hS h
end
section
variable{F:Fence}
def G4(F:Fence)(n:Nat)(P:Program)(l:List Oper)(S:World->Prop)(Q:Exit->Act->World->Prop):ET->Act->World->Prop
 | .fin qs,a,w=>wpQuiet P l.toArray S (λa'=>Q .normal a' w) (AF l qs) a
 | .one qs k t,a,w=>wpQuiet P l.toArray S (λa'=>wpListIn F n P l.toArray (Exit.then (λa2 w2=>S w2/\G4 F n P l S Q t a2 w2) Q) (AF l [k]) a' w) (AF l qs) a
 | .two qs k1 t1 k2 t2,a,w=>wpQuiet P l.toArray S (λa'=>wpListIn F n P l.toArray (Exit.then (λa2 w2=>S w2/\G4 F n P l S Q t1 a2 w2) Q) (AF l [k1]) a' w/\wpListIn F n P l.toArray (Exit.then (λa2 w2=>S w2/\G4 F n P l S Q t2 a2 w2) Q) (AF l [k2]) a' w) (AF l qs) a
section
variable{l:List Oper}{S:World->Prop}{z:Nat}
theorem QV(hF:∀f,F.fn f)(hnd:GY l.toArray=true)(hsel:Region.noSelect l.toArray=true)(hQ:∀c a b w,Q (.panic c) b w->Q (.panic c) a w)(hz:DF md l.toArray z=true){w:World}(hS:S w){K:Act->Prop}{f:Nat}{l':Array Bool}
  (hK:∀a,BE md l.toArray l'->K a->IE F n P md l.toArray Q S z f l' a w):
  ∀(qs:List Nat) (listed:Array Bool) (a:Act),G9 md l.toArray qs listed=some l'->BE md l.toArray listed->wpQuiet P l.toArray S K (AF l qs) a →
   IE F n P md l.toArray Q S z (qs.length+f) listed a w
 | [],listed,a,hB,hc,h=>by
  simp only[G9,Option.some.injEq]at hB;subst hB;simpa using hK a hc h
 | k :: qs,listed,a,hB,hc,h=>by
  simp only[G9]at hB
  split at hB
  ·rename_i hb;simp only[ζd]at hb;obtain⟨⟨hr,hf⟩,hq⟩:=hb;cases ho:l.toArray[k]? with
   | none=>simp_all
   | some o=>
    rw[ho]at hq;have Y:k∈Region.ready md l.toArray listed:=by simp_all
    rw[EK ho]at h;simp only[wpQuiet]at h
    have hy:∃v,YieldsIf P l.toArray S o v a/\wpQuiet P l.toArray S K (AF l qs) (a.put o.dst v):=by
     split at h
     ·rename_i hw;obtain⟨v,h1,h2⟩:=h
      grind [MP]
     ·rename_i hw;exact⟨undef,.inr ⟨by simp_all,rfl⟩,h⟩
    obtain⟨v,hy,Z⟩:=hy;have X:(k :: qs).length+f=(qs.length+f)+1:=by simp;omega
    rw[X];exact Qio hF hnd ho (Region.noSelect_spec hsel) (λc a w h=>hQ c a _ w h) hz _ listed a w hc (Region.free_spec ho hf) Y hy hS (QV hF hnd hsel hQ hz hS hK qs _ _ hB (hc.set Y) Z)
  ·cases hB
theorem RJ(hF:∀f,F.fn f)(hnd:GY l.toArray=true)(hsel:Region.noSelect l.toArray=true)(hQ:∀c a b w,Q (.panic c) b w->Q (.panic c) a w)(hz:DF md l.toArray z=true):
  ∀(t:ET) (listed:Array Bool) (a:Act) (w:World),FQ md l.toArray t listed=true->BE md l.toArray listed->S w->G4 F n P l S Q t a w->IE F n P md l.toArray Q S z t.len listed a w
 | .fin qs,listed,a,w,hB,hc,hS,h=>by
  simp only[FQ]at hB
  split at hB
  ·rename_i l' hl;exact QV (n:=n) (f:=0) (K:=λa'=>Q .normal a' w) hF hnd hsel hQ hz hS (λa _ h=>⟨by simpa using hB,h⟩) qs listed a hl hc h
  ·cases hB
 | .one qs k t,listed,a,w,hB,hc,hS,h=>by
  simp only[FQ]at hB
  split at hB
  ·rename_i l' hl;simp only[ζd,ζg]at hB;obtain⟨hr,hB'⟩:=hB;refine QV hF hnd hsel hQ hz hS (λa hc h=>?_) qs listed a hl hc h;have X:k∈Region.ready md l.toArray l':=by rw[hr];simp
   refine⟨λh0=>(by rw[hr]at h0;cases h0),λi hi=>?_⟩;rw[hr]at hi;obtain rfl:i=k:=by simpa using hi
   obtain⟨_,o,ho,_⟩:=mem_ready.1 X;rw[EK ho]at h;exact QY ho (λa2 w2 h2=>⟨.inr h2.1,RJ hF hnd hsel hQ hz t _ a2 w2 hB' (hc.set X) h2.1 h2.2⟩) h
  ·cases hB
 | .two qs k1 t1 k2 t2,listed,a,w,hB,hc,hS,h=>by
  simp only[FQ]at hB
  split at hB
  ·rename_i l' hl;simp only[ζd,ζg]at hB;obtain⟨⟨⟨hr,Y⟩,J⟩,Z⟩:=hB;refine QV hF hnd hsel hQ hz hS (λa hc h=>?_) qs listed a hl hc h;refine⟨λh0=>(by rw[hr]at h0;cases h0),λi hi=>?_⟩;have X:i∈Region.ready md l.toArray l':=hi;rw[hr]at hi;obtain⟨_,o,ho,_⟩:=mem_ready.1 X;have hi:i=k1\/i=k2:=by simpa using hi
   rcases hi with rfl|rfl
   ·have h:=h.1;rw[EK ho]at h;exact QY ho (λa2 w2 h2=>⟨.inr h2.1,RJ hF hnd hsel hQ hz t1 _ a2 w2 J (hc.set X) h2.1 h2.2⟩) h
   ·have h:=h.2;rw[EK ho]at h;rw[Y];exact QY ho (λa2 w2 h2=>⟨.inr h2.1,RJ hF hnd hsel hQ hz t2 _ a2 w2 Z (hc.set X) h2.1 h2.2⟩) h
  ·cases hB
theorem Jav{a:Act}(S:World->Prop)(t:ET)(hF:∀f,F.fn f)(hm:P.follows .mixedOrders=true)
  (hB:(GY l.toArray&&Region.noSelect l.toArray&&FQ .any l.toArray t (Array.replicate l.toArray.size false)&&t.len==l.toArray.size)=true) (hS:S w.drew)
  (h:G4 F n P l (λw'=>∃p:AA S,w'=p.w) (NoPanic Q) t a w.drew):(Code.region id l.toArray true).wpIn F n P Q a w:=by
 simp only[ζd,ξk]at hB;obtain⟨⟨⟨Z,X⟩,hB⟩,Y⟩:=hB;refine wpIn_mono (wpIn_region_any hm ?_) NoPanic.imp;have hz:DF .any l.toArray l.toArray.size=true:=by unfold DF;simp
 have:=RJ (F:=F) (n:=n) (P:=P) (Q:=NoPanic Q) (S:=λw'=>∃p:AA S,w'=p.w) (md:=.any) hF Z X (λc a b w h=>h) hz t _ a w.drew hB (BE.none .any l.toArray) (AA.of hS) h;rw[Y]at this;exact RE _ _ _ _ this
theorem Q25{a:Act}(S:World->Prop)(t:ET)(hF:∀f,F.fn f)(hS:S w.drew)(h:G4 F n P l (λw'=>∃p:AA S,w'=p.w) (NoPanic Q) t a w.drew)(hm:P.follows .mixedOrders=true:=by kernel_rfl)(hB:(GY l.toArray&&Region.noSelect l.toArray&&FQ .any l.toArray t (Array.replicate l.toArray.size false)&&t.len==l.toArray.size)=true:=by kernel_rfl) :(Code.region id l.toArray true).wpIn F n P Q a w := Jav S t hF hm hB hS h
theorem YAC{a:Act}(h:wpQuiet P l.toArray S (λa'=>Q .normal a' w) (AF l qs) a):G4 F n P l S Q (.fin qs) a w:=h
theorem JV{t:ET}{a:Act}(h:wpQuiet P l.toArray S (λa'=>wpListIn F n P l.toArray (Exit.then (λa2 w2=>S w2/\G4 F n P l S Q t a2 w2) Q) (AF l [k]) a' w) (AF l qs) a):G4 F n P l S Q (.one qs k t) a w:=h
theorem ST{a:Act}(h:wpQuiet P l.toArray S (λa'=>wpListIn F n P l.toArray (Exit.then (λa2 w2=>S w2/\G4 F n P l S Q t1 a2 w2) Q) (AF l [k1]) a' w/\wpListIn F n P l.toArray (Exit.then (λa2 w2=>S w2/\G4 F n P l S Q t2 a2 w2) Q) (AF l [k2]) a' w) (AF l qs) a):G4 F n P l S Q (.two qs k1 t1 k2 t2) a w:=h
end
end
section
variable{l:List Oper}{S:World->Prop}
theorem Vy6{a:Act}(h:wpQuiet P l.toArray S (λa'=>Q .normal a' w) (AF l qs) a):GS P l S Q (.fin qs) a w:=h
theorem PJ{t:ET}{a:Act}(h:wpQuiet P l.toArray S (λa'=>wpList P l.toArray (Exit.then (λa2 w2=>S w2/\GS P l S Q t a2 w2) Q) (AF l [k]) a' w) (AF l qs) a):GS P l S Q (.one qs k t) a w:=h
theorem RV{a:Act}(h:wpQuiet P l.toArray S (λa'=>wpList P l.toArray (Exit.then (λa2 w2=>S w2/\GS P l S Q t1 a2 w2) Q) (AF l [k1]) a' w/\wpList P l.toArray (Exit.then (λa2 w2=>S w2/\GS P l S Q t2 a2 w2) Q) (AF l [k2]) a' w) (AF l qs) a):GS P l S Q (.two qs k1 t1 k2 t2) a w:=h
end
theorem YV8(k:Nat)(hk:k<=10):2 ^ k<=1024:=Nat.pow_le_pow_right (by decide) hk
theorem QCZ{n:Int}(h:BQ n=true):∃k:Nat,k<=10/\n=((2 ^ k:Nat):Int):=by
 simp[BQ]at h;rcases h with rfl|rfl|rfl|rfl|rfl|rfl|rfl|rfl|rfl|rfl|rfl
 ·exact⟨0,by decide,rfl⟩
 ·exact⟨1,by decide,rfl⟩
 ·exact⟨2,by decide,rfl⟩
 ·exact⟨3,by decide,rfl⟩
 ·exact⟨4,by decide,rfl⟩
 ·exact⟨5,by decide,rfl⟩
 ·exact⟨6,by decide,rfl⟩
 ·exact⟨7,by decide,rfl⟩
 ·exact⟨8,by decide,rfl⟩
 ·exact⟨9,by decide,rfl⟩
 ·exact⟨10,by decide,rfl⟩
theorem XB7(hk:k<=63)(hx:x<18446744073709551616):x &&& (18446744073709551615-(2 ^ k-1))=x/2 ^ k*2 ^ k:=by
 have h2:2 ^ k<=2 ^ 63:=Nat.pow_le_pow_right (by decide) hk;have h3:0<2 ^ k:=Nat.two_pow_pos k
 have e:18446744073709551615-(2 ^ k-1)=(2 ^ (64-k)-1)*2 ^ k:=by
  rw[Nat.sub_mul,<-Nat.pow_add,show 64-k+k=64 by omega];omega
 rw[e];apply ξm;intro i;rw[Nat.testBit_and,Nat.testBit_mul_two_pow,Nat.testBit_mul_two_pow,Nat.testBit_div_two_pow,Nat.testBit_two_pow_sub_one];by_cases hi:k<=i
 ·rw[φ hi,show i-k+k=i by omega];by_cases h64:i<64
  ·grind
  ·have:x.testBit i=false:=Nat.testBit_lt_two_pow (ϑ (show x<2 ^ 64 from hx) (Nat.pow_le_pow_right (by decide) Ω))
   simp_all
 grind
theorem ZgG(hk:k<=10)(hx:x<9223372036854775808):bits .andNot .i64 (x:Int) ((2 ^ k:Nat)-1:Int)=((x/2 ^ k*2 ^ k:Nat):Int):=by
 have hp:=YV8 k hk;have h3:0<2 ^ k:=Nat.two_pow_pos k
 have h1:(BitVec.ofInt 64 (x:Int)).toNat=x:=by
  grind
 have e:((2 ^ k:Nat)-1:Int)=((2 ^ k-1:Nat):Int):=Ω
 have h2:(BitVec.ofInt 64 ((2 ^ k:Nat)-1:Int)).toNat=2 ^ k-1:=by
  grind
 show IntKind.i64.wrap ((BitVec.ofInt 64 (x:Int) &&& ~~~ BitVec.ofInt 64 ((2 ^ k:Nat)-1:Int)).toNat:Int)=_
 rw[BitVec.toNat_and,BitVec.toNat_not,h1,h2];have:2 ^ 64-1-(2 ^ k-1)=18446744073709551615-(2 ^ k-1):=rfl;rw[this,XB7 Ω Ω];have hle:x/2 ^ k*2 ^ k<=x:=ζn x _;exact ζp _ Ω
theorem JRC(n:Nat)(hn:n<=1152921504606846976){u:Int}(hu:BQ u=true)(w:World):
  cQ 281 #[iI n,iI u] w (.bool true):=by
 have hb:=DR hu;have HP:Hid (C0 u=true):=⟨by grind [OA]⟩;have d1:decide ((n:Int)<=1152921504606846976)=true:=φ Ω;go_enter func281,ntmps281;go_wp2_with(go_at_call 182;refine Qa (KY u Ω _) λw1 rfl=>?_;rw[HP.o]);go_ret
 simp_all
theorem Xnz(n B:Nat)(hn:n<=1152921504606846976)(hB:BQ B=true)(w:World):
  cQ 244 #[iI n,iI B] w (iI ((n+B-1)/B*B:Nat)):=by
 have hb:=DR hB;obtain⟨k,hk,e⟩:=QCZ hB;have e':B=2 ^ k:=Int.ofNat.inj e
 have HE:Hid (bits .andNot .i64 ((n:Int)+(B:Int)-1) ((B:Int)-1)=(((n+B-1)/B*B:Nat):Int)):=⟨by
  grind [ZgG]⟩
 clear e e';go_enter func244,ntmps244;go_wp2_with(go_at_call 281;refine Qa (JRC n hn hB _) λw1 rfl=>?_);go_ret;exact⟨AU HE.o,rfl⟩
structure Cf where
 fr:Nat
 tp:Nat
 to:Nat
 lm:Nat
 bk:Nat
 st:Nat
 ah:Nat
def cfV(c:Cf):Value:=.agg #[iI c.fr,iI c.tp,iI c.to,iI c.lm,iI c.bk,iI c.st,iI c.ah]
def upN(n B:Nat):Nat:=(n+B-1)/B*B
structure IY(pg n:Nat)(c:Cf):Prop where
 bk:BQ c.bk=true
 st:1<=c.st/\c.st<=4096
 ah:c.ah<=16
 fr:pg<=c.fr
 tp:c.fr<=c.tp
 tn:c.tp<=n
 to:pg<=c.to
 lm:c.to<=c.lm
 ln:c.lm<=n
 af:c.fr%pg=0
 at_:c.to%pg=0
 al:c.lm%pg=0
 ap:¬(c.fr<upN c.tp pg/\c.to<c.lm/\c.fr<c.lm/\c.to<upN c.tp pg)
theorem VBT{cp:Nat}{lo md hi:Nat->Nat}(hb:b<w.heap.size)
  (hc:∀j,j<7->w.cell? ⟨b,j*3,none⟩=some (iI (lo j))/\w.cell? ⟨b,j*3+1,none⟩=some (iI (md j))/\w.cell? ⟨b,j*3+2,none⟩=some (iI (hi j)))
  (ho:∀j,j<7->lo j<=md j/\md j<=hi j):BB prog 243 #[.slice (some ⟨b,0,none⟩) 7 cp] w (.bool true):=by
 have HO:=ho;unfold BB;go_enter func243,ntmps243;go_wp2
 go_loopw [7] (λs7 wr=>∃j:Nat,j<=7/\Hid (Gr w wr)/\s7=iI j) (λs7 _=>7-(intOf s7).toNat)
 case atStart=>exact⟨0,by omega,⟨Gr.refl w⟩,rfl⟩
 case round=>
  obtain⟨j,hj,HG,rfl⟩:=hrel;by_cases X:j=7
  ·subst X;go_wp2;go_ret;exact⟨rfl,HG.o⟩
  ·obtain⟨k0,k1,k2⟩:=hc j Ω;obtain⟨o1,o2⟩:=HO j Ω;have c0:=(HG.o.cell hb _).trans k0;have c1:=(HG.o.cell hb _).trans k1;have c2:=(HG.o.cell hb _).trans k2;have hjI:(j:Int)<7:=Ω
   have d0:decide ((md j:Int)<(lo j:Int))=false:=ζ Ω;have d1:decide ((hi j:Int)<(md j:Int))=false:=ζ Ω;generalize lo j=x at *
   generalize md j=y at *
   generalize hi j=z at *
   go_wp2;go_round
   case rel=>exact⟨j+1,by omega,⟨HG.o.alloc _⟩,by go_num⟩
   case measure=>have:=X;simp[intOf];omega
theorem JcE{a b c d:Prop}(h:¬(a/\b/\c/\d)):¬a\/(a/\¬b)\/(a/\b/\¬c)\/(a/\b/\c/\¬d):=by
 grind
theorem QzK(hV:AE w S q v){c:Cf}(hc:IY v.pl.pg v.n c):Calls prog 184 #[pP q,cfV c] w λe w'=>e=.returned (iI 0)/\Gr w w':=by
 have Xi:=hV.ok.page;have Xm:=hV.ok.n2;have Xg:=hV.ok.pl.pg;obtain⟨fr,tp,to,lm,bk,st,ah⟩:=c;obtain⟨h1,h2,h3,h4,h5,h6,h7,h8,h9,J,V,U,Z⟩:=hc;dsimp only at h1 h2 h3 h4 h5 h6 h7 h8 h9 J V U Z;have hbp:=DR h1
 have I:C0 bk=true:=by
  grind [OA]
 have Xe:=(λW=>KY (bk:Int) Ω W);rw[I]at Xe;have Xh:=(λ(W:World) (g:Gr w W)=>JS (hV.gr g));have Xb:=(λ(W:World) (g:Gr w W)=>J0 (hV.gr g));have Xa:=(λW=>Xnz tp v.pl.pg Ω Xg W);obtain⟨pg,N⟩:=ε v.pl.pg;obtain⟨n,Xc⟩:=ε v.n;rw[<-N]at Xh Xa Xi h4 h7 J V U Z;rw[<-Xc]at Xb Xm h6 h9
 have Xk:=(λ(W:World) (b:Nat) (cp:Nat) (R:Rec W b 83 [iI 1,iI bk,iI 1024,iI 1,iI st,iI 4096,iI 0,iI ah,iI 16,iI pg,iI fr,iI n,iI fr,iI tp,iI n,iI pg,iI to,iI n,iI to,iI lm,iI n])=>
  VBT (w:=W) (b:=b) (cp:=cp) (lo:=λj=>[1,1,0,pg,fr,pg,to].getD j 0) (md:=λj=>[bk,st,ah,fr,tp,to,lm].getD j 0) (hi:=λj=>[1024,4096,16,n,n,n,n].getD j 0) R.lt
   (λj hj=>by
    rcases(by omega:j=0\/j=1\/j=2\/j=3\/j=4\/j=5\/j=6)with rfl|rfl|rfl|rfl|rfl|rfl|rfl <;> exact⟨R.cell rfl,R.cell rfl,R.cell rfl⟩)
   (λj hj=>by
    rcases(by omega:j=0\/j=1\/j=2\/j=3\/j=4\/j=5\/j=6)with rfl|rfl|rfl|rfl|rfl|rfl|rfl <;> (refine⟨?_,?_⟩ <;> simp <;> omega)))
 have m1:((fr:Int)).tmod (pg:Int)=0:=by rw[<-Int.ofNat_tmod,J];rfl
 have m2:((to:Int)).tmod (pg:Int)=0:=by rw[<-Int.ofNat_tmod,V];rfl
 have m3:((lm:Int)).tmod (pg:Int)=0:=by rw[<-Int.ofNat_tmod,U];rfl
 have R0:=Rec.new w 113 [iI fr,iI tp,iI to,iI lm,iI bk,iI st,iI ah];have Xd:=(JcE Z)
 have Xj:upN tp pg<=1048576:=by
  unfold upN;have:=ζn (tp+pg-1) pg;omega
 obtain⟨up,Y⟩:=ε (upN tp pg);rw[<-Y]at Xd Xj;rw[show (tp+pg-1)/pg*pg=up from Y.symm]at Xa;have b0:((pg:Int)==0)=false:=by simp;omega
 have b1:(pg:Int)≠0:=Ω
 unfold cfV;obtain⟨z0,z1,z2,z3,z4,z5,z6,zl⟩:=R0.k7;obtain⟨W1,E⟩:=ε (w.alloc (.cells #[.int .i64 fr,.int .i64 tp,.int .i64 to,.int .i64 lm,.int .i64 bk,.int .i64 st,.int .i64 ah] 113));have A:Hid (Gr w W1):=⟨by rw[E];exact(Gr.refl w).alloc _⟩;clear N Xc Y hV Z I Xg h1 J V U;go_in;go_upto_region 1 with(fail);rw[<-E]at z0 z1 z2 z3 z4 z5 z6 zl R0⊢;clear E
 go_upto_region 6 with(first|(go_at_call 129;refine(Xh _ A.o).mono ?_;rintro e w1 ⟨rfl,rfl⟩)|(go_at_call 71;refine(Xb _ A.o).mono ?_;rintro e w1 ⟨rfl,rfl⟩)|(go_at_call 182;refine(Xe _).mono ?_;rintro e w1 ⟨rfl,rfl⟩)|(go_at_call 243;refine(Xk _ _ _ (Rec.new _ _ _)).mono ?_;rintro e w2 ⟨rfl,Xl⟩;have Xf:=(((Gr.refl _).alloc _).trans Xl);have X:=(R0.gr Xf);have y0:=X.cc 0;have y1:=X.cc 1;have y2:=X.cc 2;have y3:=X.cc 3;have yl:=X.lt))
 go_quiet (fail);go_upto_region 9 with(go_at_call 244;refine(Xa _).mono ?_;rintro e w1 ⟨rfl,rfl⟩);have hG:=A.o.trans Xf;rcases Xd with h|⟨h,h'⟩|⟨h,h',D⟩|⟨h,h',D,h3⟩
 ·have e0:decide ((fr:Int)<(up:Int))=false:=ζ Ω;have f0:decide (fr<up)=false:=ζ h;go_wp2;go_ret;exact⟨rfl,hG.drewN _⟩
 ·have e0:decide ((fr:Int)<(up:Int))=true:=φ Ω;have e1:decide ((to:Int)<(lm:Int))=false:=ζ Ω;have f0:decide (fr<up)=true:=φ h;have f1:decide (to<lm)=false:=ζ h';go_wp2;go_ret;exact⟨rfl,hG.drewN _⟩
 ·have e0:decide ((fr:Int)<(up:Int))=true:=φ Ω;have e1:decide ((to:Int)<(lm:Int))=true:=φ Ω;have e2:decide ((fr:Int)<(lm:Int))=false:=ζ Ω;have f0:decide (fr<up)=true:=φ h;have f1:decide (to<lm)=true:=φ h';have f2:decide (fr<lm)=false:=ζ D;go_wp2;go_ret;exact⟨rfl,hG.drewN _⟩
 ·have e0:decide ((fr:Int)<(up:Int))=true:=φ Ω;have e1:decide ((to:Int)<(lm:Int))=true:=φ Ω;have e2:decide ((fr:Int)<(lm:Int))=true:=φ Ω;have e3:decide ((to:Int)<(up:Int))=false:=ζ Ω;have f0:decide (fr<up)=true:=φ h;have f1:decide (to<lm)=true:=φ h';have f2:decide (fr<lm)=true:=φ D;have f3:decide (to<up)=false:=ζ h3;go_wp2;go_ret;exact⟨rfl,hG.drewN _⟩
def MJ(w:World)(A:Option Addr)(l:List Int):Prop:=∀i (h:i<l.length),∃b o,A=some ⟨b,o,none⟩/\b<w.heap.size/\w.cell? ⟨b,o+i,none⟩=some (iI l[i])
def GA(T:Nat->Prop)(w:World)(A:Option Addr)(l:List Int):Prop:=∀i (h:i<l.length),∃b o,A=some ⟨b,o,none⟩/\b<w.heap.size/\¬T b/\w.cell? ⟨b,o+i,none⟩=some (iI l[i])
theorem GA.touch(h:GA T w A l)(t:AB S w w')(hs:∀b,b<w.heap.size->S b->T b):GA T w' A l:=λi hi=>by
 obtain⟨b,o,e,hb,hT,hc⟩:=h i hi;exact⟨b,o,e,ϑ hb t.size,hT,(t.cell hb (λx=>hT (hs b hb x)) _).trans hc⟩
theorem GA.gr(h:GA T w A l)(t:Gr w w'):GA T w' A l:=h.touch (t.touch (λ_=>False)) (λ_ _ h=>h.elim)
theorem GA.mono{T':Nat->Prop}(h:GA T w A l)(hs:∀b,b<w.heap.size->T' b->T b):GA T' w A l:=λi hi=>by
 obtain⟨b,o,e,hb,hT,hc⟩:=h i hi
 grind
def zs(l:List Int):List Value:=l.map λx=>iI x
theorem NH(h:i<l.length):(zs l)[i]?=some (iI l[i]):=by simp[zs,h]
structure CG(w:World)(S:Nat->Prop)(s:Nat)(l:List Int)(R:Nat)(lost:Bool):Prop where
 ss:S s
 r1:1<=R/\R<=4096
 le:l.length<=R
 row:∃vl hi,Rec w s 301 [vl,iI R,iI hi,.bool lost]/\w.ownsRow 0 3 1 vl l.length (zs l)/\∀g,vl.ownBlock=some g->S g
theorem CG.touch{b:Bool}(h:CG w S s l R b)(t:AB T w w')(hS:∀k,S k->k<w.heap.size->¬T k):CG w' S s l R b:=by
 obtain⟨h1,h2,h3,vl,hi,hr,ho,hs⟩:=h;exact⟨h1,h2,h3,vl,hi,hr.touch t (hS _ h1 hr.lt),AX ho t (λg hg=>hS g (hs g hg) (A9 ho hg).2),hs⟩
theorem CG.gr{b:Bool}(h:CG w S s l R b)(t:Gr w w'):CG w' S s l R b:=h.touch (t.touch (λ_=>False)) (λ_ _ _ h=>h)
theorem CG.mono{b:Bool}(h:CG w S s l R b)(hT:∀k,S k->T k):CG w T s l R b:=by
 obtain⟨h1,h2,h3,vl,hi,hr,ho,hs⟩:=h;exact⟨hT _ h1,h2,h3,vl,hi,hr,ho,λg hg=>hT g (hs g hg)⟩
theorem CG.cut{b:Bool}(h:CG w S s l R b):CG w (AD S w) s l R b:=by
 obtain⟨h1,h2,h3,vl,hi,hr,ho,hs⟩:=h;exact⟨⟨h1,hr.lt⟩,h2,h3,vl,hi,hr,ho,λg hg=>⟨hs g hg,(A9 ho hg).2⟩⟩
section
variable{lost:Bool}
theorem JIb(h:CG w S s l R lost):cQ 297 #[pP s] w (iI (l.length:Nat)):=by
 obtain⟨h1,h2,h3,vl,hi,hr,ho,hs⟩:=h;obtain⟨A,c,rfl,hc1,hc2⟩:=B9 ho;have c0:=hr.cc 0;go_enter func297,ntmps297;go_wp2;go_ret
 simp_all
theorem XPh(h:CG w S s l R lost):cQ 222 #[pP s] w (.bool lost):=by
 obtain⟨h1,h2,h3,vl,hi,hr,ho,hs⟩:=h;have c3:=hr.cc 3;go_enter func222,ntmps222;go_wp2;go_ret
 simp_all
theorem Qf8(h:CG w S s l R lost):Calls prog 223 #[pP s] w λe w'=>e=.returned (.tuple #[])/\AB S w w'/\CG w' S s l R false:=by
 obtain⟨h1,h2,h3,vl,hi,hr,ho,hs⟩:=h;have c3:=hr.cc 3;have f3:=hr.free 3;have HR:=hr;have HO:=ho;have HS:=hs;go_in;go_wp2;refine ζk (ζh rfl _ _ _) rfl ?_;exact⟨rfl,(AB.refl S w).setCell (a:=⟨s,3,none⟩) (λ_=>h1) _,h1,h2,h3,vl,hi,Rec.set HR 3 _,AW HO _ (λg hg=>AG HO HR (by decide) hg rfl),HS⟩
def Xjk(w:World)(S:Nat->Prop)(s:Nat)(l:List Int)(R:Nat)(lost:Bool)(e:Ending)(w':World):Prop:=
 (l=[]/\e=.returned (.tuple #[iI 0,.bool false])/\w=w')\/(∃l' a,l=l'++[a]/\e=.returned (.tuple #[iI a,.bool true])/\AB S w w'/\CG w' S s l' R lost)
theorem ZtN(h:CG w S s l R lost):Calls prog 274 #[pP s] w (Xjk w S s l R lost):=by
 have HL:=(JIb h);obtain⟨h1,h2,h3,vl,hi,hr,ho,hs⟩:=h;rcases List.eq_nil_or_concat l with rfl|⟨l',a,rfl⟩
 ·go_in;go_wp2_with(go_at_call 297;refine HL.mono ?_;rintro e w1 ⟨rfl,rfl⟩);go_ret2;exact .inl ⟨rfl,rfl,rfl⟩
 ·rw[List.concat_eq_append]at *
  have X:(l'++[a]).length=l'.length+1:=by simp
  rw[X]at HL ho h3;obtain⟨g,c,rfl,-,J,Z,-⟩:=E6 ho Ω;unfold maxLen at Z;have c0:=hr.cc 0;have f0:=hr.free 0;have kb:=BU ho (j:=l'.length) (u:=iI a) (by simp[zs]);have HR:=hr;have HO:=ho;have HS:=hs;obtain⟨N,hN⟩:=ε l'.length;rw[<-hN]at HL c0 kb h3 J;have HN:=ι hN;clear hr ho hs X hN;go_in;go_wp2_with(go_at_call 297;refine HL.mono ?_;rintro e w1 ⟨rfl,rfl⟩);go_ret2;refine .inr ⟨l',a,rfl,rfl,(AB.refl S w).setCell (a:=⟨s,0,none⟩) (λ_=>h1) _,h1,h2,by have:=HN.o;omega,.slice (some ⟨g,0,none⟩) N c,hi,Rec.set HR 0 _,?_,λg' hg=>HS g' hg⟩;have Y:=HO;rw[show zs (l'++[a])=zs l'++[iI a]by unfold zs;rw[ζI];rfl]at Y;have hp:=JTC Y;rw[HN.o];exact AW hp _ (λg' hg=>AG hp HR (by decide) hg rfl)
def Zxv(w:World)(R:Int)(e:Ending)(w':World):Prop:=
 ((R<1\/4096<R)/\e=.returned (.tuple #[.pointer none,iI 5])/\w=w') ∨
 (1<=R/\R<=4096/\e=.returned (.tuple #[pP w.heap.size,iI 0])/\Gr w w'/\CG w' (λk=>w.heap.size<=k) w.heap.size [] R.toNat false)
theorem VgV(R:Int)(w:World):Calls prog 152 #[iI R] w (Zxv w R):=by
 rcases(by omega:R<1\/(1<=R/\4096<R)\/(1<=R/\R<=4096))with h|h|h
 ·go_in;go_wp2;go_ret2;exact .inl ⟨.inl h,rfl,rfl⟩
 ·go_in;go_wp2;go_ret2;exact .inl ⟨.inr h.2,rfl,rfl⟩
 ·obtain⟨m,rfl⟩:∃m:Nat,R=m:=⟨R.toNat,by omega⟩;go_in;go_wp2;go_ret2;refine .inr ⟨h.1,h.2,rfl,(Gr.refl w).alloc _,μ _,?_,ζe _,.slice none 0 0,0,?_,FD _ _ _ _,(λg hg=>by cases hg)⟩
  ·omega
  grind [Rec.new]
theorem NA:(prog.info? 3).map (λi=>(i.zero,i.size,i.bytes))=some (some (iI 0),1,8):=by kernel_rfl
def Jva(w:World)(S:Nat->Prop)(s:Nat)(l:List Int)(R:Nat)(lost:Bool)(a:Int)(e:Ending)(w':World):Prop:=
 (R<=l.length/\e=.returned (.bool false)/\AB S w w'/\CG w' (plus S w) s l R true)\/(l.length<R/\e=.returned (.bool true)/\AB S w w'/\CG w' (plus S w) s (l++[a]) R lost)
theorem Y4L(h:CG w S s l R lost)(a:Int):Calls prog 273 #[pP s,iI a] w (Jva w S s l R lost a):=by
 obtain⟨h1,h2,h3,vl,hi,hr,ho,hs⟩:=h;obtain⟨A,c,rfl,Xo,Xj⟩:=B9 ho;unfold maxLen at Xj;have hmax:=NW prog;have c0:=hr.cc 0;have c1:=hr.cc 1;have c3:=hr.cc 3;have f3:=hr.free 3;have hsl:=hr.lt;have HR:=hr;have HO:=ho;have HS:=hs;obtain⟨N,hN⟩:=ε l.length;rw[<-hN]at c0 h3 Xo;have HN:=ι hN;have z0:∀m,(w.drewN m).cell? ⟨s,0,none⟩=some (.slice A N c):=λm=>c0;have z1:∀m,(w.drewN m).cell? ⟨s,1,none⟩=some (iI R):=λm=>c1;have z3:∀m,(w.drewN m).cell? ⟨s,3,none⟩=some (.bool lost):=λm=>c3;have zf:∀m,(w.drewN m).frozen? ⟨s,3,none⟩=false:=λm=>f3;clear hr ho hs hN;by_cases X:R<=N
 ·have d0:decide (R<=N)=true:=φ X;go_in;go_wp2;go_quiet (fail);go_wp2;go_ret;have hg:Gr w (w.drewN nq):=(Gr.refl w).drewN nq;refine .inl ⟨by rw[<-HN.o];exact X,rfl,(hg.touch S).setCell (a:=⟨s,3,none⟩) (λ_=>h1) _,.inl h1,h2,by rw[<-HN.o];exact h3,_,hi,Rec.set (HR.gr hg) 3 _,AW (CF HO hg) _ (λg hg'=>AG HO HR (by decide) hg' rfl),λg hg'=>.inl (HS g hg')⟩
 ·have d0:decide (R<=N)=false:=ζ X;obtain⟨ii,Xk,Xn,Xf,Xh⟩:=info_parts NA;go_in;go_wp2;go_quiet (fail);have hg:Gr w (w.drewN nq):=(Gr.refl w).drewN nq;have HG:=hg;have Xa:=CF HO hg;rw[<-HN.o]at Xa;have Xe:=Xa;have Xd:=(HR.gr hg);clear hg Xa z0 z1 z3 zf;go_wp2_with(at_builtin;refine wpList_append_lies _ rfl _ _ 42 rfl 0 3 ii _ 1 8 underlying42 Xk Xn Xf Xh rfl (by decide) (.slice A N c) N (zs l) rfl (Xe.alloc _) ⟨(w.drewN nq).heap.size,0,none⟩ 1 1 [iI a] rfl rfl (ζY (cs:=#[iI a]) (t:=3) (fr:=(0,0)) (heap_alloc_new (w.drewN nq) (.cells #[.int .i64 a] 3))) (by simp[Value.oneCell']) Ω (by unfold maxLen;omega) Ω (ζe _) ((w.drewN nq).heap.size+1) (by simp) ?_;intro g2 c2 w2 Z Y I E;have t2:AB (λk=>(Value.slice A N c).ownBlock=some k) (w.drewN nq) w2:=(((Gr.refl _).alloc _).touch _).trans (DT Y _ (λk e _=>e));have U:=(Xd.touch t2 (λe=>AG Xe Xd (by decide) e rfl rfl));have k0:=U.cc 0;have kf:=U.free 0;have Xm:=t2;have Xc:=Z;have Xl:=(ξ I E);clear Z Y I E t2);obtain⟨W3,J⟩:=ε (w2.setCell ⟨s,0,none⟩ (.slice (some ⟨g2,0,none⟩) (N+1) c2));rw[<-J];have R3:Rec W3 s 301 [.slice (some ⟨g2,0,none⟩) (N+1) c2,iI R,iI hi,.bool lost]:=by rw[J];exact Rec.set U 0 _
  have O3:=AW (q:=s) (j:=0) Xc (.slice (some ⟨g2,0,none⟩) (N+1) c2) (λg hg=>AG Xc U (by decide) hg rfl);rw[<-J]at O3
  have T3:AB S w W3:=by
   rw[J];exact((HG.touch S).trans (Xm.mono (λk _ hk=>HS k (by rw[<-HN.o];exact hk)))).setCell (a:=⟨s,0,none⟩) (λ_=>h1) _
  have y0:=R3.cc 0;have y2:=R3.cc 2;have yf:=R3.free 2;have Xg:=(ξ R3 (ξ O3 T3));have hsz:(w.drewN nq).heap.size=w.heap.size:=rfl;clear J R3 O3 T3 k0 kf c0 c1 c3 f3;obtain⟨Sx,V⟩:=ε (λW'=>W'.cell? ⟨s,0,none⟩=some (.slice (some ⟨g2,0,none⟩) (N+1) c2)/\W'.cell? ⟨s,2,none⟩=some (iI hi):World->Prop);have x0:∀p':AA Sx,p'.w.cell? ⟨s,0,none⟩=some (.slice (some ⟨g2,0,none⟩) (N+1) c2):=λp'=>(AA.get V p').1;have x2:∀p':AA Sx,p'.w.cell? ⟨s,2,none⟩=some (iI hi):=λp'=>(AA.get V p').2;have D:Sx W3.drew:=by rw[V];exact⟨y0,y2⟩
  clear V;have Xb:Inhabited (AA Sx):=⟨⟨_,D⟩⟩;refine BI Sx 13 [([0,1,2,3,4,5,6,7,8,9,10,11,12],13)] [] D ?_;refine AL ?_;go_wp2;refine⟨.inl trivial,?_⟩;refine EM ?_;refine ζb ?_;refine ζx ?_;clear x0 x2 D Xb;clear Sx;go_wp2;go_ret;obtain⟨R3,O3,T3⟩:=Xg;have Xi:=Xl;refine .inr ⟨by rw[<-HN.o];omega,rfl,(T3.setCell (a:=⟨s,2,none⟩) (λ_=>h1) _).drew,.inl h1,h2,by rw[ζm,<-HN.o];simp;omega,.slice (some ⟨g2,0,none⟩) (N+1) c2,max hi ((N:Int)+1),Rec.gr (Rec.set R3 2 _) (Gr.refl _).drew,?_,λg hg=>?_⟩
  ·rw[ζm,<-HN.o,show zs (l++[a])=zs l++[iI a]by unfold zs;rw[ζI];rfl];exact CF (AW O3 _ (λg hg=>AG O3 R3 (by decide) hg rfl)) (Gr.refl _).drew
  ·cases hg;rcases Xi.1 with h|h
   ·exact .inl (HS _ (by rw[<-HN.o];exact h))
   ·right
    show w.heap.size<=g2
    omega
end
structure A7(w:World)(r g:Nat)(rs:List Int):Prop where
 rcd:Rec w r 191 [.slice (some ⟨g,0,none⟩) rs.length rs.length]
 row:w.ownsRow 0 3 1 (.slice (some ⟨g,0,none⟩) rs.length rs.length) rs.length (zs rs)
 ne:rs≠[]
 le:rs.length<=64
theorem YR5(l:List Int)(i:Nat)(a:Int):(zs l).set i (iI a)=zs (l.set i a):=by unfold zs;simp_all
theorem A7.touch(h:A7 w r g rs)(t:AB S w w')(h1:¬S r)(h2:¬S g):A7 w' r g rs:=
 ⟨h.rcd.touch t h1,AX h.row t (λg' hg=>by cases hg;exact h2),h.ne,h.le⟩
theorem A7.gr(h:A7 w r g rs)(t:Gr w w'):A7 w' r g rs:=⟨h.rcd.gr t,CF h.row t,h.ne,h.le⟩
theorem A7.lt(h:A7 w r g rs):r<w.heap.size/\g<w.heap.size:=⟨h.rcd.lt,(A9 h.row rfl).2⟩
theorem A7.dif(h:A7 w r g rs):g≠r:=AG h.row h.rcd (by decide) rfl rfl
theorem A7.set(h:A7 w r g rs)(i:Nat)(a:Int):A7 (w.setCell ⟨g,i,none⟩ (.int .i64 a)) r g (rs.set i a):=by
 have hl:(rs.set i a).length=rs.length:=ζa;refine⟨?_,?_,λe=>h.ne ?_,by rw[hl];exact h.le⟩
 ·rw[hl];exact AW h.rcd _ (λg' hg e=>by cases hg;exact h.dif e.symm)
 ·rw[hl];have:=(World.ownsRow.stored h.row i (iI a)).1;rw[YR5]at this;exact this
 simp_all
theorem A7.cell(h:A7 w r g rs)(hi:i<rs.length):w.cell? ⟨g,i,none⟩=some (iI rs[i]):=BU h.row (NH hi)
def slE(rs:List Int)(i:Int):Int:=if 0<=i/\i<rs.length then 0 else 17
theorem TG(h:A7 w r g rs){i:Int}(hc:w.cell? ⟨b,0,none⟩=some (iI i)):cQ 160 #[pP r,.slice (some ⟨b,0,none⟩) 1 1] w (iI (slE rs i)):=by
 have c0:=h.rcd.cc 0;have X:=h.le;obtain⟨n,hn⟩:=ε rs.length;unfold slE;rw[<-hn]at c0 X⊢;rcases(by omega:i<0\/(0<=i/\(n:Int)<=i)\/(0<=i/\i<n))with h1|h1|h1
 ·have e0:(if 0<=i/\i<(n:Int)then (0:Int)else 17)=17:=ψ Ω;rw[e0];go_enter func160,ntmps160;go_wp2
  go_loopw [11] (λs11 wr=>wr=w/\s11=iI 0) (λ_ _=>0)
  case atStart=>simp_all
  case round=>
   obtain⟨rfl,rfl⟩:=hrel;go_wp2;go_ret
   simp_all
 ·obtain⟨h1,h2⟩:=h1;have d0:decide (i<0)=false:=ζ Ω;have e0:(if 0<=i/\i<(n:Int)then (0:Int)else 17)=17:=ψ Ω;rw[e0];go_enter func160,ntmps160;go_wp2
  go_loopw [11] (λs11 wr=>wr=w/\s11=iI 0) (λ_ _=>0)
  case atStart=>simp_all
  case round=>
   obtain⟨rfl,rfl⟩:=hrel;go_wp2;go_ret
   simp_all
 ·obtain⟨h1,h2⟩:=h1;have d0:decide (i<0)=false:=ζ Ω;have e0:(if 0<=i/\i<(n:Int)then (0:Int)else 17)=0:=θ ⟨h1,h2⟩;rw[e0];go_enter func160,ntmps160;go_wp2
  go_loopw [11] (λs11 wr=>∃j:Nat,j<=1/\wr=w/\s11=iI j) (λs11 _=>1-(intOf s11).toNat)
  case atStart=>grind
  case round=>
   obtain⟨j,hj,rfl,rfl⟩:=hrel;rcases(by omega:j=0\/j=1)with rfl|rfl
   ·go_wp2;go_round
    case rel=>exact⟨1,by omega,trivial,by go_num⟩
    case measure=>simp[intOf]
   ·go_wp2;go_ret
    simp_all
theorem Y9(h:A7 w r g rs):cQ 183 #[pP r] w (iI (rs.length:Nat)):=by
 have c0:=h.rcd.cc 0;go_enter func183,ntmps183;go_wp2;go_ret
 simp_all
theorem Jwg(h:A7 w r g rs)(hi:i<rs.length):Calls prog 78 #[pP r,iI i] w λe w'=>e=.returned (.tuple #[iI rs[i],iI 0])/\Gr w w':=by
 have HC:=(TG (h.gr ((Gr.refl w).alloc (.cells #[.int .i64 i] 3))) (b:=w.heap.size) (i:=i) ((Rec.new w 3 [iI i]).cell (j:=0) rfl));rw[show slE rs i=0 from θ ⟨by omega,by omega⟩]at HC;have h':=h.gr ((Gr.refl w).alloc (.cells #[.int .i64 i] 3));have c0:=h'.rcd.cc 0;have c1:=h'.cell hi;go_in;go_wp2_with(go_at_call 160;refine HC.mono ?_;rintro e w1 ⟨rfl,rfl⟩);go_ret2;exact⟨rfl,(Gr.refl w).alloc _⟩
theorem VHr(h:A7 w r g rs)(hi:i<rs.length)(ha:0<=a):Calls prog 83 #[pP r,iI i,iI a] w λe w'=>e=.returned (iI 0)/\AB (λk=>k=g) w w'/\A7 w' r g (rs.set i a):=by
 have HC:=(TG (h.gr ((Gr.refl w).alloc (.cells #[.int .i64 i] 3))) (b:=w.heap.size) (i:=i) ((Rec.new w 3 [iI i]).cell (j:=0) rfl));rw[show slE rs i=0 from θ ⟨by omega,by omega⟩]at HC;have h':=h.gr ((Gr.refl w).alloc (.cells #[.int .i64 i] 3));have HR:=h';have c0:=h'.rcd.cc 0;have c1:=h'.cell hi;have cf:=GG h'.row i;have d0:decide (a<0)=false:=ζ Ω;go_in;go_wp2_with(go_at_call 160;refine HC.mono ?_;rintro e w1 ⟨rfl,rfl⟩);go_ret;exact⟨rfl,AB.setCell (S:=λk=>k=g) (((Gr.refl w).alloc _).touch _) (a:=⟨g,i,none⟩) (λ_=>rfl) _,HR.set i a⟩
theorem YSY(n:Nat):(madeCells #[iI 0] n).toList=zs (List.replicate n 0):=by
 unfold madeCells zs;apply ξA
 ·simp
 grind
theorem QEf:(prog.info? 3).map (λi=>(i.zero,i.size,i.bytes))=some (some (iI 0),1,8):=by kernel_rfl
theorem YuH(h1:1<=n)(h2:n<=64)(w:World):Calls prog 49 #[iI n] w λe w'=>∃r g,e=.returned (.tuple #[pP r,iI 0])/\Gr w w'/\A7 w' r g (List.replicate n 0)/\w.heap.size<=r/\w.heap.size<=g:=by
 obtain⟨i0,hi,Z,J,hz2⟩:=info_parts QEf;have HB:Hid (i0.bytes*n<=281474976710656):=⟨by grind⟩;have HM:Hid (n<=maxLen):=⟨by unfold maxLen;omega⟩;have d0:decide ((n:Int)<1)=false:=ζ Ω;have d1:decide (64<(n:Int))=false:=ζ Ω;go_in;go_wp2_with(at_make;refine wpList_make_full _ rfl _ _ 42 rfl w.heap.size 3 i0 (iI 0) 1 underlying42 hi Z J .i64 .i64 _ _ n rfl rfl ?h1 ?h2 HB.o HM.o (μ _) ?h3)
 case h1=>omega
 case h2=>omega
 case h3=>
  intro w1 Y X;have U:Gr w w1:=(LL X (λ_=>False) (λk e _=>by cases e)).gr;have HO:=Y;have HG:=U;go_wp2;go_ret2;have hl:(List.replicate n (0:Int)).length=n:=ζU;refine⟨w1.heap.size,w.heap.size,BT rfl rfl,HG.alloc _,⟨?_,?_,λe=>?_,by omega⟩,HG.size,μ _⟩
  ·grind [Rec.new]
  ·rw[hl];have:=CF (M4 HO) ((Gr.refl w1).alloc (.cells #[.slice (some ⟨w.heap.size,0,none⟩) n n] 191))
   grind [YSY]
  grind
theorem Qgq{cap:Nat}(hn:n=l.length)(hn0:n≠0)(hb:b<w.heap.size)(hc:∀i (h:i<l.length),w.cell? ⟨b,i,none⟩=some (iI l[i]))(hl:n<=64):Calls prog 147 #[.slice (some ⟨b,0,none⟩) n cap] w λe w'=>∃g c,e=.returned (.slice (some ⟨g,0,none⟩) n c)/\Gr w w'/\w.heap.size<=g/\w'.ownsRow 0 3 1 (.slice (some ⟨g,0,none⟩) n c) n (zs l):=by
 obtain⟨i0,hi,E,D,I⟩:=info_parts QEf;have hsn:=Lib.run_eql_slice_nil (P:=prog) w 42 3 (some ⟨b,0,none⟩) n cap 0 0 underlying42
 have J:(w.alloc (.cells #[] 3)).ownsRow w.heap.size 3 1 (.slice (some ⟨w.heap.size,0,none⟩) 0 0) 0 []:=
  ⟨rfl,.inr ⟨w.heap.size,0,#[],rfl,μ _,heap_alloc_new w _,μ _,by unfold maxLen;omega,rfl,rfl⟩⟩
 have Y:∀(j:Nat) (u:Value),(zs l)[j]?=some u->(w.alloc (.cells #[] 3)).cell? (Addr.add ⟨b,0,none⟩ j)=some u:=λj u hj=>by
  have N:j<l.length:=by
   rcases δ j l.length with h|h
   ·exact h
   ·rw[ζz (by simpa[zs]using h)]at hj;cases hj
  rw[NH N]at hj;cases hj;have e:Addr.add ⟨b,0,none⟩ j=⟨b,j,none⟩:=by unfold Addr.add;split <;> simp_all
  rw[e,ψS (h:=hb),hc j N]
 have V:∀u∈zs l,u.oneCell'=true:=λu hu=>by
  obtain⟨i,_,rfl⟩:=ξw.1 hu;rfl
 have HO:=J;have HC:=Y;have H1:=V;have HL:=ι (show n=(zs l).length by rw[hn];simp[zs]);have HN0:=hn0;clear J Y V hn0 hc hn;go_in;go_wp2_with(at_builtin;(refine wpList_append_own _ rfl _ _ 42 rfl w.heap.size 3 i0 (iI 0) 1 8 underlying42 hi E D I rfl (by decide) _ _ _ rfl HO ⟨b,0,none⟩ n cap (zs l) rfl (by rw[<-HL.o];omega) HC H1 (by unfold maxLen;omega) Ω (by simp) ?_);intro v' w1 X U _;obtain⟨g,c,hv,A,hg2,hg3⟩:=YS7 X Ω;subst hv);go_ret;have Z:(w.alloc (.cells #[] 3)).grownBy w1 (some w.heap.size):=U;refine⟨g,c,by simp,?_,A,by simpa using M4 X⟩;refine AB.gr ((((Gr.refl w).alloc _).touch _).trans' (LL Z (λk=>k=w.heap.size) (λk e _=>by cases e;rfl)) ?_);rintro i hi rfl;omega
theorem Q3(h:A7 w r g rs):Calls prog 67 #[pP r] w λe w'=>∃g c,e=.returned (.slice (some ⟨g,0,none⟩) rs.length c)/\Gr w w'/\w.heap.size<=g/\w'.ownsRow 0 3 1 (.slice (some ⟨g,0,none⟩) rs.length c) rs.length (zs rs):=by
 have c0:=h.rcd.cc 0;have X:=(Qgq (w:=w) (b:=g) (cap:=rs.length) rfl (λe=>h.ne (ζy e)) h.lt.2 (λi hi=>h.cell hi) h.le);go_in;go_wp2_with(go_at_call 147;refine X.mono ?_;rintro e w1 ⟨g1,c1,rfl,U,V,ho⟩;have Y:=U;have Z:=V;have J:=ho);go_ret;exact⟨g1,c1,rfl,Y,Z,J⟩
def ZCk(g r:Nat)(rs:List Int)(i:Nat)(out:List Int)(J:Nat->World->List Int->Prop)(e:Ending)(W':World):Prop:=
 ∃b:Int,e=.returned (iI b)/\A7 W' r g (out++rs.drop i)/\∀W'',AB (λk=>k=g) W' W''->J (i+1) W'' (out++[max b 0])
theorem V3M(hi:i<rs.length)(ho:out.length=i)(b:Int):(out++rs.drop i).set i b=(out++[b])++rs.drop (i+1):=by
 subst ho;rw[ψQ _ _ (μ _),Nat.sub_self,ξH hi,ζi,ξj];rfl
theorem Vy9(hi:i<rs.length)(ho:out.length=i)(h:i<(out++rs.drop i).length):(out++rs.drop i)[i]=rs[i]:=by
 simp_all
theorem ZT{pre:Array Value}(J:Nat->World->List Int->Prop)(hcf:∀args w,(callFunc F args).run prog w=.ok (.enter F args) w)
  (h:A7 w r g rs) (h0:J 0 w [])
  (hz:∀i (hi:i<rs.length) W out,out.length=i->J i W out->rs[i]=0->J (i+1) W (out++[0]))
  (hF:∀i (hi:i<rs.length) W out,out.length=i->J i W out->A7 W r g (out++rs.drop i)->rs[i]≠0->∀W0,Gr W W0->Calls prog F (pre++#[iI rs[i]]++caps) W0 (ZCk g r rs i out J)):Calls prog 126 #[pP r,.func (.func F) pre caps] w λe w'=>e=.returned (.tuple #[])/\∃out,out.length=rs.length/\J rs.length w' out/\A7 w' r g out:=by
 have Xf:=h.le;obtain⟨n,hn⟩:=ε rs.length;have c0:=h.rcd.cc 0;have HN:=hn;have HR:=ι h;have Xg:=ι h0;have HZ:=hz;have HF:=hF;rw[<-hn]at c0 Xf⊢;go_in;go_wp2
 go_loopw [13] (λs13 wr=>∃(i:Nat) (out:List Int),i<=n/\Hid (out.length=i)/\Hid (J i wr out)/\Hid (A7 wr r g (out++rs.drop i))/\s13=iI i) (λs13 _=>n-(intOf s13).toNat)
 case atStart=>exact⟨0,[],by omega,⟨rfl⟩,Xg,HR,rfl⟩
 case round=>
  obtain⟨i,out,hi,HO,HJ,HT,rfl⟩:=hrel;by_cases Z:i=n
  ·subst Z;go_wp2;refine ζk (ζh rfl _ _ _) rfl ?_;refine⟨rfl,out,HO.o,HJ.o,?_⟩;have:=HT.o;rw[HN,List.drop_length,ψP]at this;exact this
  ·have Xc:i<rs.length:=by have:=HN;omega
   have X:(out++rs.drop i).length=n:=by have:=HO.o;have:=HN;simp;omega
   have hiI:(i:Int)<(n:Int):=Ω
   have c1:=HT.o.cell (i:=i) (by rw[X];omega);rw[Vy9 Xc HO.o]at c1;obtain⟨a,ha⟩:=ε (rs[i]);have HA:=ι ha;have N:=Xc;have A:=X;have V:=Z;rw[<-ha]at c1;clear ha Z;by_cases E:a=0
   ·subst E;clear X;go_wp2;go_round
    case rel=>
     refine⟨i+1,out++[0],by have:=V;omega,⟨by have:=HO.o;simp[this]⟩,⟨HZ i N _ out HO.o HJ.o HA.o.symm⟩,⟨?_⟩,by go_num⟩;have:=HT.o;rw[ξH N,<-HA.o]at this;simpa using this
    case measure=>have:=V;simp[intOf];omega
   ·have d0:(a !=0)=true:=by simpa using E
    have Y:=(HF i N wr out HO.o HJ.o HT.o (by rw[<-HA.o];exact E) _ (Gr.refl wr).drew);rw[<-HA.o]at Y;unfold ZCk at Y;have y0:=HT.o.rcd.cc 0;rw[X]at y0;have hrl:=HT.o.lt;clear X;go_upto_region 5 with(fail);obtain⟨Sx,I⟩:=ε (λW'=>W'.cell? ⟨r,0,none⟩=some (.slice (some ⟨g,0,none⟩) n n):World->Prop);have x0:∀p':AA Sx,p'.w.cell? ⟨r,0,none⟩=some (.slice (some ⟨g,0,none⟩) n n):=λp'=>AA.get I p';have D:Sx wr.drew:=by rw[I];exact y0
    have Xh:=ι I;clear I;have Xb:Inhabited (AA Sx):=⟨⟨_,D⟩⟩;have hmax:=NW prog;refine BI Sx 10 [([0,1,2,3,4,5,6],7),([8,9],10)] [] D ?_;refine AL ?_;go_wp2_with(refine Y.mono ?_;rintro e w3 ⟨b,rfl,U,Xa⟩;have Xe:=U;have Xd:=Xa;have z0:=U.rcd.cc 0;have z1:=U.cell (i:=i) (by rw[A];have:=V;omega);have zf:=GG U.row i;rw[A]at z0;clear U Xa);refine⟨.inr (AA.of (by rw[Xh.o];exact z0)),?_⟩;refine AL ?_;go_wp2;refine⟨.inl trivial,?_⟩;refine EM ?_;refine ζb ?_;refine ζx ?_;clear x0 D Xb;go_wp2;go_round
    case rel=>
     refine⟨i+1,out++[max b 0],by have:=V;omega,⟨by have:=HO.o;simp[this]⟩,⟨Xd _ ?_⟩,⟨?_⟩,by go_num⟩
     ·exact AB.setCell (S:=λk=>k=g) (AB.refl _ _) (a:=⟨g,i,none⟩) (λ_=>rfl) _
     ·have:=Xe.set i (max b 0);rw[V3M N HO.o]at this;exact this
    case measure=>have:=V;simp[intOf];omega
end Go.Proofs.YtcihfnpokdbfpaaGreatDoor
