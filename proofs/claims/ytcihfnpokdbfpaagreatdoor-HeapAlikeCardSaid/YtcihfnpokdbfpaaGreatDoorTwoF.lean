/- Lemmas. -/
import Derived.Test.YtcihfnpokdbfpaaGreatDoorTwoE
import Derived.Deep.LoopGhost
namespace Go.Proofs.YtcihfnpokdbfpaaGreatDoor
open _root_.Go.Proofs.Tryz
set_option maxHeartbeats 6400000
set_option maxRecDepth 100000
open Go.RowKit
variable{lb:Array Value}{b lost':Bool}{a base r room vi:Int}{X:Int->Prop}{O l rs st':List Int}{L L0:List Ob}{s:MkS}{B F K M R b12 b5 cp f g j k m n p q to:Nat}{S S3 SV SW:Nat->Prop}{A:Option Addr}{z:Sp}{α σ:Type}{u u':Value}{v v1:Vm}{w w' w3:World}
section
variable{F:Fence}{P:Program}
def XS(K:Nat)(F:Fence)(n:Nat)(P:Program)(g:Nat)(lb:Array Value)(encs:α->Array Value)(Inv:σ->World->Prop)(gives:σ->α->Prop)(next:σ->α->σ->Prop)(fin:σ->Prop)(s0:σ)(w:World):Prop:=
 ∀(l:Nat) (J:σ->World->Prop) (Jx:World->Prop) (W:World),Gr w W->(∀s A B,J s A->AB (λk=>W.heap.size<=k/\k<W.heap.size+K) A B->J s B)->(∀A B,Jx A->AB (λk=>W.heap.size<=k/\k<W.heap.size+K) A B->Jx B)->(∀s A,J s A->Inv s A) →
  (∀s x W1,J s W1->W.heap.size+K<=W1.heap.size->gives s x->YieldAt F (n-1) P l (encs x) W1 λe W'=>((e=.returned (.bool true)/\∃s',next s x s'/\J s' W')\/(e=.returned (.bool false)/\Jx W'))/\AB (λk=>k<W.heap.size\/W.heap.size+K<=k) W1 W') →
  J s0 W->CallsIn F n P g (#[.func (.yield l) #[] #[]]++lb) W λe W'=>(∃v,e=.returned v)/\((∃s,fin s/\J s W')\/Jx W')
def Y3E(B K:Nat)(I:σ->World->Prop)(Ix:Code->World->Prop)(next:σ->α->σ->Prop)(s:σ)(x:α)(W:World):Exit->Act->World->Prop
 | .normal,_,W'=>AB (λk=>k<B\/B+K<=k) W W'/\∃s',next s x s'/\I s' W'
 | .ret,_,W'=>AB (λk=>k<B\/B+K<=k) W W'/\Ix .ret W'
 | .exit id,_,W'=>AB (λk=>k<B\/B+K<=k) W W'/\Ix (.exit id) W'
 | .goto t,_,W'=>AB (λk=>k<B\/B+K<=k) W W'/\Ix (.goto t) W'
 | _,_,_=>False
theorem OQ.toU{encs:α->Array Value}{Inv:σ->World->Prop}{gives:σ->α->Prop}{next:σ->α->σ->Prop}{fin:σ->Prop}{s0:σ}(h:OQ F n P g lb encs Inv gives next fin s0 w):XS 0 F n P g lb encs Inv gives next fin s0 w:=by
 intro l J Jx W hg hJ Z hI hY h0;refine h l (λs A=>J s A/\W.heap.size<=A.heap.size) Jx W hg (λs A B hs hAB=>⟨hJ s A B hs.1 (hAB.touch _),ω hs.2 hAB.size⟩) (λA B hs hAB=>Z A B hs (hAB.touch _)) (λs A hs=>hI s A hs.1) ?_ ⟨h0,μ _⟩ |>.mono ?_
 ·rintro s x W1 ⟨hs,Y⟩ hx;refine(hY s x W1 hs Y hx).mono ?_;rintro e W' ⟨⟨he,s',hn,U⟩|⟨he,hx'⟩,ht⟩
  ·exact .inl ⟨he,s',hn,U,ω Y ht.size⟩
  simp_all
 grind
theorem NF{g:Operand}{ps:Array Tmp}{assign body:Code}{Q:Exit->Act->World->Prop}{a:Act}
  (hro:F.round=none) (h1:1<=n) {gf:Nat}  (hg:a.eval g=.func (.func gf) #[] lb) (hFg:F.fn gf) (eg:∀args w,(callFunc gf args).run P w=.ok (.enter gf args) w)
  {encs:α->Array Value} {Inv:σ->World->Prop} {gives:σ->α->Prop} {next:σ->α->σ->Prop} {fin:σ->Prop} {s0:σ}  (hseq:XS K F (n-1) P gf lb encs Inv gives next fin s0 w)
  (hps:∀x,(encs x).size=ps.size)
  (I:σ->World->Prop) (Ix:Code->World->Prop) (hI:∀s A B,I s A->AB (λk=>w.heap.size<=k/\k<w.heap.size+2+K) A B->I s B) (hIx:∀c A B,Ix c A->AB (λk=>w.heap.size<=k/\k<w.heap.size+2+K) A B->Ix c B)
  (hInv:∀s A,I s A->Inv s A) (h0:I s0 w)
  (hround:∀(l:Nat) (s:σ) (x:α) (W:World),w.heap.size+2+K<=W.heap.size->I s W->gives s x →
   assign.wpIn (F.inRound l) (n-1-1) P (Exit.then (λa' Wa=>Gr W Wa/\∀W2,AB (λk=>k=w.heap.size+1) Wa W2->I s W2->body.wpIn (F.inRound l) (n-1-1) P (Y3E w.heap.size (2+K) I Ix next s x W2) a' W2) (λ_ _ _=>False))
    {tmps:=(ps.zip (encs x)).foldl (λt (p,v)=>t.setIfInBounds p v) a.tmps,defers:=[]} W)
  (hdone:∀(D:Nat) (s:σ) (W:World),D=w.heap.size->fin s->I s W->W.heap[D]?=some (.deferred (some []))->Q .normal {a with defers:={target:=.collected D,args:=#[]} :: a.defers} W)
  (hstop:∀(D:Nat) (c:Code) (W:World),D=w.heap.size->Ix c W->W.heap[D]?=some (.deferred (some []))->c.wpIn F n P Q {a with defers:={target:=.collected D,args:=#[]} :: a.defers} W):
  (Code.rangeFunc g ps assign body).wpIn F n P Q a w:=by
 refine wpIn_rangeFunc ?_;intro fn Xm;rw[hro];obtain⟨Z,U⟩:=ε (λst pe=>{state:=st,pending:=pe,fn,tmps:=a.tmps,params:=ps,assign,body,defers:=w.heap.size}:LoopState->Option Code->Loop);obtain⟨W1,Xc⟩:∃W1,(w.alloc (.deferred (some []))).alloc (.loop (Z .ready none))=W1:=⟨_,rfl⟩
 have Xk:W1.heap[w.heap.size+1]?=some (.loop (Z .ready none)):=by
  rw[<-Xc];have:=ξU (w.alloc (.deferred (some []))) (.loop (Z .ready none));rwa [π]at this
 have Xn:W1.heap[w.heap.size]?=some (.deferred (some [])):=by
  rw[<-Xc];exact(Below.heap_alloc _ _ _ (by simp)).trans (ξU w _)
 have Xi:Gr w W1:=by rw[<-Xc];exact((Gr.refl w).alloc _).alloc _
 have tt:∀{A B:World},Gr A B->AB (λk=>w.heap.size<=k/\k<w.heap.size+2+K) A B:=λh=>h.touch _;have Y:∀{A:World} {k:Nat} {o:Obj},A.heap[k]?=some o->k<A.heap.size:=λh=>(ζq.1 h).1
 refine⟨w.heap.size+1,[{target:=.collected w.heap.size,args:=#[]}],W1,{target:=.fn (.func gf) lb,args:=#[.func (.yield (w.heap.size+1)) #[] #[]]},W1,gf,
  #[.func (.yield (w.heap.size + 1)) #[] #[]] ++ lb, W1, ?_, ?_, ?_, ?_, λ_ => h1, ?_⟩
 ·rw[<-Xc,U];exact run_enterLoop_outer _ _ _ _ _
 ·simp only[resolve,hg];simp[go_sem]
 ·intro f' Xh;simp[Target.leads]at Xh;subst Xh;exact hFg
 ·simp[invoke,go_sem,eg]
 ·have hs1:W1.heap.size=w.heap.size+2:=by rw[<-Xc];simp
  refine(hseq (w.heap.size+1)
   (λs W=>I s W/\W.heap[w.heap.size+1]?=some (.loop (Z .ready none))/\W.heap[w.heap.size]?=some (.deferred (some [])))
   (λW=>∃c,Ix c W/\W.heap[w.heap.size+1]?=some (.loop (Z .done (some c)))/\W.heap[w.heap.size]?=some (.deferred (some [])))
   W1 Xi
   (λs A B hs ht=>⟨hI s A B hs.1 (ht.mono (λk _ h=>by omega)),(ht.block _ (Y hs.2.1) Ω).trans hs.2.1,(ht.block _ (Y hs.2.2) Ω).trans hs.2.2⟩)
   (λA B hs ht=>by
    obtain⟨c,hc,hl,hk⟩:=hs
    exact⟨c,hIx c A B hc (ht.mono (λk _ h=>by omega)),(ht.block _ (Y hl) Ω).trans hl,(ht.block _ (Y hk) Ω).trans hk⟩)
   (λs A hs=>hInv s A hs.1) ?_ ⟨hI _ _ _ h0 (tt Xi),Xk,Xn⟩).mono ?_
  ·rintro s x W ⟨hi,hl,hk⟩ hszW Xo;have Xe:w.heap.size+1<W.heap.size:=Y hl;have hy:=run_yield (P:=P) (args:=encs x) hl (by rw[U];exact hps x);rw[U]at hy;refine⟨fn,_,assign,body,hy,roundIn_of_wpIn Xm (wpIn_mono (hround _ s x W Ω hi Xo) ?_)⟩;rintro e a' Wa hp;cases e with
   | normal=>?_
   | _=>exact False.elim hp
   obtain⟨Xb,Xa⟩:=hp
   replace hl:=(Xb.block Xe).trans hl
   replace hk:=(Xb.block Ω).trans hk
   replace Xe:=Y hl
   replace hi:=hI _ _ _ hi (tt Xb)
   revert Xa Xb;generalize W=W0;intro Xb Xa;obtain⟨W,rfl⟩:=ε Wa;refine⟨_,run_beginRound hl (by rw[U]),?_⟩;have Xg:(W.putObj (w.heap.size+1) (.loop {Z .ready none with state:=.busy})).heap[w.heap.size+1]?=some (.loop {Z .ready none with state:=.busy}):=ξN Xe;have Xf:(W.putObj (w.heap.size+1) (.loop {Z .ready none with state:=.busy})).heap[w.heap.size]?=some (.deferred (some [])):=(ζr Ω).trans hk;refine wpIn_mono (Xa _ ⟨rfl,rfl,rfl,by simp,λk _ hn=>ζr hn⟩ (hI _ _ _ hi ((EJ W (w.heap.size+1) _).mono (λk _ h=>by omega)))) ?_
   have fin:∀(jump:Option Code) (W3:World),AB (λk=>k<w.heap.size\/w.heap.size+(2+K)<=k) (W.putObj (w.heap.size+1) (.loop {Z .ready none with state:=.busy})) W3 →
     (Instr.endRound (w.heap.size+1) jump).run P W3=.ok (.bool jump.isNone) (W3.putObj (w.heap.size+1) (.loop (Z (if jump.isNone then .ready else .done) jump))) ∧
     (W3.putObj (w.heap.size+1) (.loop (Z (if jump.isNone then .ready else .done) jump))).heap[w.heap.size+1]?=some (.loop (Z (if jump.isNone then .ready else .done) jump)) ∧
     (W3.putObj (w.heap.size+1) (.loop (Z (if jump.isNone then .ready else .done) jump))).heap[w.heap.size]?=some (.deferred (some [])):=λjump W3 J=>by
    have Xj:=(J.block _ (Y Xg) Ω).trans Xg;have:=run_endRound (P:=P) jump Xj;rw[U]at this⊢;exact⟨this,ξN (Y Xj),(ζr Ω).trans ((J.block _ (Y Xf) Ω).trans Xf)⟩
   have Xd:∀(o:Obj) (W3:World),AB (λk=>k<w.heap.size\/w.heap.size+(2+K)<=k) (W.putObj (w.heap.size+1) (.loop {Z .ready none with state:=.busy})) W3->AB (λk=>k<W1.heap.size\/W1.heap.size+K<=k) W0 (W3.putObj (w.heap.size+1) o):=λo W3 h3=>
    (((Xb.touch _).trans ((EJ W (w.heap.size+1) _).mono (λk _ h=>by omega))).trans (h3.mono (λk _ h=>by omega))).trans ((EJ W3 (w.heap.size+1) o).mono (λk _ h=>by omega))
   rintro e a3 W3 hp;cases e with
   | normal=>
    obtain⟨J,s',Xl,E⟩:=hp;obtain⟨hr,V,O⟩:=fin none W3 J;exact⟨_,_,hr,.inl ⟨rfl,s',Xl,hI _ _ _ E ((EJ W3 (w.heap.size+1) _).mono (λk _ h=>by omega)),V,O⟩,Xd _ _ J⟩
   | ret=>
    obtain⟨J,E⟩:=hp;obtain⟨hr,V,O⟩:=fin (some .ret) W3 J;exact⟨_,_,hr,.inr ⟨rfl,.ret,hIx _ _ _ E ((EJ W3 (w.heap.size+1) _).mono (λk _ h=>by omega)),V,O⟩,Xd _ _ J⟩
   | exit id=>
    obtain⟨J,E⟩:=hp;obtain⟨hr,V,O⟩:=fin (some (.exit id)) W3 J;exact⟨_,_,hr,.inr ⟨rfl,.exit id,hIx _ _ _ E ((EJ W3 (w.heap.size+1) _).mono (λk _ h=>by omega)),V,O⟩,Xd _ _ J⟩
   | goto t=>
    obtain⟨J,E⟩:=hp;obtain⟨hr,V,O⟩:=fin (some (.goto t)) W3 J;exact⟨_,_,hr,.inr ⟨rfl,.goto t,hIx _ _ _ E ((EJ W3 (w.heap.size+1) _).mono (λk _ h=>by omega)),V,O⟩,Xd _ _ J⟩
   | panic ch=>exact hp.elim
   | outgrown=>exact hp.elim
  ·rintro e W2 ⟨⟨v,rfl⟩,(⟨s,hS,hi,hl,hk⟩|⟨c,hi,hl,hk⟩)⟩
   ·exact⟨none,_,by have:=run_endLoop (P:=P) hl (by rw[U];simp);rw[U]at this;exact this,hdone _ s _ rfl hS (hI _ _ _ hi ((EJ W2 (w.heap.size+1) _).mono (λk _ h=>by omega))) ((ζr Ω).trans hk)⟩
   ·exact⟨some c,_,by have:=run_endLoop (P:=P) hl (by rw[U];simp);rw[U]at this;exact this,hstop _ c _ rfl (hIx _ _ _ hi ((EJ W2 (w.heap.size+1) _).mono (λk _ h=>by omega))) ((ζr Ω).trans hk)⟩
end
open Go.Shelf Word
section
attribute [local go_sem] Oper.semAt_some
theorem QQ(n':Nat)(box m p1 b1 p2 b2 n:Nat)(L:List Ob)(w:World):
  XS 4 Fence.wide n' prog 202 #[pP box] IC (Zxj box m p1 b1 p2 b2 n L) (FE L) (λj _ j'=>j'=j+1) (λj=>j=L.length) 0 w:=by
 intro l J Jx W hg hJ Xk hI hY h0;refine γ.2 ((γ (n:=5)).1 ?_);refine callsIn_of_wp_marks func202 rfl trivial ?_ rfl;have I:=hI _ _ h0;have c0:=I.2.2.1;have k0:=I.1.c0;have Xu:=h0;have Xm:=hI;simp only[ntmps202,ζ3,ζD,ξf,Nat.reduceAdd,Nat.reduceSub,ζR,ζQ,ζ9,ζZ,ζ4,ζv];have hbox:box<W.heap.size:=A6 c0;have hmw:=I.1.hm
 gi_wp2_with(first|(refine⟨trivial,?_⟩;gi_at_call 203;refine(γ.2 (EH (I.1.gr ((Gr.refl W).alloc _)))).mono ?_;rintro e w1 ⟨rfl,rfl⟩)|(refine⟨trivial,?_⟩;gi_at_call 204;refine(γ.2 (Xig (some ⟨p1,0,none⟩))).mono ?_;rintro e w1 ⟨rfl,rfl⟩))
 obtain⟨W0,E⟩:=ε ((W.alloc (.cells #[.func (.yield l) #[] #[]] 284)).alloc (.cells #[.pointer (some ⟨p1,0,none⟩)] 223));have Xy:Gr W W0:=by rw[E];exact((Gr.refl W).alloc _).alloc _
 have hsz0:W0.heap.size=W.heap.size+2:=by rw[E];simp
 have bY:W0.cell? ⟨W.heap.size,0,none⟩=some (.func (.yield l) #[] #[]):=by rw[E];exact((Boxed.new W _ _).alloc _).cell
 have bV:W0.cell? ⟨W.heap.size+1,0,none⟩=some (pP p1):=by
  rw[E];have:=Boxed.new (W.alloc (.cells #[.func (.yield l) #[] #[]] 284)) 223 (pP p1);rw[π]at this;exact this.cell
 rw[<-E];have Y:=I.1.good;have hnb:=I.1.nb;have Xo:J 0 W0:=hJ _ _ _ Xu (Xy.touch _);have Ya:BF L ((0:Nat):Int)=0:=NV (ζe _) (λi hi h=>by omega) (λh=>by omega)
 have tI:∀s A B,N6 n L J W.heap.size (W.heap.size+1) p1 (.func (.yield l) #[] #[]) s A->AB (λk=>W0.heap.size<=k/\k<W0.heap.size+2+0) A B->N6 n L J W.heap.size (W.heap.size+1) p1 (.func (.yield l) #[] #[]) s B:=λs A B h t=>
  ⟨h.st,h.ps,by obtain⟨j,hj,e⟩:=h.j;exact⟨j,hJ _ _ _ hj (t.mono (λk _ h=>by omega)),e⟩,(t.cell (A6 h.y) (by show ¬(W0.heap.size<=W.heap.size/\_);omega) 0).trans h.y,(t.cell (A6 h.v) (by show ¬(W0.heap.size<=W.heap.size+1/\_);omega) 0).trans h.v⟩
 refine NF (K:=0) (s0:=(CE n L,0)) rfl Ω (gf:=257) (lb:=#[pP (W.heap.size+1)]) rfl trivial (enters_of func257 (by kernel_rfl) rfl)
  (ZNp _ (W.heap.size+1) p1 b1 n (CE n L) _).toU (λ_=>rfl)
  (N6 n L J W.heap.size (W.heap.size+1) p1 (.func (.yield l) #[] #[])) (λc A=>c=.ret/\Jx A) tI (λc A B h t=>⟨h.1,Xk _ _ h.2 (t.mono (λk _ h=>by omega))⟩)
  (λs A h=>by
   obtain⟨j,hj,-⟩:=h.j;have hi:=Xm _ _ hj
   exact⟨by rw[h.st];exact hi.1.v1,by rw[h.st,JI],hi.2.1,h.v,h.ps⟩)
  ⟨rfl,ζe _,⟨0,Xo,Ya⟩,bY,bV⟩ ?round ?done ?stop
 case round=>
  intro lp s x W3 hsz3 Xg Yb;gi_wp2;refine⟨Gr.refl _,λW4 ht4 hI4=>?_⟩;obtain⟨O,Xn,⟨j,hj,U⟩,hy,hv⟩:=hI4;obtain⟨hx,Xh⟩:=Yb;have Xb:=Xm _ _ hj;rw[O]at hx Xh
  have Z:j<L.length:=by
   rcases δ j L.length with h|h
   ·exact h
   ·have:=Y3 Y (a:=(s.2:Int)) (by rw[U];omega);omega
  have Xt:x=L[j].1:=by
   have:=(O9 Y (a:=(s.2:Int)) (by rw[U];exact Z)).1;rw[hx,this];congr 2
  subst Xt;have Xz:J j W4.drew:=hJ _ _ _ hj ((Gr.refl W4).drew.touch _);have Xr:W.heap.size+4<=W4.drew.heap.size:=by have:=ht4.size;show W.heap.size+4<=W4.heap.size;omega
  obtain⟨fn,tmps,assign,body,Xv,hR⟩:=ZVe (m':=2) (l2:=lp) (hY j L[j] W4.drew Xz Xr (τ Z));have HZ:=(S6 (Xb.1.gr (Gr.refl W4).drew) ((Gr.refl W4).drew.tab Xb.2.1.lt Xb.2.1) Z);have cbx:=Xb.2.2.1;have HS:=(ξ O (ξ U Z));clear O U hj Xb hx Xh Xg;dsimp only[IC]at Xv
  have Xq:=hR.mono (R':=λe W'=>∃bb:Bool,e=.returned (.bool bb)/\((bb=true/\J (j+1) W')\/(bb=false/\Jx W'))/\AB (λk=>k<W.heap.size\/W.heap.size+4<=k) W4.drew W') (by
   rintro e W' ⟨⟨he,s',rfl,Xs⟩|⟨he,hx⟩,ht⟩
   ·exact⟨true,he,.inl ⟨rfl,Xs⟩,ht⟩
   ·exact⟨false,he,.inr ⟨rfl,hx⟩,ht⟩)
  clear hR;gi_wp2;obtain⟨Sx,Xd⟩:=ε (λA=>A.cell? ⟨W.heap.size,0,none⟩=some (.func (.yield l) #[] #[]):World->Prop);have x1:∀p:AA Sx,p.w.cell? ⟨W.heap.size,0,none⟩=some (.func (.yield l) #[] #[]):=λp=>AA.get Xd p;have Xa:Sx W4.drew:=by rw[Xd];exact hy
  have Xp:=ι Xd;clear Xd;have Xi:Inhabited (AA Sx):=⟨⟨_,Xa⟩⟩;refine IK Sx 7 [([0,1,3],2),([],4),([],5)] [6] (λ_=>trivial) Xa ?_;refine E3 ?_;gi_wp2;refine⟨.inr (AA.of Xa),?_⟩;refine PL ?_;simp only[AF,υ,ν];refine ζb ?_;gi_wp2_with(refine⟨trivial,?_⟩;gi_at_call 205;refine(CallsIn.inRound lp (γ.2 HZ)).mono ?_;rintro e w' ⟨rfl,rfl⟩);refine⟨.inr (AA.of Xa),?_⟩;refine PL ?_;simp only[AF,υ,ν];refine ζb ?_;gi_wp2;refine Xq.mono ?_;rintro e W5 ⟨bb,rfl,Xe,Xc⟩;have Xj:=(Xc.cell (A6 hy) (by show ¬(W.heap.size<W.heap.size\/W.heap.size+4<=W.heap.size);omega) 0).trans hy;have Xx:=(Xc.cell (A6 hv) (by show ¬(W.heap.size+1<W.heap.size\/W.heap.size+4<=W.heap.size+1);omega) 0).trans hv;gi_wp2;refine⟨.inr (AA.of (by rw[Xp.o];exact Xj)),?_⟩;refine IB ?_;have T5:=(((Gr.refl W4).drew.touch (λk=>k<W0.heap.size\/W0.heap.size+(2+0)<=k)).trans (Xc.mono (λk _ h=>by omega)));have Xw:=(Y.sz _ (χ Z));clear x1 Xa Xp Xi Xq Xc;clear Sx;cases bb with
  | true=>
   have Xf:J (j+1) W5:=by
    rcases Xe with⟨_,h⟩|⟨h,_⟩
    ·exact h
    ·cases h
   clear Xe;gi_wp2;exact⟨T5,(CE n L,L[j].1+1),rfl,rfl,by have:=Xw;show L[j].1+1<=n;omega,⟨j+1,Xf,by have:=ZjB Y Z;push_cast;exact this⟩,Xj,Xx⟩
  | false=>
   have Xf:Jx W5:=by
    rcases Xe with⟨h,_⟩|⟨_,h⟩
    ·cases h
    ·exact h
   clear Xe;gi_wp2;exact⟨T5,rfl,Xf⟩
 case done=>
  rintro D s W3 hD V Xg hK;obtain⟨O,Xn,⟨j,hj,U⟩,hy,hv⟩:=Xg
  have Z:¬j<L.length:=λh=>by
   have:=O9 Y (a:=(s.2:Int)) (by rw[U];exact h);unfold XD at V;rw[O]at V;exact V this.2
  have Xl:j=L.length:=by have:=P5 L (s.2:Int);omega
  have HE:=(ξ Xl hj);have HD:=hD;clear O Xn U hy hv V Xl hj hD Z;gi_wp2;refine⟨by simp,.inl ⟨_,_,rfl,run_takeDeferred hK,?_⟩⟩;refine⟨.tuple #[],ζh rfl _ _ _,⟨_,rfl⟩,.inl ⟨j,HE.1,hJ _ _ _ HE.2 ((EJ W3 D _).mono (λk _ h=>by have:=HD;omega))⟩⟩
 case stop=>
  rintro D c W3 hD ⟨rfl,hx⟩ hK;have hK:=hK;have HD:=hD;clear hK hD;gi_wp2;refine⟨by simp,.inl ⟨_,_,rfl,run_takeDeferred hK,?_⟩⟩;refine⟨.tuple #[],ζh rfl _ _ _,⟨_,rfl⟩,.inr (Xk _ _ hx ((EJ W3 D _).mono (λk _ h=>by have:=HD;omega)))⟩
end
structure MkC where
 k:Nat
 z:Sp
 m:Nat
 p1:Nat
 b1:Nat
 p2:Nat
 b2:Nat
 n:Nat
 g:Nat
 R:Nat
 wk:Nat
 B:Nat
variable{c:MkC}
def MkC.T(c:MkC)(G:Nat->Prop)(i:Nat):Prop:=i=c.k\/AT c.m c.b1 c.b2 i\/G i
structure DU(c:MkC)(SV G SW:Nat->Prop):Prop where
 sv':∀i,SV i->i<c.B/\¬c.T G i
 sw':∀i,SW i->i<c.B/\¬c.T G i
 tab':1<c.B/\¬c.T G 1
 p1':c.p1<c.B/\¬c.T G c.p1
 p2':c.p2<c.B/\¬c.T G c.p2
 k1:¬AT c.m c.b1 c.b2 c.k
 k2:¬G c.k
 kB:c.k<c.B
 mg:∀i,AT c.m c.b1 c.b2 i->¬G i
 mB:∀i,AT c.m c.b1 c.b2 i->i<c.B
 sd':∀i,c.z.D i->i<c.B/\¬c.T G i
section
variable{G:Nat->Prop}
theorem DU.sv(h:DU c SV G SW):∀i,SV i->¬c.T G i:=λi hi=>(h.sv' i hi).2
theorem DU.sw(h:DU c SV G SW):∀i,SW i->¬c.T G i:=λi hi=>(h.sw' i hi).2
theorem DU.sd(h:DU c SV G SW):∀i,c.z.D i->¬c.T G i:=λi hi=>(h.sd' i hi).2
theorem MkC.vm(hz:c.z.Ok)(hs:DU c SV G SW){T':Nat->Prop}(h:c.z.I v SV w)(t:AB T' w w')(hT:∀i,T' i->c.T G i):c.z.I v SV w':=hz.fr h t (λk _ hk=>⟨λh=>hs.sv k h (hT k hk),λh=>hs.sd k h (hT k hk)⟩) (λ_ h=>h)
theorem DU.tab(h:DU c SV G SW):¬c.T G 1:=h.tab'.2
theorem DU.p1(h:DU c SV G SW):¬c.T G c.p1:=h.p1'.2
theorem DU.p2(h:DU c SV G SW):¬c.T G c.p2:=h.p2'.2
theorem DU.plus(h:DU c SV G SW){w:World}(hw:c.B<=w.heap.size):DU c SV (plus G w) SW:=by
 have Y:∀i,i<c.B/\¬c.T G i->i<c.B/\¬c.T (Go.Proofs.YtcihfnpokdbfpaaGreatDoor.plus G w) i:=λi hi=>⟨hi.1,λht=>by
  rcases ht with h1|h1|h1|h1
  ·exact hi.2 (.inl h1)
  ·exact hi.2 (.inr (.inl h1))
  ·exact hi.2 (.inr (.inr h1))
  ·omega⟩
 exact⟨λi hi=>Y i (h.sv' i hi),λi hi=>Y i (h.sw' i hi),Y _ h.tab',Y _ h.p1',Y _ h.p2',h.k1,λh1=>h1.elim h.k2 (λh2=>by have:=h.kB;omega),h.kB,λi hi h1=>h1.elim (h.mg i hi) (λh2=>by have:=h.mB i hi;omega),h.mB,λi hi=>Y i (h.sd' i hi)⟩
end
def J9(c:MkC)(L:List Ob)(r vi:Int):List Value:=[c.z.v,pP c.m,pP c.g,pP c.wk,iI (L.length:Nat),iI (AC L:Nat),iI r,iI vi]
structure BM(w:World)(SV G SW:Nat->Prop)(c:MkC)(v:Vm)(s:MkS)(r vi:Int):Prop where
 vm:c.z.I v SV w
 ext:Ext w c.m c.p1 c.b1 c.p2 c.b2 c.n s.L
 stk:CG w G c.g s.st c.R s.lost
 wk:ED w SW c.wk c.z.v []
 row:Rec w c.k 234 (J9 c s.L r vi)
 tab:AQ w
 sep:DU c SV G SW
 bB:c.B<=w.heap.size
 zk:c.z.Ok/\¬c.z.M
theorem BM.gr{G:Nat->Prop}(h:BM w SV G SW c v s r vi)(g:Gr w w'):BM w' SV G SW c v s r vi:=
 ⟨h.zk.1.gr h.vm g,h.ext.gr g,h.stk.gr g,h.wk.gr g,h.row.gr g,g.tab h.tab.lt h.tab,h.sep,ω h.bB g.size,h.zk⟩
theorem BM.set{G:Nat->Prop}(h:BM w SV G SW c v s r vi){r' vi':Int}(hj:(J9 c s.L r vi).set j u=J9 c s.L r' vi'):BM (w.setCell ⟨c.k,j,none⟩ u) SV G SW c v s r' vi':=by
 have t:AB (λi=>i=c.k) w (w.setCell ⟨c.k,j,none⟩ u):=(AB.refl (λi=>i=c.k) w).setCell (a:=⟨c.k,j,none⟩) (λ_=>rfl) u;have hs:=h.sep;refine⟨MkC.vm h.zk.1 hs h.vm t (λi e=>.inl e),?_,h.stk.touch t (λi hi _ e=>hs.k2 (e▸hi)),h.wk.touch t (λi hi _ e=>hs.sw i hi (.inl e)),hj▸h.row.set j u,t.tab h.tab.lt (λe=>hs.tab (.inl e)) h.tab,hs,ω h.bB t.size,h.zk⟩;exact h.ext.touch t (λe=>hs.k1 (e▸.inl rfl)) (λe=>hs.p1 (.inl e)) (λe=>hs.k1 (e▸.inr (.inl rfl))) (λe=>hs.p2 (.inl e)) (λe=>hs.k1 (e▸.inr (.inr rfl)))
theorem QR{G:Nat->Prop}(j:Nat)(u:Value):AB (c.T G) w (w.setCell ⟨c.k,j,none⟩ u):=(AB.refl _ w).setCell (a:=⟨c.k,j,none⟩) (λ_=>.inl rfl) u
def FG(w:World)(SV G SW:Nat->Prop)(c:MkC)(v:Vm)(P:MkS->Int->Int->Prop)(N:Prop)(e:Ending)(w':World):Prop:=
 AB (c.T G) w w'/\((e=.returned (.tuple #[])/\∃s r vi,BM w' SV (plus G w) SW c v s r vi/\P s r vi)\/(e=.panicked [{v:=VSi 25 0,recovered:=false}]/\N/\∃s r vi,BM w' SV (plus G w) SW c v s r vi))
section
variable{G:Nat->Prop}{P:MkS->Int->Int->Prop}{N:Prop}
theorem BM.sub{G':Nat->Prop}(h:BM w SV G SW c v s r vi)(hg:∀i,G i->G' i)(hs:DU c SV G' SW):BM w SV G' SW c v s r vi:=⟨h.vm,h.ext,h.stk.mono hg,h.wk,h.row,h.tab,hs,h.bB,h.zk⟩
theorem BM.up(h:BM w' SV G SW c v s r vi)(hw:c.B<=w.heap.size):BM w' SV (plus G w) SW c v s r vi:=h.sub (λ_ h=>.inl h) (h.sep.plus hw)
theorem BM.back{w0:World}(h:BM w' SV (plus (plus G w0) w) SW c v s r vi)(hz:w0.heap.size<=w.heap.size)(hs:DU c SV G SW)(hw:c.B<=w0.heap.size):BM w' SV (plus G w0) SW c v s r vi:=
 h.sub (λ_ h=>h.elim id (λh=>.inr (ω hz h))) (hs.plus hw)
theorem KU{a b d:World}(h:AB (c.T G) a b)(k:AB (c.T (plus G a)) b d):AB (c.T G) a d:=
 h.trans' k (λi hi ht=>by
  rcases ht with h1|h1|h1|h1
  ·exact .inl h1
  ·exact .inr (.inl h1)
  ·exact .inr (.inr h1)
  ·omega)
theorem FG.ok(t:AB (c.T G) w w')(h:BM w' SV (plus G w) SW c v s r vi)(p:P s r vi):FG w SV G SW c v P N (.returned (.tuple #[])) w':=⟨t,.inl ⟨rfl,s,r,vi,h,p⟩⟩
end
theorem VEk(L:List Ob)(o:Ob):AC (DS L o)=AC L+o.2:=by
 induction L with
 | nil=>simp[DS,AC]
 | cons q t ih=>
  unfold DS
  split
  ·simp only[AC];omega
  ·simp only[AC,ih];omega
theorem Jqz(h:AS n L)(ha:Hs L a):BD L a<L.length/\obS L (BD L a)=a:=by
 obtain⟨o,ho,rfl⟩:=ha;obtain⟨j,hj,rfl⟩:=ζt ho;have hz:=(h.sz _ ho).1;rw[QH h hj (ψV _) Ω]
 grind [LE]
theorem Z8n(hn:¬Hs L a)(hf:BD L a<L.length):obS L (BD L a)≠a:=by
 rw[(LE hf).1];exact λe=>hn ⟨_,χ hf,e⟩
theorem CG.set2{G:Nat->Prop}{i:Nat}(h:CG w G g l R b)(hk:¬G k):CG ((w.setCell ⟨k,i,none⟩ u).setCell ⟨k,j,none⟩ u') G g l R b:=
 (h.touch ((AB.refl (λx=>x=k) w).setCell (a:=⟨k,i,none⟩) (λ_=>rfl) u) (λ_ hx _ e=>hk (e▸hx))).touch ((AB.refl (λx=>x=k) _).setCell (a:=⟨k,j,none⟩) (λ_=>rfl) u') (λ_ hx _ e=>hk (e▸hx))
theorem VNW{z:Int}(he:DL L c.n a z=0):((J9 c L r vi).set 4 (iI ((L.length:Nat)+1))).set 5 (iI ((AC L:Nat)+z))=J9 c (DC L c.n a z) r vi:=by
 have hz:=(YLm he).1;have h1:=ZoS he;have h2:AC (DC L c.n a z)=AC L+z.toNat:=by unfold DC;rw[θ he,VEk]
 unfold J9
 grind
theorem BM.pushed{w4 w5:World}{G:Nat->Prop}(h:BM w SV G SW c v s r vi){L':List Ob}(t4:AB (AT c.m c.b1 c.b2) w w4)(x4:Ext w4 c.m c.p1 c.b1 c.p2 c.b2 c.n L')
  (t5:AB G ((w4.setCell ⟨c.k,4,none⟩ u).setCell ⟨c.k,5,none⟩ u') w5) (s5:CG w5 (plus G ((w4.setCell ⟨c.k,4,none⟩ u).setCell ⟨c.k,5,none⟩ u')) c.g st' c.R lost') (hm:((J9 c s.L r vi).set 4 u).set 5 u'=J9 c L' r vi):
  BM w5 SV (plus G w) SW c v ⟨L',st',lost'⟩ r vi/\AB (c.T G) w w5:=by
 have hs:=h.sep
 have tk:AB (λi=>i=c.k) w4 ((w4.setCell ⟨c.k,4,none⟩ u).setCell ⟨c.k,5,none⟩ u'):=
  ((AB.refl (λi=>i=c.k) w4).setCell (a:=⟨c.k,4,none⟩) (λ_=>rfl) u).setCell (a:=⟨c.k,5,none⟩) (λ_=>rfl) u'
 have hz:w.heap.size<=((w4.setCell ⟨c.k,4,none⟩ u).setCell ⟨c.k,5,none⟩ u').heap.size:=ω t4.size tk.size;have Y:¬G c.k:=hs.k2
 refine⟨⟨MkC.vm h.zk.1 hs (MkC.vm h.zk.1 hs (MkC.vm h.zk.1 hs h.vm t4 (λi e=>.inr (.inl e))) tk (λi e=>.inl e)) t5 (λi e=>.inr (.inr e)),?_,s5.mono (λi hi=>hi.imp id (λh'=>ω hz h')),((h.wk.touch t4 (λi hi _ e=>hs.sw i hi (.inr (.inl e)))).touch tk (λi hi _ e=>hs.sw i hi (.inl e))).touch t5 (λi hi _ e=>hs.sw i hi (.inr (.inr e))),
   (hm▸((h.row.touch t4 hs.k1).set 4 u).set 5 u').touch t5 Y,?_,hs.plus h.bB,ω h.bB (ω hz t5.size),h.zk⟩,?_⟩
 ·have e1:=x4.touch tk (λe=>hs.k1 (e▸.inl rfl)) (λe=>hs.p1 (.inl e)) (λe=>hs.k1 (e▸.inr (.inl rfl))) (λe=>hs.p2 (.inl e)) (λe=>hs.k1 (e▸.inr (.inr rfl)));exact e1.touch t5 (hs.mg _ (.inl rfl)) (λe=>hs.p1 (.inr (.inr e))) (hs.mg _ (.inr (.inl rfl))) (λe=>hs.p2 (.inr (.inr e))) (hs.mg _ (.inr (.inr rfl)))
 ·have a1:=t4.tab h.tab.lt (λe=>hs.tab (.inr (.inl e))) h.tab;have a2:=tk.tab a1.lt (λe=>hs.tab (.inl e)) a1;exact t5.tab a2.lt (λe=>hs.tab (.inr (.inr e))) a2
 ·exact((t4.mono (λi _ hi=>.inr (.inl hi))).trans (tk.mono (λi _ hi=>.inl hi))).trans (t5.mono (λi _ hi=>.inr (.inr hi)))
section
variable{G:Nat->Prop}
theorem YP(w:World)(k:Nat):cQ 272 #[pP k,.bool true] w (.tuple #[]):=by
 go_enter func272,ntmps272;go_wp2;refine ζk (ζh rfl _ _ _) rfl ?_
 simp_all
def Sp.Rd(z:Sp)(v:Vm)(a:Int):Prop:=(0<a->z.P a)/\∀i:Int,v.plE a i 1=0->z.P (a+1+i)
def XLt(s:MkS)(v:Vm)(rs:List Int)(c:MkC)(X:Int->Prop)(a r vi:Int)(s':MkS)(r' vi':Int):Prop:=CJ v rs c.n c.R X s'/\DZ s s'/\(a≠0->Hs s'.L a)/\r'=r/\vi'=vi
def Yr9(s:MkS)(v:Vm)(rs:List Int)(c:MkC)(X:Int->Prop)(a r:Int)(s':MkS)(r' _vi':Int):Prop:=CJ v rs c.n c.R X s'/\DZ s s'/\Cl v s'.L a/\r'=r
end
section
attribute [local go_sem] Oper.semAt_some
def L7(L:List Ob)(j:Nat):List Value:=zs ((L.take j).map λo=>(o.1:Int))
theorem QZB(h:j<L.length):L7 L (j+1)=L7 L j++[iI (L[j].1:Nat)]:=by
 unfold L7 zs
 grind [ζK]
theorem JrH{b b' E size:Nat}{v:Value}{xs:List Value}(h:w.ownsRow b E size v n xs)(hb:b'<=b):w.ownsRow b' E size v n xs:=by
 obtain⟨h1,h2⟩:=h;refine⟨h1,h2.imp id ?_⟩;rintro⟨g,Z,Y,e1,e2,e3⟩;exact⟨g,Z,Y,e1,ω hb e2,e3⟩
structure StI(W0:World)(B:Nat)(L:List Ob)(j:Nat)(A:World):Prop where
 t:AB (λi=>i=B\/W0.heap.size<=i) W0 A
 jl:j<=L.length
 f0:A.frozen? ⟨B,0,none⟩=false
 row:∃vL,A.cell? ⟨B,0,none⟩=some vL/\A.ownsRow (W0.heap.size+6) 3 1 vL j (L7 L j)
def JLP(w:World)(L:List Ob)(e:Ending)(w':World):Prop:=∃vL,e=.returned vL/\Gr w w'/\w'.ownsRow w.heap.size 3 1 vL L.length (L7 L L.length)
theorem Yde{p1 b1 p2 b2:Nat}(hE:Ext w m p1 b1 p2 b2 n L)(hT:AQ w)(c1:w.cell? ⟨k,1,none⟩=some (pP m)):Calls prog 224 #[pP k] w (JLP w L):=by
 have HE:=hE;have HT:=hT;have hkl:=A6 c1;refine(γ (n:=5)).1 ?_;refine callsIn_of_wp_marks func224 rfl trivial ?_ rfl;simp only[ntmps224,ζ3,ζD,ξf,Nat.reduceAdd,Nat.reduceSub,ζR,ζQ,ζ9,ζZ,ζ4,ζv];gi_wp2_with(refine⟨trivial,?_⟩;gi_at_call 135;refine(γ.2 (LO (some ⟨m,0,none⟩))).mono ?_;rintro e w1 ⟨rfl,rfl⟩);obtain⟨W2,O⟩:=ε (w.alloc (.cells #[.slice none 0 0] 42));have Xr:Boxed W2 w.heap.size 42 (.slice none 0 0):=by rw[O];exact Boxed.new w _ _
 have Xk:Gr w W2:=by rw[O];exact(Gr.refl w).alloc _
 have Xp:W2.heap.size=w.heap.size+1:=by rw[O];simp
 rw[<-O];obtain⟨W0,J⟩:=ε (W2.alloc (.cells #[.pointer (some ⟨m,0,none⟩)] 137));have Xa:Gr w W0:=by rw[J];exact Xk.alloc _
 have hsz:W0.heap.size=w.heap.size+2:=by rw[J];simp;omega
 have k1:Boxed W0 w.heap.size 42 (.slice none 0 0):=by rw[J];exact Xr.alloc _
 have k4:W0.cell? ⟨w.heap.size+1,0,none⟩=some (pP m):=by
  rw[J];have:=(Boxed.new W2 137 (pP m)).cell
  rwa [Xp]at this
 rw[<-J];have Y:=HE;have o1:=Y.hm;have o2:=Y.v1.hp;have o3:=Y.v1.hb;have o4:=Y.v2.hp;have o5:=Y.v2.hb;have o6:=HT.lt;have hnb:=Y.nb;have I:=Y.good;have hlen:=I.len;obtain⟨ii,Xo,Xj,Xe,Xh⟩:=info_parts NA
 have tI:∀j A B,StI W0 w.heap.size L j A->AB (λi=>W0.heap.size<=i/\i<W0.heap.size+2+4) A B->StI W0 w.heap.size L j B:=λj A B h t=>by
  have ht:=h.t.size;obtain⟨vL,hc,ho⟩:=h.row;exact⟨h.t.trans (t.mono (λi _ h=>.inr h.1)),h.jl,(t.frozen Ω (by show ¬(W0.heap.size<=w.heap.size/\_);omega) 0).trans h.f0,vL,(t.cell Ω (by show ¬(W0.heap.size<=w.heap.size/\_);omega) 0).trans hc,AX ho t (λg hg h=>by have:=(A9 ho hg).1;omega)⟩
 refine NF (K:=4) (s0:=0) rfl Ω (gf:=202) (lb:=#[pP (w.heap.size+1)]) rfl trivial (enters_of func202 (by kernel_rfl) rfl)
  (QQ _ (w.heap.size+1) m p1 b1 p2 b2 n L _) (λ_=>rfl)
  (StI W0 w.heap.size L) (λ_ _=>False) tI (λ_ _ _ h _=>h)
  (λj A h=>⟨(HE.gr Xa).touch h.t Ω Ω Ω Ω Ω,(Xa.tab o6 HT).touch' h.t Ω,(h.t.cell Ω Ω 0).trans k4,h.jl⟩)
  ⟨AB.refl _ _,ζe _,k1.frozen,_,k1.cell,FD _ _ _ _⟩ ?round ?done ?stop
 case round=>
  intro lp j x W3 hsz3 U Z;dsimp only[IC];gi_wp2;refine⟨Gr.refl _,λW4 ht4 hI4=>?_⟩
  have E:j<L.length:=by
   rcases δ j L.length with h|h
   ·exact h
   ·unfold FE at Z;rw[ζz h]at Z;cases Z
  obtain rfl:x=L[j]:=by unfold FE at Z;rw[τ E]at Z;exact(Option.some.inj Z).symm
  have Xb:=QZB E;obtain⟨y,hy⟩:=ε (L[j].1);rw[<-hy]at Xb⊢;obtain⟨vL,hc,ho⟩:=hI4.row;have Xi:=hI4.f0;have hsz4:W0.heap.size+6<=W4.heap.size:=by have:=ht4.size;omega
  have Xg:=hI4;have HO:=ho;have Xn:=Xb;clear U hI4 Xb hy ho Z ht4;gi_wp2_with(gi_at_builtin;refine wpListIn_append_own _ rfl _ _ 42 rfl (W0.heap.size+6) 3 ii _ 1 8 underlying42 Xo Xj Xe Xh rfl (by decide) _ _ _ rfl (HO.alloc _) ⟨W4.heap.size,0,none⟩ 1 1 [iI (y:Nat)] rfl rfl (cell_one_new _ _ _) (by simp[Value.oneCell']) (by unfold maxLen;omega) Ω (by simp;omega) ?_;intro v' w5 V Xc _;obtain⟨A5,c5,rfl,-,-⟩:=B9 V;have t5:AB (λi=>W0.heap.size+6<=i) W4 w5:=((((Gr.refl W4).alloc _).touch _)).trans (DT Xc _ (λi e _=>(A9 HO e).1));have Xf:=(t5.cell (b:=w.heap.size) Ω Ω 0).trans hc;have Xl:=(t5.frozen (b:=w.heap.size) Ω Ω 0).trans Xi;have Xd:=V;have Xq:=t5);have tt:AB (λi=>i=w.heap.size\/W0.heap.size+6<=i) W4 (w5.setCell ⟨w.heap.size,0,none⟩ (.slice A5 (j+1) c5)):=(Xq.mono (λi _ h=>.inr h)).setCell (a:=⟨w.heap.size,0,none⟩) (λ_=>.inl rfl) _;refine⟨tt.mono (λi _ h=>by omega),j+1,rfl,⟨Xg.t.trans (tt.mono (λi _ h=>h.imp id (λh=>by omega))),E,by rw[ξh];exact Xl,_,World.cell?_setCell_same' w5 ⟨w.heap.size,0,none⟩ _ (by rw[Xf];rfl),?_⟩⟩;rw[Xn];exact AW Xd _ (λg hg=>by have:=(A9 Xd hg).1;omega)
 case done=>
  rintro D j W3 hD rfl U hK;obtain⟨vL,hc,ho⟩:=U.row;have HO:=ho;have HK:=hK;have HD:=hD;have Xm:=U;have hs3:=U.t.size;gi_wp2;refine⟨by simp,.inl ⟨_,_,rfl,run_takeDeferred HK,?_⟩⟩;refine⟨_,results_tmp rfl _ _ _,vL,rfl,(((Xa.touch (λ_=>False)).trans' Xm.t (λi hi h=>by omega)).trans' (EJ W3 D _) (λi hi h=>by have:=HD;omega)).gr,?_⟩;exact JrH (AX HO (EJ W3 D _) (λg hg h=>by have:=(A9 HO hg).1;have:=HD;omega)) Ω
 simp_all
end
def N7(s:MkS)(r vi:Int):Prop:=s.L=[]->r=1/\vi=0
theorem BM.popped{G:Nat->Prop}{st:List Int}{lost:Bool}(h:BM w SV G SW c v ⟨L,st,lost⟩ r vi)(t:AB G w w')(s':CG w' G c.g st' c.R lost'):BM w' SV G SW c v ⟨L,st',lost'⟩ r vi:=by
 have hs:=h.sep;have Y:¬G c.k:=hs.k2;exact⟨MkC.vm h.zk.1 hs h.vm t (λi e=>.inr (.inr e)),h.ext.touch t (hs.mg _ (.inl rfl)) (λe=>hs.p1 (.inr (.inr e))) (hs.mg _ (.inr (.inl rfl))) (λe=>hs.p2 (.inr (.inr e))) (hs.mg _ (.inr (.inr rfl))),s',h.wk.touch t (λi hi _ e=>hs.sw i hi (.inr (.inr e))),h.row.touch t Y,t.tab h.tab.lt (λe=>hs.tab (.inr (.inr e))) h.tab,hs,ω h.bB t.size,h.zk⟩
def VA(st st':List Int)(a:Int)(b:Bool):Prop:=(b=true/\st=st'++[a])\/(b=false/\st=[]/\st'=[])
def VSm(w:World)(SV G SW:Nat->Prop)(c:MkC)(v:Vm)(s:MkS)(r vi:Int)(e:Ending)(w':World):Prop:=∃a b st',e=.returned (.tuple #[iI a,.bool b])/\AB (c.T G) w w'/\BM w' SV G SW c v ⟨s.L,st',s.lost⟩ r vi/\VA s.st st' a b
section
variable{G:Nat->Prop}
theorem VPs(h:BM w SV G SW c v s r vi):Calls prog 274 #[pP c.g] w (VSm w SV G SW c v s r vi):=by
 refine(ZtN h.stk).mono ?_;rintro e w' (⟨h0,rfl,rfl⟩|⟨l',a,h0,rfl,ht,hs⟩)
 ·refine⟨0,false,[],rfl,AB.refl _ _,?_,.inr ⟨rfl,h0,rfl⟩⟩;rw[<-h0];exact h
 ·exact⟨a,true,l',rfl,ht.mono (λi _ hi=>.inr (.inr hi)),BM.popped (L:=s.L) (st:=s.st) (lost:=s.lost) h ht hs,.inl ⟨rfl,h0⟩⟩
def DrS(v:Vm)(rs:List Int)(c:MkC)(X:Int->Prop)(s:MkS)(a:Int)(b:Bool)(k:Nat):Prop:=
 ((b=false/\s.st=[]/\CJ v rs c.n c.R X s)\/(b=true/\Hs s.L a/\CJ v rs c.n c.R (λx=>X x\/x=a) s))/\2*c.n+s.st.length+(if b then 1 else 0)<=2*s.L.length+k
theorem DrS.of(h:CJ v rs c.n c.R X s)(hp:VA s.st st' a b)(hk:2*c.n+s.st.length<=2*s.L.length+k):DrS v rs c X ⟨s.L,st',s.lost⟩ a b k:=by
 rcases hp with⟨rfl,h1⟩|⟨rfl,h1,rfl⟩
 ·have h':CJ v rs c.n c.R X ⟨s.L,st'++[a],s.lost⟩:=by rw[<-h1];exact h
  refine⟨.inr ⟨rfl,h'.pop.2,h'.pop.1⟩,?_⟩
  grind
 ·refine⟨.inl ⟨rfl,rfl,by rw[<-h1];exact h⟩,?_⟩
  simp_all
def VA5(s:MkS)(v:Vm)(rs:List Int)(c:MkC)(X:Int->Prop)(r vi:Int)(s':MkS)(r' vi':Int):Prop:=CJ v rs c.n c.R X s'/\DZ s s'/\s'.st=[]/\(N7 s r vi->N7 s' r' vi')
theorem JY8{t:MkS}(h:DZ s t)(hp:VA t.st st' a b):DZ s ⟨t.L,st',t.lost⟩:=by
 refine⟨h.sub,h.len,h.los,?_⟩;have:=h.mea;rcases hp with⟨-,h1⟩|⟨-,h1,rfl⟩
 ·grind
 simp_all
theorem QHb(h:Hs L a):L≠[]:=by
 rintro rfl;obtain⟨o,ho,-⟩:=h;cases ho
end
theorem BM.cut{G:Nat->Prop}(h:BM w SV G SW c v s r vi):BM w SV (AD G w) SW c v s r vi:=by
 have hs:=h.sep;have Y:∀i,i<c.B/\¬c.T G i->i<c.B/\¬c.T (AD G w) i:=λi hi=>⟨hi.1,λht=>hi.2 (ht.imp id (λh=>h.imp id (λh=>h.1)))⟩
 exact⟨h.vm,h.ext,h.stk.cut,h.wk,h.row,h.tab,⟨λi hi=>Y i (hs.sv' i hi),λi hi=>Y i (hs.sw' i hi),Y _ hs.tab',Y _ hs.p1',Y _ hs.p2',hs.k1,λh=>hs.k2 h.1,hs.kB,λi hi h=>hs.mg i hi h.1,hs.mB,λi hi=>Y i (hs.sd' i hi)⟩,h.bB,h.zk⟩
def L4(L:List Ob)(j:Nat)(a:Int):Prop:=∃o∈L.drop j,(o.1:Int)=a
theorem JmM(h:Hs L a):L4 L 0 a:=h
theorem J6E(h:j<L.length)(ha:L4 L j a):L4 L (j+1) a\/a=(L[j].1:Int):=by
 obtain⟨o,ho,rfl⟩:=ha;rw[ξH h]at ho;rcases ξC.1 ho with rfl|ho
 ·omega
 ·exact .inl ⟨o,ho,rfl⟩
theorem Jdx(a:Int):¬L4 L L.length a:=by
 rintro⟨o,ho,-⟩
 simp_all
theorem CJ.found(h:CJ v rs n R X s):CJ v rs n R (L4 s.L 0) ⟨s.L,s.st,false⟩:=⟨h.mkd,h.st,h.r,λ_ ha=>.inr (.inr (.inr (JmM ha)))⟩
section
variable{G:Nat->Prop}
def s0:MkS:=⟨[],[],false⟩
def VZ(v:Vm)(rs:List Int)(c:MkC)(j:Nat)(s:MkS)(r vi:Int):Prop:=CJ v rs c.n c.R (λ_=>False) s/\s.st=[]/\(∀x∈rs.take j,x≠0->Hs s.L x)/\N7 s r vi/\(s.lost=true->s.L≠[])
def PW(v:Vm)(rs:List Int)(c:MkC)(s:MkS)(r vi:Int):Prop:=BO v rs c.n s.L/\N7 s r vi
end
theorem VUu(args:Array Value)(W:World):(callFunc 155 args).run prog W=.ok (.enter 155 args) W:=by kernel_rfl
def YH(z:Sp)(m g:Nat)(wk:Value)(L:List Ob)(r vi:Int):List Value:=[z.v,pP m,pP g,wk,iI (L.length:Nat),iI (AC L:Nat),iI r,iI vi]
section
variable{G:Nat->Prop}
end
structure OF(w:World)(SV:Nat->Prop)(z:Sp)(k m p1 b1 p2 b2 n g:Nat)(v:Vm)(L:List Ob)(r vi:Int):Prop where
 zk:z.Ok
 vm:z.I v SV w
 ext:Ext w m p1 b1 p2 b2 n L
 tab:AQ w
 row:∃wk,Rec w k 234 (YH z m g wk L r vi)
theorem OF.touch{p1 b1 p2 b2:Nat}(h:OF w SV z k m p1 b1 p2 b2 n g v L r vi)(t:AB S w w')(hv:∀i,SV i->¬S i)(hm:∀i,AT m b1 b2 i->¬S i)(h1:¬S p1)(h2:¬S p2)(ht:¬S 1)(hk:¬S k)(hd:∀i,z.D i->¬S i):OF w' SV z k m p1 b1 p2 b2 n g v L r vi:=
 ⟨h.zk,h.zk.fr h.vm t (λi _ hi=>⟨λh=>hv i h hi,λh=>hd i h hi⟩) (λ_ h=>h),h.ext.touch t (hm _ (.inl rfl)) h1 (hm _ (.inr (.inl rfl))) h2 (hm _ (.inr (.inr rfl))),t.tab h.tab.lt ht h.tab,by obtain⟨wk,hr⟩:=h.row;exact⟨wk,hr.touch t hk⟩⟩
def PI(a b c d:Int):Value:=.agg #[iI a,iI b,iI c,iI d]
theorem V7d(W:World)(blk off:Nat)(p q r s:Value)(h0:W.cell? ⟨blk,off,none⟩=some p)(h1:W.cell? ⟨blk,off+1,none⟩=some q)(h2:W.cell? ⟨blk,off+2,none⟩=some r)(h3:W.cell? ⟨blk,off+3,none⟩=some s):(loadVar 141 ⟨blk,off,none⟩).run prog W=.ok (.agg #[p,q,r,s]) W:=by
 have a1:(isAgg 141).run prog W=.ok true W:=by kernel_rfl
 have a2:(sizeOf 141).run prog W=.ok 4 W:=by kernel_rfl
 simp[loadVar,Sem.run_bind,a1,a2,Result.andThen,loadCells,go_sem,h0,h1,h2,h3]
def VA2(w:World)(SV:Nat->Prop)(z:Sp)(m p1 b1 p2 b2 n:Nat)(v:Vm)(rs:List Int)(room:Int)(e:Ending)(w':World):Prop:=
 ((room<1\/4096<room)/\e=.returned (.tuple #[PI 0 0 0 0,iI 5])/\Gr w w') ∨
 (1<=room/\room<=4096/\AB (λi=>AT m b1 b2 i\/SV i) w w'/\z.I v SV w' ∧
  ((∃L r vi,e=.returned (.tuple #[PI (L.length:Nat) (AC L:Nat) r vi,iI 0])/\Ext w' m p1 b1 p2 b2 n L/\BO v rs n L/\(L=[]->r=1/\vi=0)) ∨
   (e=.returned (.tuple #[PI 0 0 0 0,iI 25])/\Ext w' m p1 b1 p2 b2 n []/\¬DX v rs n)))
section
variable{p1 b1 p2 b2:Nat}
theorem MD(w:World)(o:Obj)(T:Nat)(xs:List Value):Rec ((w.alloc o).alloc (.cells xs.toArray T)) (w.heap.size+1) T xs:=by
 have:=Rec.new (w.alloc o) T xs
 simp_all
theorem JVs(w:World)(o o':Obj)(T:Nat)(xs:List Value):Rec ((w.alloc o).alloc (.cells xs.toArray T)) (w.heap.size+1) T xs/\Rec (((w.alloc (.cells xs.toArray T)).alloc o')) w.heap.size T xs:=by
 have:=Rec.new (w.alloc o) T xs;rw[π]at this;exact⟨this,(Rec.new w T xs).gr ((Gr.refl _).alloc _)⟩
theorem QL(W:World)(b:Nat)(z0 z1 z2 z3:Value):AB (λi=>i=b) W ((((W.setCell ⟨b,0,none⟩ z0).setCell ⟨b,1,none⟩ z1).setCell ⟨b,2,none⟩ z2).setCell ⟨b,3,none⟩ z3):=
 ((((AB.refl (λi=>i=b) W).setCell (a:=⟨b,0,none⟩) (λ_=>rfl) z0).setCell (a:=⟨b,1,none⟩) (λ_=>rfl) z1).setCell (a:=⟨b,2,none⟩) (λ_=>rfl) z2).setCell (a:=⟨b,3,none⟩) (λ_=>rfl) z3
end
section
variable{G:Nat->Prop}
theorem ZQv(hso:DX v rs c.n)(h:BM w SV G SW c v s r vi)(hp:∀a,Rch v rs a->c.z.Rd v a)(hi:CJ v rs c.n c.R X s)(ha:a≠0->Rch v rs a):Calls prog 220 #[pP c.k,iI a] w (FG w SV G SW c v (XLt s v rs c X a r vi) False):=by
 have H:=h;have HI:=hi;by_cases h0:a=0
 ·subst h0;clear h hi ha hp;go_in;go_wp2;refine ζk (ζh rfl _ _ _) rfl ?_;exact FG.ok (AB.refl _ _) (H.up H.bB) ⟨HI,DZ.refl _,λh=>absurd rfl h,rfl,rfl⟩
 ·have hR:=ha h0;have HR:=hR;have d0:(a==0)=false:=by simpa using h0
  have c0:=h.row.cc 0;have c1:=h.row.cc 1;unfold Sp.v at c0;have I:=(LX h.ext h.tab a);unfold G3 at I;have O:=hi.mkd.good;by_cases hs:Hs s.L a
  ·obtain⟨f1,f2⟩:=Jqz O hs;rw[f2,φ f1]at I;have HS:=hs;clear h hi ha hp h0 hR hs O f1 f2;go_in;go_wp2_with(go_at_call 252;refine I.mono ?_;rintro e w1 ⟨rfl,rfl⟩);refine ζk (ζh rfl _ _ _) rfl ?_;exact FG.ok (AB.refl _ _) (H.up H.bB) ⟨HI,DZ.refl _,λ_=>HS,rfl,rfl⟩
  ·have Xk:=(λhf=>Z8n hs hf);have HNS:=hs;obtain⟨st,Xg⟩:=ε (obS s.L (BD s.L a));obtain⟨sz,Xr⟩:=ε (obZ s.L (BD s.L a));obtain⟨fb,Xe⟩:=ε (decide (BD s.L a<s.L.length));rw[<-Xg,<-Xr,<-Xe]at I;rw[<-Xg]at Xk;have Xt:=Xe
   have Yc:fb=false\/(fb=true/\(st==a)=false):=by
    cases hb:fb with
    | false=>exact .inl rfl
    | true=>exact .inr ⟨rfl,by have:=Xk (of_decide_eq_true (Xt.symm.trans hb));simpa using this⟩
   have D:=(λW (g:Gr w W)=>(NZ h.zk.1 (h.zk.1.gr h.vm g) a (hp a hR).1).mono λ_ _ hh=>ξ hh.1 (hh.2.ro h.zk.2));unfold Sp.v at D;have Xz:s.L.length<=1048576:=ω O.len h.ext.nb.2;have Xw:AC s.L<=1048576:=ω (GJ O) h.ext.nb.2;by_cases hE:v.rdE a=0
   ·have HE:=hE;obtain⟨-,-,p,f,k,hh,Ya⟩:=GP hE;have V:=DQ hE;have Xc:=(λW=>LH ⟨p,f,k⟩ W);have ho:v.osz a=CD ⟨p,f,k⟩:=by unfold Vm.osz;rw[hh]
    rw[<-ho]at Xc;rw[hE,hh]at D;unfold AO at D Xc;obtain⟨z,hz⟩:=ε (v.osz a);rw[<-hz]at Xc V;have HZ:=ι hz;have Xi:=ι (λW (g:Gr w W)=>Zc1 (h.ext.gr g) (g.tab h.tab.lt h.tab) a z);unfold XU at Xi;have Z:=h.sep;have HT1:=ι (λ(W W':World) (g:Gr w W) (t:AB (AT c.m c.b1 c.b2) W W') (x:Ext W' c.m c.p1 c.b1 c.p2 c.b2 c.n s.L)=>(⟨MkC.vm h.zk.1 Z (h.zk.1.gr h.vm g) t (λi e=>.inr (.inl e)),x,(h.stk.gr g).touch t (λi hi _ e=>Z.mg i e hi),(h.wk.gr g).touch t (λi hi _ e=>Z.sw i hi (.inr (.inl e))),(h.row.gr g).touch t Z.k1,t.tab (g.tab h.tab.lt h.tab).lt (λe=>Z.tab (.inr (.inl e))) (g.tab h.tab.lt h.tab),Z,ω h.bB (ω g.size t.size),h.zk⟩:BM W' SV G SW c v s r vi));by_cases hA:DL s.L c.n a z=0
    ·have HA:=ι hA;rw[hA]at Xi;have Xj:=ι (VNW (c:=c) (r:=r) (vi:=vi) hA);have Xm:=h.sep.k2;have Xy:=ι Xm;have Xn:=ι (hi.push hR hE (by rw[<-hz];exact hA));rw[<-hz]at Xn;have hz1:1<=z:=V.2.1;have hz2:z<=256:=V.2.2;obtain⟨LN,Xl⟩:=ε (s.L.length:Nat);obtain⟨SN,Xf⟩:=ε (AC s.L:Nat);rw[<-Xl]at Xz Xj;rw[<-Xf]at Xw Xj;have Y:=ι (ξ Xl Xf);clear h hi ha hp h0 hR hs O Xg Xr Xe hE Xk Xt hh Ya ho hz hA Z Xm V Xl Xf;rcases Yc with rfl|⟨rfl,d3⟩
     all_goals
      go_in
      go_wp2_with(first|(go_at_call 252;refine I.mono ?_;rintro e w1 ⟨rfl,rfl⟩)|(go_at_call 95;refine(D _ (Gr.refl _)).mono ?_;rintro e w1 ⟨rfl,Xq⟩;have Xu:=ι (Xq.alloc (.cells #[.int .i64 p,.int .i64 f,.int .i64 k] 34));clear Xq)|(go_at_call 272;(with_reducible refine(YP _ _).mono ?_);rintro e w2 ⟨rfl,rfl⟩)|(go_at_call 81;refine(Xc _).mono ?_;rintro e w3 ⟨rfl,Xh⟩;have Xa:=ι (Xu.o.trans Xh);have kk1:=(H.gr (Xu.o.trans Xh)).row.cell (j:=1) rfl;clear Xh)|(go_at_call 200;refine(Xi.o _ Xa.o).mono ?_;rintro e w4 ⟨rfl,Xb,Xp⟩;have Yd:=ι Xp;have Yb:=ι Xb;have E:=ι (H.gr Xa.o);have Xd:=ι (E.o.row.touch Xb E.o.sep.k1);have y2:=Xd.o.cc 2;have y4:=Xd.o.cc 4;have y5:=Xd.o.cc 5;have yf:=Xd.o.free;have Xv:=ι (E.o.stk.touch Xb (λi hi _ e=>E.o.sep.mg i e hi));rw[<-Y.o.1]at y4;rw[<-Y.o.2]at y5;clear Xb Xp)|(go_at_call 273;refine(Y4L (Xv.o.set2 Xy.o) a).mono ?_;intro e w5 hp;have Xx:(∃b,e=.returned (.bool b)):=by {rcases hp with⟨_,rfl,_⟩|⟨_,rfl,_⟩ <;> exact⟨_,rfl⟩};have HP:=ι hp;obtain⟨pb,rfl⟩:=Xx;clear hp))
      refine ζk (ζh rfl _ _ _) rfl ?_;have Xo:=Xj.o;rw[Y.o.1,Y.o.2]at Xo
      have Xs:∀st' lost',s.push c.R (DC s.L c.n a z) a=⟨DC s.L c.n a z,st',lost'⟩->AB G ((w4.setCell ⟨c.k,4,none⟩ (.int .i64 ((s.L.length:Nat)+1))).setCell ⟨c.k,5,none⟩ (.int .i64 ((AC s.L:Nat)+z))) w5/\CG w5 (plus G ((w4.setCell ⟨c.k,4,none⟩ (.int .i64 ((s.L.length:Nat)+1))).setCell ⟨c.k,5,none⟩ (.int .i64 ((AC s.L:Nat)+z)))) c.g st' c.R lost'->FG w SV G SW c v (XLt s v rs c X a r vi) False (.returned (.tuple #[])) w5:=λst' lost' hpe ⟨U,J⟩=>by
       obtain⟨q1,q2,q3⟩:=Xn.o;rw[hpe]at q1 q2 q3;obtain⟨m5,t5⟩:=E.o.pushed Yb.o Yd.o U J Xo;exact FG.ok ((Xa.o.touch _).trans t5) (m5.sub (λi hi=>hi.imp id (λh'=>ω Xa.o.size h')) (H.sep.plus H.bB)) ⟨q1,q2,λ_=>q3,rfl,rfl⟩
      rcases HP.o with⟨hf,-,U,J⟩|⟨hf,-,U,J⟩
      ·refine Xs s.st true (ψ Ω) ⟨?_,?_⟩
       ·rw[Y.o.1,Y.o.2]at U;exact U
       ·rw[Y.o.1,Y.o.2]at J;exact J
      ·refine Xs (s.st++[a]) s.lost (θ hf) ⟨?_,?_⟩
       ·rw[Y.o.1,Y.o.2]at U;exact U
       ·rw[Y.o.1,Y.o.2]at J;exact J
    ·exact absurd hso (hi.mkd.fail hR hs (by rw[<-hz];exact hA))
   ·exact absurd hso (ZFY hR hE)
theorem VCq(hso:DX v rs c.n)(h:BM w SV G SW c v s r vi)(hp:∀a,Rch v rs a->c.z.Rd v a)(hi:CJ v rs c.n c.R X s)(ha:Hs s.L a):Calls prog 225 #[pP c.k,iI a] w (FG w SV G SW c v (Yr9 s v rs c X a r) False):=by
 have H:=h;have HI:=hi;obtain⟨hR,hE⟩:=hi.mkd.hs ha;obtain⟨-,-,p,f,k,hh,hsm⟩:=GP hE;have HR:=(ξ hR (ξ hE hh));have I:=(hp a hR);have U:=(λW (g:Gr w W)=>(NZ h.zk.1 (h.zk.1.gr h.vm g) a (hp a hR).1).mono λ_ _ hh=>ξ hh.1 (hh.2.ro h.zk.2));have HP:=hp;rw[hE,hh]at U;unfold Sp.v AO at U;have c0:=h.row.cc 0;unfold Sp.v at c0;have HN:=(Rec.new w 34 [iI p,iI f,iI k]);clear h hi ha hp hR hE hh;go_in
 go_wp2_with(first|(go_at_call 95;refine Qa (U _ (Gr.refl _)) λw1 D=>?_;have Xf:=(D.alloc (.cells #[.int .i64 p,.int .i64 f,.int .i64 k] 34));clear D)|(go_at_call 272;(with_reducible refine(YP _ _).mono ?_);rintro e w2 ⟨rfl,rfl⟩))
 go_loopw [24] (λs24 wr=>∃(j:Nat) (s':MkS) (r' vi':Int),j<=p/\Hid (BM wr SV (plus G w) SW c v s' r' vi')/\Hid (AB (c.T G) w wr)/\Hid (CJ v rs c.n c.R X s'/\DZ s s'/\ClN v s'.L a j/\r'=r)/\s24=iI j) (λs24 _=>p-(intOf s24).toNat)
 case atStart=>exact⟨0,s,r,vi,by omega,⟨(H.gr Xf).up H.bB⟩,⟨Xf.touch _⟩,⟨HI,DZ.refl _,λi hi=>by omega,rfl⟩,rfl⟩
 case round=>
  obtain⟨j,s',r',vi',hj,HM,HT,HJ,rfl⟩:=hrel;have k0:=HM.o.row.cc 0;have k7:=HM.o.row.cc 7;have kf:=HM.o.row.free 7;unfold Sp.v at k0;clear c0;by_cases Y:j=p
  ·subst Y;go_wp2;refine ζk (ζh rfl _ _ _) rfl ?_;obtain⟨q1,q2,q3,q4⟩:=HJ.o;exact FG.ok (HT.o.trans (QR 7 _)) (HM.o.set (r':=r') (vi':=wrap64 (vi' + 1)) rfl) ⟨q1,q2,q3.cl (by rw[HR.2.2];exact ψV _),q4⟩
  ·have E:(j:Int)<(p:Int):=Ω
   have J:=((Z2 HM.o.zk.1 HM.o.vm a (j:Int) I.1 (I.2 _)).mono λ_ _ hh=>ξ hh.1 (hh.2.ro HM.o.zk.2));unfold Sp.v at J;have O:Hid (v.ptE a j=0->((v.ptV a j:Nat):Int)≠0->Rch v rs (v.ptV a j:Nat)):=⟨λh1 h2=>HR.1.step ⟨HR.2.1,j,by rw[HR.2.2];exact E,h1,by omega,rfl⟩⟩;have Xb:=(ξ hj Y);clear hj Y;by_cases Z:v.ptE a j=0
   ·have Xe:=Z;rw[Z]at J;obtain⟨x,hx⟩:=ε (v.ptV a j);rw[<-hx]at J O;have Xj:=ι hx;clear Z hx
    go_wp2_with(first|(go_at_call 168;refine Qa J λw2 V=>?_;have Xh:=ι (HM.o.gr V);have Xg:=ι (HT.o.trans (V.touch _));clear V)|(go_at_call 272;(with_reducible refine(YP _ _).mono ?_);rintro e w3 ⟨rfl,rfl⟩)|(go_at_call 220;refine(ZQv hso Xh.o HP HJ.o.1 (O.o Xe)).mono ?_;rintro e w4 ⟨Xc,(⟨rfl,s4,r4,Xl,Xa,Xd⟩|⟨-,⟨⟩,-⟩)⟩;(have Xm:=ι (KU Xg.o Xc);have Xi:=ι (Xa.back Xg.o.size H.sep H.bB);have Xk:=ι Xd;clear Xc Xa Xd)))
    ·go_round
     case rel=>
      obtain⟨q1,q2,q3,q4⟩:=HJ.o;obtain⟨p1,p2,p3,p4,p5⟩:=Xk.o;refine⟨j+1,s4,r4,Xl,by have:=Xb;omega,Xi,Xm,⟨p1,q2.trans p2,(q3.mono p2.sub).succ Xe (λh0=>?_),p4.trans q4⟩,by go_num⟩;rw[<-Xj.o]at h0⊢;exact p3 Ω
     case measure=>have:=Xb;simp[intOf];omega
   ·exact absurd hso (J7J HR.1 (by rw[HR.2.2];exact E) Z)
theorem Ytl(hso:DX v rs c.n)(h:BM w SV G SW c v s r vi)(hp:∀a,Rch v rs a->c.z.Rd v a)(hi:CJ v rs c.n c.R X s):Calls prog 221 #[pP c.k] w (FG w SV G SW c v (VA5 s v rs c X r vi) False):=by
 have H:=h;have HI:=hi;have c2:=h.row.cc 2;have HP:=hp;go_in;go_wp2_with(go_at_call 274;refine(VPs H).mono ?_;rintro e w1 ⟨a0,b0,st0,rfl,Xe,Xc,I⟩;have Xh:=ι Xe;have Xk:=ι (Xc.up (w:=w) H.bB);have U:=I)
 go_loopg [2,3] (2*c.n+s.st.length) (λk s2 s3 wr=>∃(a:Int) (b:Bool) (s':MkS) (r' Z:Int),s2=iI a/\s3=.bool b/\Hid (BM wr SV (plus G w) SW c v s' r' Z)/\Hid (AB (c.T G) w wr)/\Hid (DZ s s'/\(N7 s r vi->N7 s' r' Z)/\DrS v rs c X s' a b k))
 case atStart=>
  refine⟨a0,b0,_,r,vi,rfl,rfl,Xk,Xh,⟨JY8 (DZ.refl _) U,λh=>h,DrS.of HI U Ω⟩⟩
 case round=>
  obtain⟨a,b,s',r',Z,rfl,rfl,HM,HT,HJ⟩:=hrel;have k2:=HM.o.row.cc 2;cases b with
  | false=>
   go_wp2;refine ζk (ζh rfl _ _ _) rfl ?_;obtain⟨q1,q2,q3,-⟩:=HJ.o;rcases q3 with⟨-,h1,h2⟩|⟨h1,-⟩
   ·exact FG.ok HT.o HM.o ⟨h2,q1,h1,q2⟩
   ·cases h1
  | true=>
   have HA:Hid (Hs s'.L a/\CJ v rs c.n c.R (λx=>X x\/x=a) s'/\2*c.n+s'.st.length+1<=2*s'.L.length+gk):=⟨by
    obtain⟨q1,q2,q3,q4⟩:=HJ.o;rcases q3 with⟨h1,-⟩|⟨-,h1,h2⟩
    ·cases h1
    ·exact⟨h1,h2,q4⟩⟩
   go_wp2_with(first|(go_at_call 225;refine(VCq hso HM.o HP HA.o.2.1 HA.o.1).mono ?_;rintro e w4 ⟨J,(⟨rfl,s4,r4,Xf,Y,V⟩|⟨-,⟨⟩,-⟩)⟩;(have Xj:=(KU HT.o J);have D:=(Y.back HT.o.size H.sep H.bB);have Xd:=ι V;have k4:=Y.row.cc 2;clear J Y V))|(go_at_call 274;refine(VPs D).mono ?_;rintro e w5 ⟨a5,b5,st5,rfl,Xb,Xg,E⟩;have Xi:=ι (KU Xj Xb);have Xa:=ι Xg;have O:=E))
   ·have hgk:1<=gk:=by
     have:=HA.o.2.2;have:=HA.o.2.1.mkd.good.len;omega
    go_roundg (gk-1)
    case measure=>omega
    case rel=>
     obtain⟨q1,q2,-⟩:=HJ.o;obtain⟨p1,p2,p3,p4⟩:=Xd.o;have hme:=HA.o.2.2;have Y:=p2.mea;refine⟨a5,b5,_,r4,Xf,rfl,rfl,Xa,Xi,⟨JY8 (q1.trans p2) O,λ_ h0=>absurd h0 (QHb (p2.sub a HA.o.1)),DrS.of (p1.done p3 (λx hx=>hx)) O Ω⟩⟩
theorem XHI(hso:DX v rs c.n)(h:BM w SV G SW c v s0 0 0)(hp:∀a,Rch v rs a->c.z.Rd v a)(hA:GA (c.T G) w A rs)(hlen:rs.length<=maxLen):Calls prog 156 #[pP c.k,.slice A rs.length cp] w (FG w SV G SW c v (PW v rs c) False):=by
 have H:=h;have HA:=hA;have HP:=hp;have c6:=h.row.cc 6;have kf:=h.row.free 6;obtain⟨N,hN⟩:=ε rs.length;rw[<-hN]at hlen⊢;have HN:=ι hN;unfold maxLen at hlen;clear h hA hN hp;go_in;go_wp2;have Ym:Hid (BM (w.setCell ⟨c.k,6,none⟩ (.int .i64 1)) SV (plus G w) SW c v s0 1 0):=⟨(H.set (r':=1) (vi':=0) rfl).up H.bB⟩;have Yi:Hid (AB (c.T G) w (w.setCell ⟨c.k,6,none⟩ (.int .i64 1))):=⟨QR 6 _⟩;obtain⟨w1,Yf⟩:=ε (w.setCell ⟨c.k,6,none⟩ (.int .i64 1));rw[<-Yf]at Ym Yi⊢;clear c6 kf Yf
 go_loopw [14] (λs14 wr=>∃(j:Nat) (s:MkS) (r vi:Int),j<=N/\Hid (BM wr SV (plus G w) SW c v s r vi)/\Hid (AB (c.T G) w wr)/\Hid (VZ v rs c j s r vi)/\s14=iI j) (λs14 _=>N-(intOf s14).toNat)
 case atStart=>exact⟨0,s0,1,0,ζe _,Ym,Yi,⟨⟨Mk.nil _ _ _,(λ_ h=>by cases h),ζe _,(λa ha=>absurd rfl (QHb ha))⟩,rfl,(λx hx=>by cases hx),(λ_=>⟨rfl,rfl⟩),(λh=>by cases h)⟩,rfl⟩
 case round=>
  obtain⟨j,s,r,vi,hj,HM,HT,HJ,rfl⟩:=hrel;by_cases Z:j=N
  ·subst Z;have Yd:Hid (VZ v rs c rs.length s r vi):=⟨by have:=HJ.o;rwa [HN.o]at this⟩;clear HJ hj;go_wp2
   go_loopg [] (c.n+1) (λk wr=>∃(s:MkS) (r vi:Int),Hid (BM wr SV (plus G w) SW c v s r vi)/\Hid (AB (c.T G) w wr)/\Hid (VZ v rs c rs.length s r vi)/\Hid (s.lost=true->c.n+1<=s.L.length+k))
   case atStart=>exact⟨s,r,vi,HM,HT,Yd,⟨λ_=>by omega⟩⟩
   case round=>
    clear HM HT Yd;clear s r vi;obtain⟨wo,rfl⟩:=ε (wr:World);obtain⟨s,r,vi,HM,HT,HJ,HK⟩:=hrel;have k2:=HM.o.row.cc 2;obtain⟨L,st,lost⟩:=s;have Yh:=(XPh HM.o.stk);cases lost with
    | false=>
     go_wp2_with(go_at_call 222;refine Yh.mono ?_;rintro e w2 ⟨rfl,rfl⟩);refine ζk (ζh rfl _ _ _) rfl ?_;obtain⟨q1,q2,q3,q4,q5⟩:=HJ.o;exact FG.ok HT.o HM.o ⟨q1.marks (λ_ h=>h) q2 rfl (λx hx h0=>q3 x (by rw[ζ0];exact hx) h0),q4⟩
    | true=>
     have Yp:st=[]:=HJ.o.2.1;subst Yp;have Xq:=HM.o.cut;obtain⟨G1,Xx⟩:=ε (AD (plus G w) wo);rw[<-Xx]at Xq;have Xt:Hid (∀i,G1 i->plus G w i/\i<wo.heap.size):=⟨λi hi=>by rw[Xx]at hi;exact hi⟩;have Yo:=HJ.o.2.2.2.2 rfl;have Xy:=HJ.o.1.mkd.good;have Yt:L.length<=1048576:=ω Xy.len HM.o.ext.nb.2;obtain⟨LN,Xv⟩:=ε L.length;have V:=ι Xv;rw[<-Xv]at Yt;clear Xx Xy Xv
     go_wp2_with(first|(go_at_call 222;refine Yh.mono ?_;rintro e w2 ⟨rfl,rfl⟩)|(go_at_call 223;refine(Qf8 Xq.stk).mono ?_;rintro e w2 ⟨rfl,Xr,Yg⟩;have Xh:=(BM.popped (L:=L) (st:=[]) (lost:=true) Xq Xr Yg);have k6:=Xh.row.cc 6;have k1:=Xh.row.cc 1;have kf:=Xh.row.free 6;have Yn:=Xr;clear Xr Yg)|(go_at_call 224;have Xg:=(λx:Int=>Xh.set (j:=6) (u:=iI x) (r':=x) (vi':=vi) rfl);refine(Yde (Xg _).ext (Xg _).tab ((Xg _).row.cell (j:=1) rfl)).mono ?_;rintro e w3 ⟨vL,rfl,Xo,Xk⟩;have Xc:=((Xg _).gr Xo);have Ye:=ι Xo;obtain⟨A3,Yb,rfl,Yy,h32⟩:=B9 Xk;have Xp:=ι Xk;rw[<-V.o]at Xp;rw[<-V.o]at Yy;clear Xo Xk))
     have hz2:wo.heap.size<=w2.heap.size:=Yn.size;have hz3:w2.heap.size<=w3.heap.size:=by simpa using Ye.o.size
     have hzw:w.heap.size<=wo.heap.size:=HT.o.size;have hBw:c.B<=w.heap.size:=H.bB
     have Yc:Hid (∀g,(Value.slice A3 LN Yb).ownBlock=some g->¬c.T (plus G1 w3) g):=⟨λg hg ht=>by
      obtain⟨a1,a2⟩:=A9 Xp.o hg;have a1:w2.heap.size<=g:=by simpa using a1
      rcases ht with h1|h1|h1|h1
      ·have:=H.sep.kB;omega
      ·have:=H.sep.mB g h1;omega
      ·have:=(Xt.o g h1).2;omega
      ·omega⟩
     have Ya:Hid (DU c SV G1 SW):=⟨Xc.sep⟩;have Yv:Hid (AB (c.T G1) wo w3):=⟨((Yn.mono (λi _ h=>.inr (.inr h))).trans (QR 6 _)).trans (Ye.o.touch _)⟩;clear k1 k2 k6 kf;rw[<-V.o]
     go_loopw [46] (λs46 wy=>∃(j:Nat) (s':MkS) (r' vi':Int),j<=LN/\Hid (BM wy SV (plus G1 w3) SW c v s' r' vi')/\Hid (AB (c.T G1) w3 wy)/\Hid (wy.ownsRow 0 3 1 (.slice A3 LN Yb) LN (L7 L LN))/\Hid (CJ v rs c.n c.R (L4 L j) s'/\DZ ⟨L,[],false⟩ s'/\s'.st=[])/\s46=iI j) (λs46 _=>LN-(intOf s46).toNat)
     case atStart=>
      exact⟨0,⟨L,[],false⟩,_,vi,ζe _,⟨Xc.up (w:=w3) Xc.bB⟩,⟨AB.refl _ _⟩,⟨JrH Xp.o (ζe _)⟩,⟨HJ.o.1.found,DZ.refl _,rfl⟩,rfl⟩
     case round=>
      obtain⟨j,s',r',vi',hj,Xz,Xj,Xn,Xi,rfl⟩:=hrel;by_cases Z:j=LN
      ·subst Z;go_wp2
       have hgk:1<=gk:=by
        have:=HK.o (by simp);have h2:=HJ.o.1.mkd.good.len;have h2:L.length<=c.n:=h2;have h3:c.n+1<=L.length+gk:=this;omega
       go_roundg (gk-1)
       case measure=>omega
       case rel=>
        obtain⟨q1,q2,q3⟩:=Xi.o;have U:=q2.len;have U:L.length<=s'.L.length:=U;have Ys:AB (c.T (plus G w)) wo wr:=(Yv.o.trans Xj.o).mono (λi _ h=>h.imp id (λh=>h.imp id (λh=>(Xt.o i h).1)));have Yk:s'.L≠[]:=λe=>by have h1:=U;rw[e]at h1;exact Yo (ζy (Nat.le_zero.1 h1))
        refine⟨s',r',vi',⟨Xz.o.sub (λi h=>h.elim (λh=>(Xt.o i h).1) (λh=>.inr Ω)) (H.sep.plus H.bB)⟩,⟨KU HT.o Ys⟩,⟨q1.weak (λa h=>absurd h (by rw[V.o];exact Jdx a)),q3,λx hx h0=>q2.sub _ (HJ.o.2.2.1 x hx h0),λh=>absurd h Yk,λ_=>Yk⟩,⟨λhl=>?_⟩⟩;have h5:=HK.o (by simp);have h5:c.n+1<=L.length+gk:=h5;rcases q2.los hl with h|h
        ·cases h
        ·have h:L.length<s'.L.length:=h;omega
      ·have J:j<L.length:=by have:=V.o;omega
       have Yr:(j:Int)<(LN:Int):=Ω
       obtain⟨g,cc',ea,-,-,-,-⟩:=E6 Xn.o Ω;simp only[Value.slice.injEq]at ea;obtain⟨rfl,-,rfl⟩:=ea;obtain⟨a,ha⟩:=ε ((L[j].1:Nat):Int);have kc:=BU Xn.o (j:=j) (u:=iI a) (by rw[ha];unfold L7 zs;rw[V.o,ζ0];simp[J]);have Yl:Hid (Hs L a/\a=(L[j].1:Nat)):=⟨⟨L[j],χ J,ha.symm⟩,ha⟩;have E:=ι (ξ hj (ξ Z J));clear hj Z ha
       go_wp2_with(first|(go_at_call 225;refine(VCq hso Xz.o HP Xi.o.1 (Xi.o.2.1.sub a Yl.o.1)).mono ?_;rintro e w4 ⟨D,(⟨rfl,s4,r4,Yu,Xb,Xe⟩|⟨-,⟨⟩,-⟩)⟩;(have Yx:=ι (AX Xn.o D Yc.o);have Xf:=ι (KU Xj.o D);have Xl:=ι (Xb.back Xj.o.size Ya.o Xc.bB);have I:=ι Xe;clear D Xb Xe))|(go_at_call 221;refine(Ytl hso Xl.o HP (I.o.1.done I.o.2.2.1 (Y:=L4 L (j+1)) (λx hx=>by rw[Yl.o.2];exact J6E E.o.2.2 hx))).mono ?_;rintro e w5 ⟨O,(⟨rfl,s5,r5,Xu,Xd,Xa⟩|⟨-,⟨⟩,-⟩)⟩;(have Yz:=ι (AX Yx.o O Yc.o);have Xs:=ι (KU Xf.o O);have Xm:=ι (Xd.back Xf.o.size Ya.o Xc.bB);have Xw:=ι Xa;clear O Xd Xa)))
       ·go_round
        case rel=>
         obtain⟨p1,p2,p3,p4⟩:=I.o;obtain⟨t1,t2,t3,t4⟩:=Xw.o;refine⟨j+1,s5,r5,Xu,by have:=E.o;omega,Xm,Xs,Yz,⟨t1,(Xi.o.2.1.trans p2).trans t2,t3⟩,by go_num⟩
        case measure=>have:=E.o;simp[intOf];omega
  ·have Yr:(j:Int)<(N:Int):=Ω
   have J:j<rs.length:=by have:=HN.o;omega
   obtain⟨b,o,rfl,hb,Yj,e0⟩:=HA j J;have i0:=(HT.o.cell hb Yj (o+j)).trans e0;obtain⟨a,ha⟩:=ε (rs[j]);rw[<-ha]at i0 e0;have Yw:Hid (a≠0->Rch v rs a):=⟨λh0=>Rch.root (by rw[ha];exact χ J) h0⟩
   have Yq:Hid (∀x,x∈rs.take (j+1)->x∈rs.take j\/x=a):=⟨λx hx=>by
    rw[ζK J]at hx
    exact(ζs.1 hx).imp id (λh=>by rw[ha];exact ζO.1 h)⟩
   have E:=ι (ξ hj Z);clear hj Z J ha e0 Yj
   go_wp2_with(first|(go_at_call 220;refine(ZQv hso HM.o HP HJ.o.1 Yw.o).mono ?_;rintro e w4 ⟨D,(⟨rfl,s4,r4,Yu,Xb,Xe⟩|⟨-,⟨⟩,-⟩)⟩;(have Xf:=ι (KU HT.o D);have Xl:=ι (Xb.back HT.o.size H.sep H.bB);have I:=ι Xe;clear D Xb Xe))|(go_at_call 221;refine(Ytl hso Xl.o HP I.o.1).mono ?_;rintro e w5 ⟨O,(⟨rfl,s5,r5,Xu,Xd,Xa⟩|⟨-,⟨⟩,-⟩)⟩;(have Xs:=ι (KU Xf.o O);have Xm:=ι (Xd.back Xf.o.size H.sep H.bB);have Xw:=ι Xa;clear O Xd Xa)))
   ·go_round
    case rel=>
     obtain⟨q1,q2,q3,q4,q5⟩:=HJ.o;obtain⟨p1,p2,p3,rfl,rfl⟩:=I.o;obtain⟨t1,t2,t3,t4⟩:=Xw.o;have U:=p2.trans t2;refine⟨j+1,s5,r5,Xu,by have:=E.o;omega,Xm,Xs,⟨t1,t3,λx hx h0=>?_,t4 (λh=>q4 ?_),λhl=>?_⟩,by go_num⟩
     ·rcases Yq.o x hx with h|rfl
      ·exact U.sub _ (q3 x h h0)
      ·exact t2.sub _ (p3 h0)
     ·have:=p2.len;rw[h]at this;exact ζy (by simpa using this)
     ·have h5:=U.len;rcases U.los hl with h|h
      ·exact λe=>q5 h (ζy (by rw[e]at h5;simpa using h5))
      ·intro e;rw[e]at h;simp at h
    case measure=>have:=E.o;simp[intOf];omega
theorem ViA(hso:DX v rs c.n)(hrow:Rec w c.k 234 (YH c.z c.m c.g (.pointer none) [] 0 0))(hp:∀a,Rch v rs a->c.z.Rd v a)(h:BM (w.setCell ⟨c.k,3,none⟩ (.pointer (some ⟨c.wk,0,none⟩))) SV G SW c v s0 0 0)
  (c12:w.cell? ⟨b12,0,none⟩=some (pP c.k)) (c5:w.cell? ⟨b5,0,none⟩=some (.slice A rs.length cp)) (n12:b12≠c.k) (n5:b5≠c.k) (hA:GA (c.T G) w A rs) (hlen:rs.length<=maxLen):Calls prog 155 #[pP c.wk,pP b12,pP b5] w (FG w SV G SW c v (PW v rs c) False):=by
 have k3:=hrow.cc 3;have kf:=hrow.free 3;have V:(w.setCell ⟨c.k,3,none⟩ (.pointer (some ⟨c.wk,0,none⟩))).heap.size=w.heap.size:=World.size_setCell ..;have U:=hA.touch (QR (w:=w) (c:=c) (G:=G) 3 (pP c.wk)) (λ_ _ h=>h);have Y:=(XHI hso (cp:=cp) h hp U hlen)
 have J:Hid (∀e w',FG (w.setCell ⟨c.k,3,none⟩ (.pointer (some ⟨c.wk,0,none⟩))) SV G SW c v (PW v rs c) False e w'->FG w SV G SW c v (PW v rs c) False e w'):=⟨λe w' he=>by
  obtain⟨ht,he⟩:=he;unfold plus at he;rw[V]at he
  exact⟨(QR 3 _).trans ht,he⟩⟩
 have tk:=(AB.refl (λi=>i=c.k) w).setCell (a:=⟨c.k,3,none⟩) (λ_=>rfl) (pP c.wk);have x5:=(tk.cell (A6 c5) n5 0).trans c5;have x12:=(tk.cell (A6 c12) n12 0).trans c12;go_in;go_wp2_with(go_at_call 156;refine Y.mono ?_;intro e w1 he;have he:=J.o _ _ he;rcases he with⟨Z,(⟨rfl,h1⟩|⟨-,⟨⟩,-⟩)⟩)
 ·refine ζk (ζh rfl _ _ _) rfl ?_;exact⟨Z,.inl ⟨rfl,h1⟩⟩
end
def Vck(w:World)(SV SG:Nat->Prop)(z:Sp)(k m p1 b1 p2 b2 n g:Nat)(v:Vm)(rs:List Int)(e:Ending)(w':World):Prop:=
 AB (λi=>i=k\/AT m b1 b2 i\/SG i\/SV i) w w'/\∃L r vi,e=.returned (.agg #[iI 0,iI 0])/\OF w' SV z k m p1 b1 p2 b2 n g v L r vi/\BO v rs n L/\(L=[]->r=1/\vi=0)
theorem Xe3{SG:Nat->Prop}{p1 b1 p2 b2:Nat}(hz:z.Ok/\¬z.M)(hso:DX v rs n)(hp:∀a,Rch v rs a->z.Rd v a)(hD:∀i,z.D i->i<w.heap.size/\¬(i=k\/AT m b1 b2 i\/SG i))(hV:z.I v SV w)(hE:Ext w m p1 b1 p2 b2 n [])(hS:CG w SG g [] R false)(hR:Rec w k 234 (YH z m g (.pointer none) [] 0 0))(hT:AQ w)
  (c12:w.cell? ⟨b12,0,none⟩=some (pP k)) (c5:w.cell? ⟨b5,0,none⟩=some (.slice A rs.length cp)) (n12:b12≠k) (n5:b5≠k) (hA:GA (λi=>i=k\/AT m b1 b2 i\/SG i) w A rs) (hlen:rs.length<=maxLen)
  (hSV:∀i,SV i->i<w.heap.size/\¬(i=k\/AT m b1 b2 i\/SG i)) (hSG:∀i,SG i->i<w.heap.size) (hp1:¬(p1=k\/AT m b1 b2 p1\/SG p1)) (hp2:¬(p2=k\/AT m b1 b2 p2\/SG p2)) (htb:¬(1=k\/AT m b1 b2 1\/SG 1))
  (hkm:¬AT m b1 b2 k) (hkg:¬SG k) (hmg:∀i,AT m b1 b2 i->¬SG i):Calls prog 154 #[z.v,.func (.func 155) #[] #[pP b12,pP b5]] w (Vck w SV SG z k m p1 b1 p2 b2 n g v rs):=by
 have Xj:(AP w z.v).heap.size=w.heap.size+2:=by unfold AP;rw[π,π]
 obtain⟨W0,Y⟩:=ε (FO (AP w z.v) (w.heap.size+1));have E:W0.heap.size=w.heap.size+5:=by rw[Y];unfold FO;rw[π,π,π,Xj]
 have g1:Gr w (AP w z.v):=((Gr.refl w).alloc _).alloc _;have g2:Gr (AP w z.v) W0:=by rw[Y];exact(((Gr.refl _).alloc _).alloc _).alloc _
 have g0:Gr w W0:=g1.trans g2;have Xh:=hR.lt
 have V:∀i,AT m b1 b2 i->i<w.heap.size:=λi hi=>by
  rcases hi with rfl|rfl|rfl
  ·exact hE.hm
  ·exact hE.v1.hb
  ·exact hE.v2.hb
 have hp1l:p1<w.heap.size:=hE.v1.hp;have hp2l:p2<w.heap.size:=hE.v2.hp;have htl:=hT.lt;obtain⟨c,hc⟩:=ε (⟨k,z,m,p1,b1,p2,b2,n,g,R,w.heap.size+1,w.heap.size+5⟩:MkC)
 have Xg:∀i,c.T SG i->i<w.heap.size:=λi hi=>by
  rw[hc]at hi;rcases hi with rfl|hi|hi
  ·exact Xh
  ·exact V i hi
  ·exact hSG i hi
 have J:DU c SV SG (λi=>i=w.heap.size+1):=by
  have U:=Xg;rw[hc]at U⊢;exact⟨λi hi=>⟨by have:=(hSV i hi).1;show i<w.heap.size+5;omega,(hSV i hi).2⟩,λi hi=>⟨by show i<w.heap.size+5;omega,λh=>by have:=U i h;omega⟩,⟨by show _<w.heap.size+5;omega,htb⟩,⟨by show p1<w.heap.size+5;omega,hp1⟩,⟨by show p2<w.heap.size+5;omega,hp2⟩,hkm,hkg,by show k<w.heap.size+5;omega,hmg,λi hi=>by have:=V i hi;show i<w.heap.size+5;omega,λi hi=>⟨by have:=(hD i hi).1;show i<w.heap.size+5;omega,(hD i hi).2⟩⟩
 have Xi:BM (W0.setCell ⟨c.k,3,none⟩ (.pointer (some ⟨c.wk,0,none⟩))) SV SG (λi=>i=w.heap.size+1) c v s0 0 0:=by
  have tk:AB (λi=>i=c.k) W0 (W0.setCell ⟨c.k,3,none⟩ (.pointer (some ⟨c.wk,0,none⟩))):=(AB.refl (λi=>i=c.k) _).setCell (a:=⟨c.k,3,none⟩) (λ_=>rfl) _;have hw:=(S8 w z.v).gr g2;rw[hc]at tk J⊢;refine⟨hz.1.fr (hz.1.gr hV g0) tk (λi _ e=>⟨λh=>(hSV i h).2 (.inl e),λh=>(hD i h).2 (.inl e)⟩) (λ_ h=>h),(hE.gr g0).touch tk (λe=>hkm (.inl e.symm)) (λe=>hp1 (.inl e)) (λe=>hkm (.inr (.inl e.symm))) (λe=>hp2 (.inl e)) (λe=>hkm (.inr (.inr e.symm))),(hS.gr g0).touch tk (λi hi _ e=>hkg (by subst e;exact hi)),hw.touch tk (λi hi _ e=>by have e:i=k:=e;omega),(hR.gr g0).set 3 (pP (w.heap.size+1)),tk.tab (g0.tab hT.lt hT).lt (λe=>htb (.inl e)) (g0.tab hT.lt hT),J,?_,hz⟩
  show w.heap.size+5<=_
  rw[World.size_setCell,E];exact μ _
 have O:=ViA (by rw[hc];exact hso) (w:=W0) (b12:=b12) (b5:=b5) (cp:=cp) (A:=A) (rs:=rs) (by rw[hc];exact hR.gr g0) (by rw[hc];exact hp) Xi (by rw[hc];exact(g0.cell (A6 c12) 0).trans c12) ((g0.cell (A6 c5) 0).trans c5) (by rw[hc];exact n12) (by rw[hc];exact n5)
  (by rw[hc];exact hA.gr g0) hlen
 have Z:Calls prog 155 (#[pP (w.heap.size+1)]++#[pP b12,pP b5]) W0
   (Q8 (c.T SG) W0 (λw1=>∃s r vi,BM w1 SV (plus SG W0) (λi=>i=w.heap.size+1) c v s r vi/\PW v rs c s r vi)):=by
  have hb:=O;rw[show c.wk=w.heap.size+1 by rw[hc]]at hb;refine hb.mono ?_;rintro e w1 ⟨ht,(⟨rfl,s,r,vi,hm,hp⟩|⟨-,⟨⟩,-⟩)⟩;exact⟨ht,rfl,s,r,vi,hm,hp⟩
 have Xa:=ZR (w:=w) (sp:=z.v) (F:=155) (caps:=#[pP b12,pP b5]) ⟨_,_,rfl⟩ VUu (by rw[<-Y];exact Z) (λi h1 h2 _ h=>by have:=Xg i h;omega);refine Xa.mono ?_;rintro e w' ⟨w1,Xb,⟨s,r,vi,hm,Xd,Xc⟩,rfl,Xf⟩;rw[<-Y]at Xb;subst hc;have T1:AB (λi=>i=k\/AT m b1 b2 i\/SG i\/SV i) w w1:=(g0.touch _).trans' Xb (λi hi h=>h.imp id (λh=>h.imp id .inl))
 have Xe:∀(W1 W2:World) (L:List Ob) (r vi:Int),OF W1 SV z k m p1 b1 p2 b2 n g v L r vi->AB (λi=>w.heap.size<=i) W1 W2->OF W2 SV z k m p1 b1 p2 b2 n g v L r vi:=λW1 W2 L r vi h t=>
  h.touch t (λi hi h=>by have:=(hSV i hi).1;omega) (λi hi h=>by have:=V i hi;omega) Ω Ω Ω Ω (λi hi h=>by have:=(hD i hi).1;omega)
 exact⟨T1.trans' Xf (λi hi h=>by omega),s.L,r,vi,rfl,Xe _ _ _ _ _ ⟨hz.1,hm.vm,hm.ext,hm.tab,_,hm.row⟩ Xf,Xd,Xc⟩
def UH(w:World)(SV:Nat->Prop)(z:Sp)(m p1 b1 p2 b2 n:Nat)(v:Vm)(rs:List Int)(e:Ending)(w':World):Prop:=
 AB (λi=>AT m b1 b2 i\/SV i) w w'/\z.I v SV w'/\∃L r vi,e=.returned (.tuple #[PI (L.length:Nat) (AC L:Nat) r vi,iI 0])/\Ext w' m p1 b1 p2 b2 n L/\BO v rs n L/\(L=[]->r=1/\vi=0)
section
variable{p1 b1 p2 b2:Nat}
theorem VVP(hso:DX v rs n)(hz:z.Ok/\¬z.M)(hp:∀a,Rch v rs a->z.Rd v a)(hD:∀i,z.D i->i<w.heap.size/\¬AT m b1 b2 i)(hV:z.I v SV w)(hE:Ext w m p1 b1 p2 b2 n L0)(hT:AQ w)(hA:GA (AT m b1 b2) w A rs)(hlen:rs.length<=maxLen)
  (hvm:∀i,SV i->¬AT m b1 b2 i) (hv1:¬SV p1) (hv2:¬SV p2) (hvt:¬SV 1) (htm:¬AT m b1 b2 1)  (HRM:1<=room/\room<=4096):Calls prog 72 #[z.v,.slice A rs.length cp,pP m,iI room] w (UH w SV z m p1 b1 p2 b2 n v rs):=by
 have HE:=hE;have HV:=(hz.1.ct hV);have HZ:=hz;have HP:=hp;have HD:=hD;have HT:=hT;have HA:=hA;have hn1:=hE.nb.1;have dn:((n:Int)==0)=false:=by simp;omega
 have Xy:∀i,AT m b1 b2 i->i<w.heap.size:=λi hi=>by
  rcases hi with rfl|rfl|rfl
  ·exact hE.hm
  ·exact hE.v1.hb
  ·exact hE.v2.hb
 have Xi:p1<w.heap.size:=hE.v1.hp;have Xj:p2<w.heap.size:=hE.v2.hp;have Yl:=hT.lt
 have E:¬AT m b1 b2 p1:=λh=>by
  rcases h with h|h|h
  ·exact hE.am.1 h.symm
  ·exact hE.v1.ne h
  ·exact hE.ab.1 h
 have Xa:¬AT m b1 b2 p2:=λh=>by
  rcases h with h|h|h
  ·exact hE.am.2.2.1 h.symm
  ·exact hE.ab.2.1 h
  ·exact hE.v2.ne h
 have Xe:=Xy;obtain⟨N,hN⟩:=ε rs.length;have HN:=ι hN;rw[<-hN]at hlen⊢;have h5:=(JVs w (.cells #[.slice A N cp] 42) (.cells #[.int .i64 0,.int .i64 0,.int .i64 0,.int .i64 0] 141) 42 [.slice A N cp]).2;have h8:=(JVs w (.cells #[.slice A N cp] 42) (.cells #[] 42) 141 [iI 0,iI 0,iI 0,iI 0]).1;have Xs:=h5;have Yg:=h8;have Xf:Gr w ((w.alloc (.cells #[.slice A N cp] 42)).alloc (.cells #[.int .i64 0,.int .i64 0,.int .i64 0,.int .i64 0] 141)):=((Gr.refl w).alloc _).alloc _;have Xr:((w.alloc (.cells #[.slice A N cp] 42)).alloc (.cells #[.int .i64 0,.int .i64 0,.int .i64 0,.int .i64 0] 141)).heap.size=w.heap.size+2:=by rw[π,π]
 obtain⟨wa,Xb⟩:=ε ((w.alloc (.cells #[.slice A N cp] 42)).alloc (.cells #[.int .i64 0,.int .i64 0,.int .i64 0,.int .i64 0] 141));rw[show (w.alloc (.cells ([.slice A N cp]:List Value).toArray 42)).alloc (.cells #[.int .i64 0,.int .i64 0,.int .i64 0,.int .i64 0] 141)=wa from Xb.symm]at Xs;rw[show (w.alloc (.cells #[.slice A N cp] 42)).alloc (.cells ([.int .i64 0,.int .i64 0,.int .i64 0,.int .i64 0]:List Value).toArray 141)=wa from Xb.symm]at Yg;rw[<-Xb]at Xf Xr;have Yu:=Xf;have Yo:=ι Xb;have Ya:=(HE.gr Xf);have Xn:Hid (∀i,AD SV w i->i<w.heap.size/\¬AT m b1 b2 i):=⟨λi hi=>⟨hi.2,hvm i hi.1⟩⟩;have Xw:=(ξ hv1 (ξ hv2 (ξ hvt (ξ htm (ξ E Xa)))));clear hV hz hp hD hE hT hA h5 h8 Xb Xf hvm hv1 hv2 hvt htm E Xa Xy hN
 have Yn:Hid (∀W,Calls prog 152 #[iI room] W λe w'=>e=.returned (.tuple #[pP W.heap.size,iI 0])/\Gr W w'/\CG w' (λk=>W.heap.size<=k) W.heap.size [] room.toNat false):=⟨λW=>(VgV room W).mono λe w' h=>by
  rcases h with⟨h1,-⟩|⟨-,-,h1,h2,h3⟩
  ·omega
  ·exact⟨h1,h2,h3⟩⟩
 unfold Sp.v;go_in;go_upto_region 1 with(fail);rw[<-Yo.o];obtain⟨gs,Yc⟩:=ε wa.heap.size;have Yk:=Yc
 go_upto_region 8 with(first|(go_at_call 151;refine(F7 Ya).mono ?_;rintro e w1 ⟨rfl,rfl⟩)|(go_at_call 152;refine(Yn.o _).mono ?_;rintro e ws ⟨rfl,Xt,Xu⟩;have Z:=Xt;have Xm:=Xu.cut)|(go_at_call 153;refine(Zca (Ya.gr Z)).mono ?_;rintro e w3 ⟨rfl,Yt,Yh⟩;have Xc:=Yt;have Yj:=Yh))
 have Xo:Hid (CG ws (AD (λk=>w.heap.size+2<=k) ws) (w.heap.size+2) [] room.toNat false):=⟨by have:=Xm;rw[Xr]at this;exact this⟩;have Ys:=Z.size;have hz3:=Xc.size;have Yr:w.heap.size+2<=w3.heap.size:=Ω
 have U:∀i,AT m b1 b2 i->i<w.heap.size:=Xe;obtain⟨hv1,hv2,hvt,htm,E,Xa⟩:=Xw;have g2:Gr w3 ((w3.alloc (.cells #[.iface z.T z.rv,.pointer (some ⟨m,0,none⟩),.pointer (some ⟨w.heap.size+2,0,none⟩),.pointer none,.int .i64 0,.int .i64 0,.int .i64 0,.int .i64 0] 234)).alloc (.cells #[.pointer (some ⟨w3.heap.size,0,none⟩)] 231)):=((Gr.refl w3).alloc _).alloc _;have Xd:((w3.alloc (.cells #[.iface z.T z.rv,.pointer (some ⟨m,0,none⟩),.pointer (some ⟨w.heap.size+2,0,none⟩),.pointer none,.int .i64 0,.int .i64 0,.int .i64 0,.int .i64 0] 234)).alloc (.cells #[.pointer (some ⟨w3.heap.size,0,none⟩)] 231)).heap.size=w3.heap.size+2:=by rw[π,π]
 have Xg:=MD w3 (.cells #[.iface z.T z.rv,.pointer (some ⟨m,0,none⟩),.pointer (some ⟨w.heap.size+2,0,none⟩),.pointer none,.int .i64 0,.int .i64 0,.int .i64 0,.int .i64 0] 234) 231 [pP w3.heap.size];have rk:=(Rec.new w3 234 [.iface z.T z.rv,pP m,pP (w.heap.size+2),.pointer none,iI 0,iI 0,iI 0,iI 0]).gr ((Gr.refl _).alloc (.cells #[.pointer (some ⟨w3.heap.size,0,none⟩)] 231));obtain⟨W,hW⟩:=ε ((w3.alloc (.cells #[.iface z.T z.rv,.pointer (some ⟨m,0,none⟩),.pointer (some ⟨w.heap.size+2,0,none⟩),.pointer none,.int .i64 0,.int .i64 0,.int .i64 0,.int .i64 0] 234)).alloc (.cells #[.pointer (some ⟨w3.heap.size,0,none⟩)] 231));rw[<-hW]at g2 Xd⊢;rw[show (w3.alloc (.cells #[.iface z.T z.rv,.pointer (some ⟨m,0,none⟩),.pointer (some ⟨w.heap.size+2,0,none⟩),.pointer none,.int .i64 0,.int .i64 0,.int .i64 0,.int .i64 0] 234)).alloc (.cells ([.pointer (some ⟨w3.heap.size,0,none⟩)]:List Value).toArray 231)=W from hW.symm]at Xg;rw[show (w3.alloc (.cells ([.iface z.T z.rv,.pointer (some ⟨m,0,none⟩),.pointer (some ⟨w.heap.size+2,0,none⟩),.pointer none,.int .i64 0,.int .i64 0,.int .i64 0,.int .i64 0]:List Value).toArray 234)).alloc (.cells #[.pointer (some ⟨w3.heap.size,0,none⟩)] 231)=W from hW.symm]at rk;have tW:AB (AT m b1 b2) w W:=((Yu.trans Z).touch _ |>.trans Xc).trans (g2.touch _)
 have Y:∀i,i<w.heap.size->¬AT m b1 b2 i->¬(i=w3.heap.size\/AT m b1 b2 i\/AD (λk=>w.heap.size+2<=k) ws i):=λi hi hn h=>by
  rcases h with h|h|h
  ·omega
  ·exact hn h
  ·have:=h.1;omega
 have O:=Xe3 (w:=W) (SV:=AD SV w) (SG:=AD (λk=>w.heap.size+2<=k) ws) (z:=z) (k:=w3.heap.size) (m:=m) (g:=w.heap.size+2) (R:=room.toNat) (b12:=w3.heap.size+1) (b5:=w.heap.size) (cp:=cp) (v:=v) (rs:=rs) (A:=A)
  HZ hso HP (λi hi=>⟨by have:=(HD i hi).1;omega,Y i (HD i hi).1 (HD i hi).2⟩) (HZ.1.fr HV tW (λi _ h=>⟨λhi=>(Xn.o i hi).2 h,λhi=>(HD i hi).2 h⟩) (λ_ h=>h)) (Yj.gr g2) ((Xo.o.touch Xc (λi hi _ h=>by have:=U i h;have:=hi.1;omega)).gr g2) rk (tW.tab HT.lt htm HT)
  (Xg.cc 0) (by rw[<-HN.o];exact(((Xs.gr Z).touch Xc (λh=>by have:=U _ h;omega)).gr g2).cell (j:=0) rfl) Ω Ω
  ((HA.mono (T':=λi=>i=w3.heap.size\/AT m b1 b2 i\/AD (λk=>w.heap.size+2<=k) ws i) (λb hb h=>by
   rcases h with h|h|h
   ·omega
   ·exact h
   ·have:=h.1;omega)).touch tW (λ_ _ h=>.inr (.inl h))) (by rw[<-HN.o];exact hlen)
  (λi hi=>⟨by have:=hi.2;omega,λh=>by
   rcases h with h|h|h
   ·have:=hi.2;omega
   ·exact(Xn.o i hi).2 h
   ·have:=hi.2;have:=h.1;omega⟩) (λi hi=>by have:=hi.2;omega) (Y _ Xi E) (Y _ Xj Xa) (Y _ Yl htm) (λh=>by have:=U _ h;omega) (λh=>by have:=h.2;omega) (λi hi h=>by have:=U i hi;have:=h.1;omega)
 have Xk:=O;have Yi:=tW;have Yb:=Xg;have Ye:=(((Yg.gr Z).touch Xc (λh=>by have:=U _ h;omega)).gr g2);have Xq:=(ξ Yr (ξ Xd Ys))
 have Xz:Hid (∀i,w.heap.size<=i->i<w.heap.size+2\/i=w3.heap.size+1->¬(i=w3.heap.size\/AT m b1 b2 i\/AD (λk=>w.heap.size+2<=k) ws i\/AD SV w i)):=⟨λi h1 h2 h=>by
  rcases h with h|h|h|h
  ·omega
  ·have:=U i h;omega
  ·have:=h.1;have:=h.2;omega
  ·have:=h.2;omega⟩
 unfold Sp.v at Xk;clear O tW Xg rk hW g2 Y Xd U E Xa hv1 hv2 hvt htm Yc Yk;have hcf:=VUu;have hmf:∀(fn:Fn) (first cap:Array Value) (w:World),(Instr.makeFunc fn first cap).run prog w=.ok (.func fn first cap) w:=λ_ _ _ _=>rfl
 go_wp2_with(first|(go_at_call 154;refine Xk.mono ?_;rintro e w5 ⟨Xl,L,r,vi,rfl,Xp,Yp,Xv⟩;(have Yq:=Xl;have Yd:=Xp;have Yf:=Yb.touch Xl (Xz.o _ (by have:=Xq.1;omega) (.inr rfl));have R8:=Ye.touch Xl (Xz.o _ Ω (.inl Ω));have x12:=Yf.cc 0;have l12:=Yf.lt;have l8:=R8.lt;have e0:=R8.cc 0;have e1:=R8.cc 1;have e2:=R8.cc 2;have e3:=R8.cc 3;have ef:=R8.free;obtain⟨wk,J⟩:=Xp.row;have k4:=J.cc 4;have k5:=J.cc 5;have k6:=J.cc 6;have k7:=J.cc 7;have lk:=J.lt;have Xx:=R8)))
 ·have Xh:=λW=>(Gr.refl W).alloc (.cells #[.int .i64 0,.int .i64 0] 236);have R:=(((((Xx).set 0 (iI (L.length:Nat))).set 1 (iI (AC L:Nat))).set 2 (iI r)).set 3 (iI vi)).gr (Xh _);have hl:=V7d _ _ 0 _ _ _ _ (R.cc 0) (R.cc 1) (R.cc 2) (R.cc 3);have tf:=QL w5 (w.heap.size+1) (iI (L.length:Nat)) (iI (AC L:Nat)) (iI r) (iI vi)
  have hT:AB (λi=>AT m b1 b2 i\/SV i) w w5:=(Yi.mono (λi _ h=>.inl h)).trans' Yq (λi hi h=>by
   rcases h with h|h|h|h
   ·have:=Xq.1;omega
   ·exact .inl h
   ·have:=h.1;omega
   ·exact .inr h.1)
  have Ym:=(hT.trans' tf (λi hi h=>by omega)).trans ((Xh _).touch _);refine ζH (v:=.tuple #[.agg #[iI (L.length:Nat),iI (AC L:Nat),iI r,iI vi],iI 0]) ?_ rfl ⟨Ym,?_,L,r,vi,rfl,?_,Yp,Xv⟩
  ·rw[results_cell_tmp rfl];simp[asAddr,Result.andThen,hl]
  ·exact HZ.1.mono (HZ.1.gr (HZ.1.fr Yd.vm tf (λi _ h=>⟨λhi=>by have:=hi.2;omega,λhi=>by have:=(HD i hi).1;omega⟩) (λ_ h=>h)) (Xh _)) (λi hi=>hi.1)
  ·have V:∀i,i<w.heap.size->i≠w.heap.size+1:=λi h=>by omega
   exact(Yd.ext.touch tf (V _ (Xe _ (.inl rfl))) (V _ Xi) (V _ (Xe _ (.inr (.inl rfl)))) (V _ Xj) (V _ (Xe _ (.inr (.inr rfl))))).gr (Xh _)
theorem UH.G{e:Ending}(h:UH w SV z m p1 b1 p2 b2 n v rs e w')(hr:1<=room/\room<=4096):VA2 w SV z m p1 b1 p2 b2 n v rs room e w':=.inr ⟨hr.1,hr.2,h.1,h.2.1,.inl h.2.2⟩
theorem WO(hso:DX v rs n)(hV:AE w SV q v)(hE:Ext w m p1 b1 p2 b2 n L0)(hT:AQ w)(hA:GA (AT m b1 b2) w A rs)(hlen:rs.length<=maxLen)
  (hvm:∀i,SV i->¬AT m b1 b2 i) (hv1:¬SV p1) (hv2:¬SV p2) (hvt:¬SV 1) (htm:¬AT m b1 b2 1)  (hr:1<=room/\room<=4096):Calls prog 72 #[spV q,.slice A rs.length cp,pP m,iI room] w (UH w SV (spM q) m p1 b1 p2 b2 n v rs):=
 VVP (z:=spM q) hso ⟨UA q,λh=>h⟩ (λ_ _=>⟨λ_=>trivial,λ_ _=>trivial⟩) (λ_ h=>h.elim) hV hE hT hA hlen hvm hv1 hv2 hvt htm hr
end
section
attribute [local go_sem] Oper.semAt_some
structure RL(v:Vm)(rs:List Int)(c:Cf):Prop where
 cf:IY v.pl.pg v.n c
 sd:DX v rs v.n
 inn:∀L,BO v rs v.n L->(∀o∈L,c.fr<=o.1/\o.1+o.2<=c.tp)/\c.to+AC L<=c.lm
def V1i(w:World)(S:Nat->Prop)(q:Nat)(v:Vm)(rs:List Int)(e:Ending)(w':World):Prop:=
 ∃L,BO v rs v.n L/\e=.returned (.tuple #[iI (AC L:Nat),iI 0])/\AB S w w'/\AE w' (AD S w) q v
structure JXY(w wx:World)(S:Nat->Prop)(q m p1 b1 p2 b2 b11:Nat)(v:Vm)(rs:List Int)(c:Cf)(L:List Ob)(r vi:Int):Prop where
 t:AB S w wx
 vm:AE wx (AD S w) q v
 ex:Ext wx m p1 b1 p2 b2 v.n L
 mks:BO v rs v.n L
 st:Rec wx b11 141 [iI (L.length:Nat),iI (AC L:Nat),iI r,iI vi]
 bx:Rec wx w.heap.size 113 [iI c.fr,iI c.tp,iI c.to,iI c.lm,iI c.bk,iI c.st,iI c.ah]
 r6:Rec wx (w.heap.size+1) 3 [iI 0]
 r7:Rec wx (w.heap.size+2) 30 [iI 0]
 lm:w.heap.size+3<=m
 l1:w.heap.size+3<=p1
 l2:w.heap.size+3<=b1
 l3:w.heap.size+3<=p2
 l4:w.heap.size+3<=b2
 l5:w.heap.size+3<=b11
section
variable{r:Nat}{c:Cf}
theorem Qwc(hV:AE w S q v)(hR:A7 w r g rs)(hT:AQ w)(htS:¬S 1)(hc:RL v rs c):Calls prog 124 #[pP q,pP r,cfV c] w (V1i w S q v rs):=by
 have HV:=hV.cut;have HR:=hR;have HT:=hT;have Zu:=htS;have HC:=hc;have Jo:=hT.lt;have Xs:=hc.cf;have Jb:1<=v.n:=by have:=Xs.fr;have:=Xs.tp;have:=Xs.tn;have:=hV.ok.page.1;omega
 have hn2:=hV.ok.n2;have Ja:rs.length≠0:=λe=>hR.ne (ζy e);have Ji:=hR.le;have HX:=(λW=>P7 v.n Jb Ω W);have Zz:=(ξ Xs.st.1 Xs.st.2);obtain⟨n,Yf⟩:=ε rs.length;have HN:=ι Yf;rw[<-Yf]at Ja Ji;have d0:((n:Int)==0)=false:=by simp;omega
 have g1:Gr w (((w.alloc (.cells #[.int .i64 c.fr,.int .i64 c.tp,.int .i64 c.to,.int .i64 c.lm,.int .i64 c.bk,.int .i64 c.st,.int .i64 c.ah] 113)).alloc (.cells #[.int .i64 0] 3)).alloc (.cells #[.int .i64 0] 30)):=(((Gr.refl w).alloc _).alloc _).alloc _;have Zy:=g1;clear hV hR hT htS hc Xs Yf g1;refine(γ (n:=5)).1 ?_;refine callsIn_of_wp_marks func124 rfl trivial ?_ rfl;simp only[ntmps124,ζ3,ζD,ξf,Nat.reduceAdd,Nat.reduceSub,ζR,ζQ,ζ9,ζZ,ζ4,ζv];unfold cfV;gi_upto_region 1 with(fail);obtain⟨W0,Xl⟩:=ε (((w.alloc (.cells #[.int .i64 c.fr,.int .i64 c.tp,.int .i64 c.to,.int .i64 c.lm,.int .i64 c.bk,.int .i64 c.st,.int .i64 c.ah] 113)).alloc (.cells #[.int .i64 0] 3)).alloc (.cells #[.int .i64 0] 30));have Zr:W0.heap.size=w.heap.size+3:=by rw[Xl];simp only[π]
 have Zj:Gr w W0:=by rw[Xl];exact Zy
 have rb:Rec W0 w.heap.size 113 [iI c.fr,iI c.tp,iI c.to,iI c.lm,iI c.bk,iI c.st,iI c.ah]:=by rw[Xl];exact(Rec.new w _ [iI c.fr,iI c.tp,iI c.to,iI c.lm,iI c.bk,iI c.st,iI c.ah]).gr (((Gr.refl _).alloc _).alloc _)
 have r6:Rec W0 (w.heap.size+1) 3 [iI 0]:=by rw[Xl];exact(MD w _ 3 [iI 0]).gr ((Gr.refl _).alloc _)
 have r7:Rec W0 (w.heap.size+2) 30 [iI 0]:=by
  rw[Xl];have:=MD (w.alloc (.cells #[.int .i64 c.fr,.int .i64 c.tp,.int .i64 c.to,.int .i64 c.lm,.int .i64 c.bk,.int .i64 c.st,.int .i64 c.ah] 113)) (.cells #[.int .i64 0] 3) 30 [iI 0];rw[π]at this;exact this
 rw[<-Xl];clear Xl Zy;have Xc:=Zj;have Zi:=rb;have Jd:=r6;have Jh:=r7;obtain⟨z0,z1,z2,z3,z4,z5,z6,zl⟩:=rb.k7;have Yv:=(λ(W:World) (g:Gr w W)=>Y9 (HR.gr g));rw[<-HN.o]at Yv;have Zh:=(λ(W:World) (g:Gr w W)=>QzK (HV.gr g) HC.cf);unfold cfV at Zh;have Jj:=(λ(W:World) (g:Gr w W)=>J0 (HV.gr g));clear rb r6 r7 Zj
 gi_upto_region 7 with(first|(refine⟨trivial,?_⟩;gi_at_call 183;refine(γ.2 (Yv _ Xc)).mono ?_;rintro e w1 ⟨rfl,rfl⟩)|(refine⟨trivial,?_⟩;gi_at_call 184;refine(γ.2 (Zh _ Xc)).mono ?_;rintro e w1 ⟨rfl,U⟩;have Xm:=U;clear U)|(refine⟨trivial,?_⟩;gi_at_call 71;refine(γ.2 (Jj _ (Xc.trans Xm))).mono ?_;rintro e w2 ⟨rfl,rfl⟩)|(refine⟨trivial,?_⟩;gi_at_call 70;refine(γ.2 (HX _)).mono ?_;rintro e w3 ⟨m,p1,b1,p2,b2,rfl,Zl,Zn,Xj,Xw,Xk,Xt,Xq⟩;have I:=(Xm.trans Zl);have Xu:=Zn;have HB:=(ξ (ω Xm.size Xj) (ξ (ω Xm.size Xw) (ξ (ω Xm.size Xk) (ξ (ω Xm.size Xt) (ω Xm.size Xq)))));clear Zl Zn Xj Xw Xk Xt Xq))
 gi_cut [11,12]from 15 (λs11 s12 wx=>∃(Xa:Nat) (L:List Ob) (rv vi:Int),s11=pP Xa/\s12=iI 0/\Hid (JXY w wx S q m p1 b1 p2 b2 Xa v rs c L rv vi))
 case first=>
  have Jr:=HB;obtain⟨Xj,Xw,Xk,Xt,Xq⟩:=Jr;rw[Zr]at Xj Xw Xk Xt Xq;have Yy:=Xu.hm;have Yw:=Xu.v1.hp;have Yb:=Xu.v1.hb;have Yu:=Xu.v2.hp;have Yd:=Xu.v2.hb
  have Xn:∀i,AT m b1 b2 i->w.heap.size+3<=i/\i<w3.heap.size:=λi hi=>by
   rcases hi with rfl|rfl|rfl
   ·exact⟨Xj,Yy⟩
   ·exact⟨Xk,Yb⟩
   ·exact⟨Xq,Yd⟩
  have Zf:=Xn;have Yh:=(λ(W:World) (g:Gr w3 W)=>Q3 (HR.gr ((Xc.trans I).trans g)));rw[<-HN.o]at Yh
  have Yn:Hid (∀(W:World) (g1 cp:Nat),Gr w3 W->w3.heap.size<=g1->W.ownsRow 0 3 1 (.slice (some ⟨g1,0,none⟩) n cp) n (zs rs)->Calls prog 72 #[.iface 99 (pP q),.slice (some ⟨g1,0,none⟩) n cp,pP m,iI c.st] W λe w'=>
    ∃(L:List Ob) (rv vi:Int),e=.returned (.tuple #[.agg #[iI (L.length:Nat),iI (AC L:Nat),iI rv,iI vi],iI 0])/\AB (λi=>AT m b1 b2 i\/AD S w i) W w'/\AE w' (AD S w) q v/\Ext w' m p1 b1 p2 b2 v.n L/\BO v rs v.n L):=⟨λW g1 cp hg U ho=>by
   rw[HN.o]at ho⊢;have Yo:=(Xc.trans I).trans hg;refine(WO HC.sd (HV.gr Yo) (Xu.gr hg) (Yo.tab HT.lt HT) (λi hi=>?_) (by unfold maxLen;have:=HN.o;omega) (λi hi h=>by have:=(Xn i h).1;have:=hi.2;omega) (λh=>by have:=h.2;omega) (λh=>by have:=h.2;omega) (λh=>Zu h.1) (λh=>by have:=(Xn _ h).1;omega) (room:=(c.st:Int)) (by have:=Zz;omega)).mono ?_
   ·exact⟨g1,0,rfl,(A9 ho rfl).2,λh=>by have:=(Xn _ h).2;omega,by rw[ζ6];exact BU ho (NH hi)⟩
   ·rintro e w' ⟨ht,hv,L,r',vi,rfl,he,hm,-⟩
    exact⟨L,r',vi,rfl,ht,hv,he,hm⟩⟩
  have Za:Hid (∀(W1 W2 W3:World) (Xa:Nat) (L:List Ob) (rv vi:Int),Gr w3 W1->AB (λi=>AT m b1 b2 i\/AD S w i) W1 W2->AE W2 (AD S w) q v->Ext W2 m p1 b1 p2 b2 v.n L->BO v rs v.n L->AB (λi=>i=Xa) W2 W3->w3.heap.size<=Xa →
    Rec W3 Xa 141 [iI (L.length:Nat),iI (AC L:Nat),iI rv,iI vi]->JXY w W3 S q m p1 b1 p2 b2 Xa v rs c L rv vi):=⟨λW1 W2 W3 Xa L rv vi hg ht hv he hm ht3 hb hr=>by
   have hz3:=(Xc.trans I).size;have hz13:=I.size;have Yo:=(Xc.trans I).trans hg
   have Yx:∀i,i<w.heap.size+3->w.heap.size<=i->¬(AT m b1 b2 i\/AD S w i):=λi h1 h2 h=>by
    rcases h with h|h
    ·have:=(Xn i h).1;omega
    ·have:=h.2;omega
   refine⟨((Yo.touch _).trans (ht.mono (T:=λi=>AT m b1 b2 i\/S i) (λi _ h=>h.imp id (λh=>h.1)))).trans' (T:=λi=>i=Xa) ht3 (λi hi h=>by omega) |>.mono (λi hi h=>h.elim (λh=>by have:=(Xn i h).1;omega) id),hv.touch ht3 (λi hi _ h=>by have:=hi.2;omega),he.touch ht3 Ω Ω Ω Ω Ω,hm,hr,?_,?_,?_,Xj,Xw,Xk,Xt,Xq,by omega⟩
   ·exact((Zi.gr (I.trans hg)).touch ht (Yx _ Ω Ω)).touch ht3 Ω
   ·exact((Jd.gr (I.trans hg)).touch ht (Yx _ Ω Ω)).touch ht3 Ω
   ·exact((Jh.gr (I.trans hg)).touch ht (Yx _ Ω Ω)).touch ht3 Ω⟩
  have Xf:=Zi.gr I;have x5:=Xf.cc 5;have Zc:=Xf.lt;have KS:Hid (∀W',Gr w3 W'->W'.cell? ⟨w.heap.size,5,none⟩=some (iI c.st)):=⟨λW' h=>(h.cell Zc 5).trans x5⟩
  have KT:Hid (∀W1 W',Gr w3 W1->AB (λi=>AT m b1 b2 i\/AD S w i) W1 W'->W'.cell? ⟨w.heap.size,5,none⟩=some (iI c.st)):=⟨λW1 W' h t=>(t.cell (ϑ Zc h.size) (λh=>by
   rcases h with h|h
   ·have:=(Zf _ h).1;omega
   ·have:=h.2;omega) 5).trans ((h.cell Zc 5).trans x5)⟩
  obtain⟨Sx,Ys⟩:=ε (λW'=>W'.cell? ⟨w.heap.size,5,none⟩=some (iI c.st):World->Prop);have y1:∀p':AA Sx,p'.w.cell? ⟨w.heap.size,5,none⟩=some (iI c.st):=λp=>AA.get Ys p;have Zm:Sx w3.drew:=by rw[Ys];exact x5
  have V:=ι Ys;have inst:Inhabited (AA Sx):=⟨⟨_,Zm⟩⟩;clear Ys x5 Xf z0 z1 z2 z3 z4 z5 z6 zl Xn Xj Xw Xk Xt Xq Yy Yw Yb Yu Yd;refine Q25 Sx (.two [0,1,2,4,5,6] 3 (.two [] 7 (.one [8,9,10] 11 (.one [] 12 (.fin [13]))) 11 (.one [] 7 (.one [8,9,10] 12 (.fin [13])))) 11 (.one [] 3 (.one [] 7 (.one [8,9,10] 12 (.fin [13]))))) IQ Zm ?_;refine ST ?_;simp only[AF,υ,ν]
  repeat(go_big_quiet_step (fail))
  refine ζb ⟨?_,?_⟩
  ·gi_wp2_with(refine⟨trivial,?_⟩;gi_at_call 67;refine(γ.2 (Yh _ (Gr.refl w3).drew)).mono ?_;rintro e w4 ⟨g1,c1,rfl,Xv,Yc,Ym⟩;have Y:=ι ((Gr.refl w3).drew.trans Xv);have Yr:=ι Ym;have Yq:=ι Yc;clear Xv Ym Yc);refine⟨AA.of (by rw[V.o];exact KS.o _ Y.o),?_⟩;refine ST ?_;simp only[AF,υ,ν];refine ζb ⟨?_,?_⟩
   ·gi_wp2_with(refine⟨trivial,?_⟩;gi_at_call 72;refine(γ.2 (Yn.o _ g1 c1 Y.o Yq.o Yr.o)).mono ?_;rintro e w5 ⟨L,rv,vi,rfl,E,Xg,Xh,Xe⟩;have J:=ι E;have Yl:=ι Xg;have Yj:=ι Xh;have Xy:=ι Xe;clear E Xg Xh Xe);refine⟨AA.of (by rw[V.o];exact KT.o _ _ Y.o J.o),?_⟩;refine NL ?_;have u5:=KT.o _ _ Y.o J.o;have Zg:=A6 u5;gi_wp2;refine⟨AA.of (by rw[V.o];exact(((Gr.refl w5).alloc _).cell Zg 5).trans u5),?_⟩;refine JV ?_;simp only[AF,υ,ν];refine ζb ?_;gi_wp2;refine⟨AA.of (by rw[V.o];exact(((Gr.refl w5).alloc _).cell Zg 5).trans u5),?_⟩;refine OW ?_;gi_wp2
    gi_meet
    exact⟨_,L,rv,vi,rfl,rfl,⟨Za.o _ _ _ _ L rv vi Y.o J.o Yl.o Yj.o Xy.o (((Gr.refl w5).alloc _).touch _) (ω Y.o.size J.o.size) (Rec.new w5 _ [iI (L.length:Nat),iI (AC L:Nat),iI rv,iI vi])⟩⟩
   ·have x4:=KS.o _ Y.o;have Zo:=A6 x4;gi_wp2;refine⟨AA.of (by rw[V.o];exact(((Gr.refl w4).alloc _).cell Zo 5).trans x4),?_⟩;refine JV ?_;simp only[AF,υ,ν];refine ζb ?_;have Xd:=ι (Rec.new w4 141 [iI 0,iI 0,iI 0,iI 0]);have O:=ι (Y.o.alloc (.cells #[.int .i64 0,.int .i64 0,.int .i64 0,.int .i64 0] 141))
    have Yk:Hid (¬(AT m b1 b2 w4.heap.size\/AD S w w4.heap.size)):=⟨λh=>by
     have:=Y.o.size;rcases h with h|h
     ·have:=(Zf _ h).2;omega
     ·have:=h.2;have:=(Xc.trans I).size;omega⟩
    have Xx:Hid (¬w.heap.size=w4.heap.size):=⟨by have:=Y.o.size;omega⟩;have Zx:=ι (CF Yr.o ((Gr.refl w4).alloc (.cells #[.int .i64 0,.int .i64 0,.int .i64 0,.int .i64 0] 141)));have Xz:Hid (w3.heap.size<=w4.heap.size):=⟨Y.o.size⟩;obtain⟨bA,Xi⟩:=ε w4.heap.size;obtain⟨WA,Xp⟩:=ε (w4.alloc (.cells #[.int .i64 0,.int .i64 0,.int .i64 0,.int .i64 0] 141));rw[show w4.alloc (.cells ([.int .i64 0,.int .i64 0,.int .i64 0,.int .i64 0]:List Value).toArray 141)=WA from Xp.symm]at Xd;rw[<-Xp]at O Zx⊢;rw[<-Xi]at Xd Yk Xx Xz⊢;clear Xi Xp x4 Zo;gi_wp2_with(refine⟨trivial,?_⟩;gi_at_call 72;refine(γ.2 (Yn.o _ g1 c1 O.o Yq.o Zx.o)).mono ?_;rintro e w5 ⟨L,rv,vi,rfl,E,Xg,Xh,Xe⟩;have J:=ι E;have Yl:=ι Xg;have Yj:=ι Xh;have Xy:=ι Xe;have Z:=ι (Xd.o.touch E (Yk.o));have q0:=Z.o.cc 0;have q1:=Z.o.cc 1;have q2:=Z.o.cc 2;have q3:=Z.o.cc 3;have qf:=Z.o.free;have ql:=Z.o.lt;clear E Xg Xh Xe);refine⟨AA.of (by rw[V.o];exact KT.o _ _ O.o J.o),?_⟩;refine NL ?_;gi_wp2;have R5:=(((Z.o.set 0 (iI (L.length:Nat))).set 1 (iI (AC L:Nat))).set 2 (iI rv)).set 3 (iI vi);have t5:=QL w5 bA (iI (L.length:Nat)) (iI (AC L:Nat)) (iI rv) (iI vi);have KF:=(t5.cell (A6 (KT.o _ _ O.o J.o)) Xx.o 5).trans (KT.o _ _ O.o J.o);refine⟨AA.of (by rw[V.o];exact KF),?_⟩;refine OW ?_;gi_wp2
    gi_meet
    exact⟨_,L,rv,vi,rfl,rfl,⟨Za.o _ _ _ _ L rv vi O.o J.o Yl.o Yj.o Xy.o t5 Xz.o R5⟩⟩
  ·gi_wp2;have x3:=KS.o _ (Gr.refl w3);have Jn:=A6 x3;refine⟨AA.of (by rw[V.o];exact KS.o _ ((Gr.refl w3).alloc _).drew),?_⟩;refine JV ?_;simp only[AF,υ,ν];refine ζb ?_;have Xd:=ι ((Rec.new w3 141 [iI 0,iI 0,iI 0,iI 0]).gr (Gr.refl _).drew);have O:=ι ((Gr.refl w3).alloc (.cells #[.int .i64 0,.int .i64 0,.int .i64 0,.int .i64 0] 141)).drew
   have Yk:Hid (¬(AT m b1 b2 w3.heap.size\/AD S w w3.heap.size)):=⟨λh=>by
    rcases h with h|h
    ·have:=(Zf _ h).2;omega
    ·have:=h.2;have:=(Xc.trans I).size;omega⟩
   have Xx:Hid (¬w.heap.size=w3.heap.size):=⟨by omega⟩;have Xz:Hid (w3.heap.size<=w3.heap.size):=⟨μ _⟩;obtain⟨WA,Xp⟩:=ε ((w3.alloc (.cells #[.int .i64 0,.int .i64 0,.int .i64 0,.int .i64 0] 141)).drew);rw[show (w3.alloc (.cells ([.int .i64 0,.int .i64 0,.int .i64 0,.int .i64 0]:List Value).toArray 141)).drew=WA from Xp.symm]at Xd;rw[<-Xp]at O⊢;clear Xp;obtain⟨bA,Xi⟩:=ε w3.heap.size;rw[<-Xi]at Xd Yk Xx;rw[show w3.heap.size<=w3.heap.size↔w3.heap.size<=bA by rw[Xi]]at Xz;rw[show w3.heap.size=bA from Xi.symm];clear Xi x3 Jn;gi_wp2_with(refine⟨trivial,?_⟩;gi_at_call 67;refine(γ.2 (Yh _ O.o)).mono ?_;rintro e w4 ⟨g1,c1,rfl,Xv,Yc,Ym⟩;have Y:=ι (O.o.trans Xv);have Zv:=ι (Xd.o.gr Xv);have Yr:=ι Ym;have Yq:=ι (ω O.o.size Yc);clear Xv Ym Yc);refine⟨AA.of (by rw[V.o];exact KS.o _ Y.o),?_⟩;refine JV ?_;simp only[AF,υ,ν];refine ζb ?_;gi_wp2_with(refine⟨trivial,?_⟩;gi_at_call 72;refine(γ.2 (Yn.o _ g1 c1 Y.o Yq.o Yr.o)).mono ?_;rintro e w5 ⟨L,rv,vi,rfl,E,Xg,Xh,Xe⟩;have J:=ι E;have Yl:=ι Xg;have Yj:=ι Xh;have Xy:=ι Xe;have Z:=ι (Zv.o.touch E (Yk.o));have q0:=Z.o.cc 0;have q1:=Z.o.cc 1;have q2:=Z.o.cc 2;have q3:=Z.o.cc 3;have qf:=Z.o.free;have ql:=Z.o.lt;clear E Xg Xh Xe);refine⟨AA.of (by rw[V.o];exact KT.o _ _ Y.o J.o),?_⟩;refine NL ?_;gi_wp2;have R5:=(((Z.o.set 0 (iI (L.length:Nat))).set 1 (iI (AC L:Nat))).set 2 (iI rv)).set 3 (iI vi);have t5:=QL w5 bA (iI (L.length:Nat)) (iI (AC L:Nat)) (iI rv) (iI vi);have KF:=(t5.cell (A6 (KT.o _ _ Y.o J.o)) Xx.o 5).trans (KT.o _ _ Y.o J.o);refine⟨AA.of (by rw[V.o];exact KF),?_⟩;refine OW ?_;gi_wp2
   gi_meet
   exact⟨_,L,rv,vi,rfl,rfl,⟨Za.o _ _ _ _ L rv vi Y.o J.o Yl.o Yj.o Xy.o t5 Xz.o R5⟩⟩
 case rest=>
  obtain⟨Xa,L,rv,vi,rfl,rfl,HI⟩:=hcut;clear z0 z1 z2 z3 z4 z5 z6 zl;obtain⟨Zw,Yt⟩:=HC.inn L HI.o.mks;have Jk:=ι Zw;have Zt:=ι Yt;clear Zw Yt;gi_wp2_with(refine⟨trivial,?_⟩;gi_at_call 135;refine(γ.2 (LO (some ⟨m,0,none⟩))).mono ?_;rintro e w1 ⟨rfl,rfl⟩);obtain⟨W1,Yg⟩:=ε (wc.alloc (.cells #[.pointer (some ⟨m,0,none⟩)] 137));have U:Gr wc W1:=by rw[Yg];exact(Gr.refl wc).alloc _
  have hs1:W1.heap.size=wc.heap.size+1:=by rw[Yg,π]
  have k4:W1.cell? ⟨wc.heap.size,0,none⟩=some (pP m):=by
   rw[Yg];exact(Boxed.new wc 137 (pP m)).cell
  rw[<-Yg];have hex:=HI.o.ex;have Yy:=hex.hm;have Yw:=hex.v1.hp;have Yb:=hex.v1.hb;have Yu:=hex.v2.hp;have Yd:=hex.v2.hb;have hwz:=HI.o.t.size;have Yz:AQ wc:=HI.o.t.tab Jo Zu HT;have Jf:=ι Yz;have Zk:=Yz.lt;have Ze:=HI.o.bx;have hrl:=Ze.lt;clear Yg Yz hex;have tI:∀(j:Nat) A B,(AB (λi=>W1.heap.size<=i) W1 A/\j<=L.length)->AB (λi=>W1.heap.size<=i/\i<W1.heap.size+2+4) A B->(AB (λi=>W1.heap.size<=i) W1 B/\j<=L.length):=λj A B h t=>⟨h.1.trans (t.mono (λi _ h=>h.1)),h.2⟩
  refine NF (K:=4) (s0:=0) rfl Ω (gf:=202) (lb:=#[pP wc.heap.size]) rfl trivial (enters_of func202 (by kernel_rfl) rfl)
   (QQ _ wc.heap.size m p1 b1 p2 b2 v.n L _) (λ_=>rfl)
   (λ(j:Nat) A=>AB (λi=>W1.heap.size<=i) W1 A/\j<=L.length) (λ_ _=>False) tI (λ_ _ _ h _=>h)
   (λj A h=>⟨(HI.o.ex.gr U).touch h.1 Ω Ω Ω Ω Ω,(U.tab Zk Jf.o).touch' h.1 Ω,(h.1.cell Ω Ω 0).trans k4,h.2⟩)
   ⟨AB.refl _ _,ζe _⟩ ?round ?done ?stop
  case round=>
   intro lp j x W3 hsz3 Xb Xo;dsimp only[IC];gi_wp2;refine⟨Gr.refl _,λW4 ht4 hI4=>?_⟩
   have Yp:j<L.length:=by
    rcases δ j L.length with h|h
    ·exact h
    ·unfold FE at Xo;rw[ζz h]at Xo;cases Xo
   obtain rfl:x=L[j]:=by unfold FE at Xo;rw[τ Yp]at Xo;exact(Option.some.inj Xo).symm
   obtain⟨i1,i2⟩:=Jk.o _ (χ Yp);have Yi:=(Ze.gr U).touch hI4.1 Ω;obtain⟨c0,c1,cl⟩:=Yi.k2;have Zq:=(HI.o.ex.good.sz _ (χ Yp)).2;obtain⟨sa,Zp⟩:=ε (L[j].1);obtain⟨sz,Xr⟩:=ε (L[j].2);rw[<-Zp]at i1 i2 Zq⊢;rw[<-Xr]at i2 Zq⊢;have e0:decide ((sa:Int)<(c.fr:Int))=false:=ζ Ω;have e1:decide ((c.tp:Int)<(sa:Int)+(sz:Int))=false:=ζ Ω;have e2:decide (sa<c.fr)=false:=ζ Ω;have Jc:=ι hI4;clear Xb hI4 Xo ht4 Zp Xr;gi_wp2;exact⟨AB.refl _ _,j+1,rfl,Jc.o.1,Yp⟩
  case done=>
   rintro D j W3 hD rfl Xb hK;have hs5l:=HI.o.l5;have hb11l:=HI.o.st.lt;have Zb:=(HI.o.st.gr U).touch Xb.1 Ω;have Xf:=(Ze.gr U).touch Xb.1 Ω;have Ya:=(HI.o.r6.gr U).touch Xb.1 (by have:=HI.o.r6.lt;omega);have Ye:=(HI.o.r7.gr U).touch Xb.1 (by have:=HI.o.r7.lt;omega);have a1:=Zb.cc 1;have al:=Zb.lt;have c3:=Xf.cc 3;have c2:=Xf.cc 2;have cl:=Xf.lt;have q0:=Ya.cc 0;have q1:=Ya.free 0;have ql:=Ya.lt;have p0:=Ye.cc 0;have p1':=Ye.free 0;have pl:=Ye.lt;have Je:=Zt.o;have hlm:=HC.cf.ln;have Jg:=HI.o.vm;obtain⟨sz,Xr⟩:=ε (AC L);have Jm:=ι Xr;rw[<-Xr]at a1 Je;have e0:decide ((c.lm:Int)-(c.to:Int)<(sz:Int))=false:=ζ Ω;have HK:=ι hK;have HD:=ι hD;have Zs:=ι Xb;have Xd:=ι Ya;have Jp:=ι Ye;have hs3:=Xb.1.size;clear hK hD Xb Xr Zb Xf Ya Ye;gi_wp2
   have tg:AB (λi=>i=w.heap.size+1\/i=w.heap.size+2) W3 ((W3.setCell ⟨w.heap.size+1,0,none⟩ (.int .i64 (sz:Int))).setCell ⟨w.heap.size+1+1,0,none⟩ (.int .i64 0)):=
    ((AB.refl _ W3).setCell (a:=⟨w.heap.size+1,0,none⟩) (λ_=>.inl rfl) _).setCell (a:=⟨w.heap.size+1+1,0,none⟩) (λ_=>.inr rfl) _
   have b6:Rec ((W3.setCell ⟨w.heap.size+1,0,none⟩ (.int .i64 (sz:Int))).setCell ⟨w.heap.size+1+1,0,none⟩ (.int .i64 0)) (w.heap.size+1) 3 [iI (sz:Int)]:=
    (Xd.o.set 0 (iI (sz:Int))).touch ((AB.refl (λi=>i=w.heap.size+1+1) _).setCell (a:=⟨w.heap.size+1+1,0,none⟩) (λ_=>rfl) _) Ω
   have b7:Rec ((W3.setCell ⟨w.heap.size+1,0,none⟩ (.int .i64 (sz:Int))).setCell ⟨w.heap.size+1+1,0,none⟩ (.int .i64 0)) (w.heap.size+2) 30 [iI 0]:=
    (Jp.o.touch ((AB.refl (λi=>i=w.heap.size+1) W3).setCell (a:=⟨w.heap.size+1,0,none⟩) (λ_=>rfl) (iI (sz:Int))) Ω).set 0 (iI 0)
   have hD:=HD.o;have Zd:=(tg.block D (ζq.1 HK.o).1 Ω).trans HK.o;generalize ((W3.setCell ⟨w.heap.size+1,0,none⟩ (.int .i64 (sz:Int))).setCell ⟨w.heap.size+1+1,0,none⟩ (.int .i64 0))=W5 at *
   have k6:=b6.cc 0;have k7:=b7.cc 0;rw[show w.heap.size+2=w.heap.size+1+1 from rfl]at k7;refine⟨by simp,.inl ⟨_,_,rfl,run_takeDeferred Zd,?_⟩⟩;have Jq:=cell_kept k6 (grownBy_putObj' _ D (.deferred none)) (λr e=>by cases e;exact⟨_,Zd,rfl⟩);have Jl:=cell_kept k7 (grownBy_putObj' _ D (.deferred none)) (λr e=>by cases e;exact⟨_,Zd,rfl⟩);have tD:AB (λi=>W1.heap.size<=i) W5 (W5.putObj D (.deferred none)):=DW _ D _ Ω;refine⟨.tuple #[iI (sz:Int),iI 0],?_,?_⟩
   ·simp[results,f124,go_sem,Jq,Jl]
   ·refine⟨L,HI.o.mks,by rw[Jm.o],?_,?_⟩
    ·exact(((HI.o.t.trans (U.touch _)).trans' Zs.o.1 (λi hi h=>by omega)).trans' tg (λi hi h=>by omega)).trans' tD (λi hi h=>by omega)
    ·exact(((Jg.gr U).touch Zs.o.1 (λi hi _ h=>by have:=hi.2;omega)).touch tg (λi hi _ h=>by have:=hi.2;omega)).touch tD (λi hi _ h=>by have:=hi.2;omega)
  case stop=>
   rintro D c W3 hD h hK;exact h.elim
end
end
theorem XB(h:AH v){t:Nat}(ht:t<=v.n)(hE:BN v f t=0)(hG:B8 v v1 (CA v f t)){a:Nat}(h1:f<=a)(h2:a<t):v1.ldE a=0:=by
 have hF:CA v f t=CB v ((f:Int)/v.pl.pg).toNat (C5 v f t):=by unfold CA;grind
 rw[hG.ldE h Ω,hF];by_cases h0:v.pt.getD (a/v.pl.pg) 0=0
 ·rw[θ];rw[QO];refine⟨?_,h0⟩;have e1:((f:Int)/(v.pl.pg:Int)).toNat=f/v.pl.pg:=by grind
  have e2:C5 v f t=(t-1)/v.pl.pg+1-f/v.pl.pg:=by
   unfold C5
   grind
  have g1:f/v.pl.pg<=a/v.pl.pg:=ζc h1;have g2:a/v.pl.pg<=(t-1)/v.pl.pg:=ζc Ω;omega
 ·split
  ·rfl
  ·rw[h.ldE_of Ω,ψ h0]
theorem VGS(hf:f<=v.n):BN v f f=0/\CA v f f=[]:=by
 have hE:BN v f f=0:=by unfold BN;omega
 refine⟨hE,?_⟩;unfold CA
 simp_all
theorem Z25(h:AH v){c:Cf}(hc:RL v rs c)(hM:BO v rs v.n L)(hE:BN v c.to ((c.to+AC L:Nat):Int)=0)(hG:B8 v v1 (CA v c.to ((c.to+AC L:Nat):Int)))
  (hm:∀a:Nat,c.fr<=a->a<c.tp->v.ldE a=0):DY v1 rs L c.to/\GI v1 L:=by
 obtain⟨Z,htot⟩:=hc.inn L hM;have hw:=hG.wider h;have hp:=h.page;have Y:=hc.cf;have hln:=Y.ln;have hto:=Y.to;refine⟨⟨hG.ok,?_,by omega,λo ho=>?_,λa h1 h2=>XB h Ω hE hG h1 h2,by rw[hG.n];omega⟩,λo ho m hmo=>?_⟩
 ·rw[hG.n];exact hw.marks hM
 ·have hi:=Z o ho;have hs:1<=o.2:=(hM.mkd.good.sz o ho).1
  have hsz:1<=AC L:=by
   have:∀l:List Ob,o∈l->o.2<=AC l:=λl=>by
    induction l with
    | nil=>intro h;cases h
    | cons b r ih=>
     intro h;simp only[AC];rcases ξC.1 h with rfl|h
     ·omega
     ·have:=ih h;omega
   grind
  have hup:c.tp<=upN c.tp v.pl.pg:=by
   unfold upN;have h1:=ζo (c.tp+v.pl.pg-1) v.pl.pg;have h2:=ζN (c.tp+v.pl.pg-1) (show 0<v.pl.pg by omega)
   grind
  have hap:=Y.ap;omega
 ·have hi:=Z o ho;have:=hm (o.1+m) Ω Ω;exact(hw.le _ (by exact this)).1
structure WK(v:Vm)(rs:List Int)(c:Cf)(L:List Ob)(v1 v2:Vm)(k kq:Nat):Prop where
 gr:B8 v v1 (CA v c.to ((c.to+AC L:Nat):Int))
 cx:DY v1 rs L c.to
 fo:GI v1 L
 ke:k=(AV v1 rs k).length
 st:CpS v1 rs L c.to (AV v1 rs k) k 0 v2
 q1:∀j,j<kq->(c.fr/v.pl.pg+j)*v.pl.pg<c.tp
 q2:c.tp<=(c.fr/v.pl.pg+kq)*v.pl.pg
theorem VQN(v:Vm)(rs:List Int)(k:Nat)(h:j<=(AV v rs k).length):(AV v rs (k+1)).take j=(AV v rs k).take j:=by
 obtain⟨X,hX⟩:=XO v rs k
 grind
theorem YnT(h:k<(AV v rs k).length):AV v rs (k+1)=DV (AV v rs k) (EB v ((AV v rs k).getD k 0)):=by
 show (if _ then _ else _)=_
 rw[θ h]
theorem ZfB(c:DY v rs L to){X:List Int}(hR:∀a∈O++X,Rch v rs a)(hl:∀a∈l,a=0\/a∈O):l.map (λa=>B7 v (O++X) to a)=l.map (λa=>B7 v O to a):=by
 apply ξ1;intro a ha;exact Vqd v X to (λh=>by have:=(DQ (c.mks.sound.rd _ (hR 0 h))).1;omega) (hl a ha)
def CpJ(w3:World)(S3:Nat->Prop)(K M q g:Nat)(v:Vm)(rs:List Int)(L:List Ob)(to:Nat)(i:Nat)(W:World)(out:List Int):Prop:=
 ∃O v' Si,(∀b,Si b->plus S3 w3 b)/\DG W Si K M q v to O v'/\CpS v rs L to O 0 0 v'/\O=DV [] (rs.take i)/\out=(rs.take i).map (λa=>B7 v O to a)/\AB (λb=>b=g\/(b=K\/b=M)\/S3 b) w3 W
structure CpL(w3 wr:World)(S3 Si:Nat->Prop)(K M q r g:Nat)(v:Vm)(rs out:List Int)(L:List Ob)(to k:Nat)(v':Vm):Prop where
 sub:∀b,Si b->plus S3 w3 b
 cat:DG wr Si K M q v to (AV v rs k) v'
 st:CpS v rs L to (AV v rs k) k 0 v'
 oe:out=rs.map (λa=>B7 v (AV v rs k) to a)
 t:AB (λb=>b=g\/(b=K\/b=M)\/S3 b) w3 wr
 rt:A7 wr r g out
def YZS(w:World)(S:Nat->Prop)(q r g:Nat)(v:Vm)(rs:List Int)(c:Cf)(e:Ending)(w':World):Prop:=
 ∃L,BO v rs v.n L/\AB (λb=>b=g\/S b) w w' ∧
  ((BN v c.to ((c.to+AC L:Nat):Int)≠0/\e=.returned (.tuple #[iI 0,iI (BN v c.to ((c.to+AC L:Nat):Int))])/\J1 w' (plus S w) q v []/\A7 w' r g rs) ∨
   (BN v c.to ((c.to+AC L:Nat):Int)=0/\e=.returned (.tuple #[iI ((c.to+AC L:Nat):Int),iI 0]) ∧
   ∃v1 v2 k kq,WK v rs c L v1 v2 k kq/\AE w' (plus S w) q (umN v2 (c.fr/v.pl.pg) kq)/\A7 w' r g (rs.map (λa=>B7 v1 (AV v1 rs k) c.to a))))
theorem DG.touch{T:Nat->Prop}{v':Vm}(h:DG w S K M q v to O v')(t:AB T w w')(hK:¬T K)(hM:¬T M)(hS:∀b,S b->b<w.heap.size->¬T b):DG w' S K M q v to O v':=
 ⟨h.rc.touch t hK,h.mp.touch t hM,h.vm.touch t hS,h.nK,h.nM⟩
structure JFi(w3:World)(S3:Nat->Prop)(K M r g:Nat):Prop where
 r3:r<w3.heap.size
 g3:g<w3.heap.size
 rK:r≠K
 rM:r≠M
 gK:g≠K
 gM:g≠M
 rS:¬S3 r
 gS:¬S3 g
structure UmI(w3 wx:World)(S3:Nat->Prop)(K M q r g:Nat)(v:Vm)(out:List Int)(tt q0 j pg tp:Nat):Prop where
 t:AB (λb=>b=g\/(b=K\/b=M)\/S3 b) w3 wx
 vm:∃Sj,(∀b,Sj b->plus S3 w3 b)/\AE wx Sj q (umN v q0 j)/\¬Sj K
 rc:Rec wx K 198 [pP q,.map (some M),iI tt]
 rt:A7 wx r g out
 q1:∀i,i<j->(q0+i)*pg<tp
theorem UmI.gr{wx:World}{r:Nat}{out:List Int}{tt q0 pg tp:Nat}(h:UmI w3 wx S3 K M q r g v out tt q0 j pg tp)(g':Gr wx w'):UmI w3 w' S3 K M q r g v out tt q0 j pg tp:=by
 obtain⟨h1,⟨Sj,h2,h3,h4⟩,h5,h6,h7⟩:=h;exact⟨h1.trans (g'.touch _),⟨Sj,h2,h3.gr g',h4⟩,h5.gr g',h6.gr g',h7⟩
section
variable{r:Nat}
theorem Q0I(hcat:DG w3 S3 K M q v1 to [] v1)(cx:DY v1 rs L to)(fo:GI v1 L)(hR:A7 w3 r g rs)(hrs:∀a∈rs,0<=a/\a<=2147483647)(sp:JFi w3 S3 K M r g):Calls prog 126 #[pP r,.func (.func 127) #[pP K] #[]] w3 λe w'=>e=.returned (.tuple #[])/\∃out v' Si,CpL w3 w' S3 Si K M q r g v1 rs out L to 0 v':=by
 have h0:CpJ w3 S3 K M q g v1 rs L to 0 w3 []:=⟨[],v1,S3,λb h=>.inl h,hcat,⟨ψm,(λ_ h=>by cases h),Cpd.nil cx.ok to,(λj hj=>absurd hj (ζ8 _)),.inr ⟨rfl,rfl⟩⟩,rfl,rfl,AB.refl _ _⟩;refine(ZT (F:=127) (pre:=#[pP K]) (caps:=#[]) (CpJ w3 S3 K M q g v1 rs L to) (λ_ _=>by kernel_rfl) hR h0 ?_ ?_).mono ?_
 ·rintro i hi W out ho ⟨O,v',Si,h1,h2,h3,h4,h5,h6⟩ hz;refine⟨O,v',Si,h1,h2,h3,?_,?_,h6⟩
  ·rw[JP hi,WT,<-h4,hz];exact(θ (.inl rfl)).symm
  ·rw[JP hi,ζI,<-h5,hz]
   show out++[0]=out++[B7 v1 O to 0]
   rw[QN v1 _ (h3.zero cx)]
 ·rintro i hi W out ho ⟨O,v',Si,h1,h2,h3,h4,h5,h6⟩ U D W0 Z;obtain⟨q1,q2⟩:=hrs _ (χ hi);obtain⟨a,ha⟩:∃a:Nat,(a:Int)=rs[i]:=⟨rs[i].toNat,by omega⟩;have hr:Rch v1 rs a:=by rw[ha];exact Rch.root (χ hi) D
  have Y:=Zz2 (h2.gr Z) cx fo h3 (a:=a) (.inr hr) Ω;rw[ha]at Y;refine Y.mono ?_;rintro e W' ⟨Xa,rfl,ht,I,V⟩;have hzW:=h6.size;have hz0:=Z.size;have J:∀b,b<w3.heap.size->¬S3 b->¬Si b:=λb hb hn h=>(h1 b h).elim hn (λh=>by omega);have Xb:(a:Int)∈CV O a:=PE.2 (.inr ⟨rfl,by omega⟩);have E:0<=B7 v1 (CV O (a:Int)) to a:=by have:=(XE v1 (to:Int) Xb).1;omega
  rw[<-ha]at V I⊢;refine⟨_,rfl,(U.gr Z).touch ht (λh=>?_) (λh=>?_),λW'' t''=>⟨CV O a,Xa,plus Si W0,λb hb=>?_,I.touch t'' (Ne.symm sp.gK) (Ne.symm sp.gM) (λb hb _ e=>?_),V,?_,?_,?_⟩⟩
  ·rcases h with(h|h)|h
   ·exact sp.rK h
   ·exact sp.rM h
   ·exact J _ sp.r3 sp.rS h
  ·rcases h with(h|h)|h
   ·exact sp.gK h
   ·exact sp.gM h
   ·exact J _ sp.g3 sp.gS h
  ·rcases hb with h|h
   ·exact h1 b h
   ·right;omega
  ·subst e;rcases hb with h|h
   ·exact J _ sp.g3 sp.gS h
   ·have:=sp.g3;omega
  ·rw[JP hi,WT,<-h4,<-ha]
  ·obtain⟨X,hX⟩:=YE O (a:Int);rw[JP hi,ζI,<-ha,Int.max_eq_left E];congr 1;rw[h5]
   have hl:∀b∈rs.take i,b=0\/b∈O:=λb hb=>by
    by_cases h0:b=0
    ·exact .inl h0
    ·right;rw[h4];exact UM.2 (.inr ⟨hb,h0⟩)
   rw[hX];exact(ZfB cx (by rw[<-hX];exact V.rch) hl).symm
  ·refine((h6.trans (Z.touch _)).trans' ht (λb hb h=>?_)).trans (t''.mono (λb _ h=>.inl h));rcases h with h|h
   ·exact .inr (.inl h)
   ·exact(h1 b h).elim (λh=>.inr (.inr h)) (λh=>by omega)
 ·rintro e w' ⟨rfl,out,-,⟨O,v',Si,h1,h2,h3,h4,h5,h6⟩,U⟩;rw[ζ0]at h4 h5;have hO:O=AV v1 rs 0:=h4;subst hO;exact⟨rfl,out,v',Si,h1,h2,h3,h5,h6,U⟩
end
section
variable{r:Nat}{c:Cf}
theorem Qj5(hV:AE w S q v)(hR:A7 w r g rs)(hT:AQ w)(htS:¬S 1)(hrS:¬S r)(hgS:¬S g)(hc:RL v rs c)(hm:∀a:Nat,c.fr<=a->a<c.tp->v.ldE a=0)(hrs:∀a∈rs,0<=a/\a<=2147483647):Calls prog 55 #[pP q,pP r,cfV c] w (YZS w S q r g v rs c):=by
 have HV:=hV.cut;have HR:=hR;have HT:=hT;have I:=(ξ htS (ξ hrS hgS));have HC:=hc;have HM:=hm;have Jk:=hrs;have Xr:=hc.cf;have Jz:=hV.ok.page;have Zk:=hV.ok;have hn2:=hV.ok.n2;have Jy:=hT.lt;have hrl:=hR.lt;have hto:=Xr.to;have hlm:=Xr.ln;have Jw:=Xr.fr;have Xg:=((Gr.refl w).alloc (.cells #[.int .i64 c.fr,.int .i64 c.tp,.int .i64 c.to,.int .i64 c.lm,.int .i64 c.bk,.int .i64 c.st,.int .i64 c.ah] 113));have rb:=Rec.new w 113 [iI c.fr,iI c.tp,iI c.to,iI c.lm,iI c.bk,iI c.st,iI c.ah];obtain⟨W0,Xz⟩:=ε (w.alloc (.cells #[.int .i64 c.fr,.int .i64 c.tp,.int .i64 c.to,.int .i64 c.lm,.int .i64 c.bk,.int .i64 c.st,.int .i64 c.ah] 113));have hsz0:W0.heap.size=w.heap.size+1:=by rw[Xz,π]
 rw[<-Xz]at Xg;rw[show w.alloc (.cells ([.int .i64 c.fr,.int .i64 c.tp,.int .i64 c.to,.int .i64 c.lm,.int .i64 c.bk,.int .i64 c.st,.int .i64 c.ah]:List Value).toArray 113)=W0 from Xz.symm]at rb;have Jh:=rb;have Zy:=(Qwc (HV.gr Xg) (HR.gr Xg) (Xg.tab Jy HT) (λh=>htS h.1) hc);obtain⟨z0,z1,z2,z3,z4,z5,z6,zl⟩:=rb.k7;have Yw:=Xr;have Zu:=Zk;unfold cfV at Zy⊢;clear hV hR hT htS hrS hgS hc hm hrs rb Xr Zk;go_in;go_upto_region 1 with(fail);rw[<-Xz];clear Xz;go_upto_region 4 with(go_at_call 124;refine Zy.mono ?_;rintro e w1 ⟨L,hM,rfl,Yj,Xt⟩;have Yi:=hM;have Yk:=Yj;have Zd:=Xt;have Ya:=(Jh.touch Yj (λh=>by have:=h.2;omega));have Yv:=ι ((HR.gr Xg).touch Yj (λh=>I.2.1 h.1) (λh=>I.2.2 h.1));obtain⟨y0,y1,y2,yl⟩:=Ya.k3;clear hM Yj Xt);obtain⟨Ub,Yn⟩:=HC.inn L Yi;obtain⟨nn,Zf⟩:=ε (AC L);have Yb:=ι Zf;rw[<-Zf]at Yn⊢;have Xw:(c.to:Int)+(nn:Int)=((c.to+nn:Nat):Int):=by push_cast;rfl
 have Ys:Hid (Calls prog 125 #[pP q,iI c.to,iI ((c.to:Int)+(nn:Int))] w1 λe w'=>e=.returned (iI (BN v c.to ((c.to+nn:Nat):Int)))/\AB (AD S w) w1 w'/\J1 w' (plus (AD S w) w1) q v (CA v c.to ((c.to+nn:Nat):Int))):=⟨by
  rw[Xw];by_cases h0:nn=0
  ·subst h0;have hq:=VGS (v:=v) (f:=c.to) Ω;rw[ζ7,hq.1,hq.2];refine(Q7x Zd c.to c.to Ω (μ _)).mono ?_;rintro e w' ⟨rfl,hg⟩;exact⟨rfl,hg.touch _,v,B8.refl Zu,(Zd.gr hg).mono (λb hb=>.inl hb.1)⟩
  ·refine(TD Zd c.to (c.to+nn) Ω Ω).mono ?_;rintro e w' ⟨rfl,ht,v',hg,hv⟩
   exact⟨rfl,ht.mono (λb _ hb=>hb.1),v',hg,hv.mono (λb hb=>hb.imp (λh=>h.1) id)⟩⟩
 clear z0 z1 z2 z3 z4 z5 z6 zl Zf Xw;obtain⟨E,hE⟩:=ε (BN v c.to ((c.to+nn:Nat):Int));have HE:=ι hE;rw[<-hE]at Ys;clear hE;by_cases Ye:E=0
 ·subst Ye;have Jp:=@run_makeMap prog;have hmf:∀(fn:Fn) (first cap:Array Value) (w:World),(Instr.makeFunc fn first cap).run prog w=.ok (.func fn first cap) w:=λ_ _ _ _=>rfl;go_upto_region 8 with(go_at_call 125;refine Ys.o.mono ?_;rintro e w2 ⟨rfl,Xe,Yc⟩;have Xs:=ι Xe;have Yy:=ι Yc;have Xc:=ι (Ya.touch Xe (λh=>by have:=h.2;omega));have Zq:=ι (Yv.o.touch Xe (λh=>I.2.1 h.1) (λh=>I.2.2 h.1));have x2:=Xc.o.cc 2;have xl:=Xc.o.lt;clear Xe Yc);obtain⟨v1,Yg,Xt⟩:=Yy.o;rw[Yb.o]at Yg;have hE:=HE.o;rw[Yb.o]at hE;obtain⟨cx,fo⟩:=Z25 Zu HC Yi hE.symm Yg HM;have hz1:=Yk.size;have hz2:=Xs.o.size;have Xa:∀b,AD (plus (AD S w) w1) w2 b->plus S w b/\b<w2.heap.size:=λb hb=>⟨hb.1.elim (λh=>.inl h.1) (λh=>.inr Ω),hb.2⟩
  have Xh:=MD w2 (.map #[] 0) 198 [pP q,.map (some w2.heap.size),iI c.to];have Xb:Gr w2 ((w2.alloc (.map #[] 0)).alloc (.cells #[.pointer (some ⟨q,0,none⟩),.map (some w2.heap.size),.int .i64 c.to] 198)):=((Gr.refl w2).alloc _).alloc _;have Xi:=(BH.made (P:=prog) (K:=3) w2).gr ((Gr.refl _).alloc (.cells #[.pointer (some ⟨q,0,none⟩),.map (some w2.heap.size),.int .i64 c.to] 198));obtain⟨M,hM⟩:=ε w2.heap.size;obtain⟨W3,Yl⟩:=ε ((w2.alloc (.map #[] 0)).alloc (.cells #[.pointer (some ⟨q,0,none⟩),.map (some w2.heap.size),.int .i64 c.to] 198));have hsz3:W3.heap.size=M+2:=by rw[Yl,π,π,hM]
  have hMw:w.heap.size<M:=by rw[hM];exact Xc.o.lt
  have hMw2:M<=w2.heap.size/\w2.heap.size<=M:=Ω
  rw[show (w2.alloc (.map #[] 0)).alloc (.cells ([.pointer (some ⟨q,0,none⟩),.map (some w2.heap.size),.int .i64 c.to]:List Value).toArray 198)=W3 from Yl.symm]at Xh;rw[<-Yl]at Xb Xi⊢;rw[<-hM]at Xh Xi Xa⊢;have hr1:=Yv.o.lt;have hr2:=Zq.o.lt;have Yp:DG W3 (AD (plus (AD S w) w1) w2) (M+1) M q v1 c.to [] v1:=⟨by simpa[AK]using Xh,Xi.congr (λy=>by simp[MF]),Xt.cut.gr Xb,λh=>by have:=(Xa _ h).2;omega,λh=>by have:=(Xa _ h).2;omega⟩;have Za:JFi W3 (AD (plus (AD S w) w1) w2) (M+1) M r g:=⟨by omega,by omega,by omega,by omega,by omega,by omega,λh=>(Xa _ h).1.elim I.2.1 (λh=>by omega),λh=>(Xa _ h).1.elim I.2.2 (λh=>by omega)⟩;have Jj:=ι (Q0I Yp cx fo (Zq.o.gr Xb) Jk Za);have Xo:=ι (ξ cx fo);have Ym:=ι Xb;have Yt:=ι Yg;have Zr:=ι Xa;have J:=ι Za;have Jn:=(Xc.o.gr Xb).cell (j:=2) rfl;have Ua:=(Xc.o.gr Xb).lt;clear Yg Xt cx fo Yl hM Xb Xi Xh Yp Za Xa x2 xl y0 y1 y2 yl hE;go_upto_region 9 with(go_at_call 126;refine Jj.o.mono ?_;rintro e w4 ⟨rfl,Ze,v',Si,hL⟩;have HL:=ι hL;clear hL)
  have Zc:Hid (∀W' S',AB (λb=>b=g\/(b=M+1\/b=M)\/AD (plus (AD S w) w1) w2 b) W3 W'->Gr W' S'->Rec S' w.heap.size 113 [iI c.fr,iI c.tp,iI c.to,iI c.lm,iI c.bk,iI c.st,iI c.ah]):=⟨λW' S' t g'=>((Xc.o.gr Ym.o).touch t (λh=>by
   have h2:=Xc.o.lt;have h3:=Ym.o.size;rcases h with h|h|h
   ·omega
   ·omega
   ·rcases h.1 with h|h
    ·have:=h.2;omega
    ·omega)).gr g'⟩
  have V:=Zc.o _ _ HL.o.t (Gr.refl _);have u2:=V.cc 2;have ul:=V.lt;clear V Jn Ua Jp;go_wp2
  go_loopw [12] (λs12 wr=>∃(k:Nat) (v':Vm) (Si:Nat->Prop),Hid (CpL W3 wr (AD (plus (AD S w) w1) w2) Si (M+1) M q r g v1 rs Ze L c.to k v')/\s12=iI ((c.to:Int)+AK v1 ((AV v1 rs k).take k))) (λs12 _=>((c.to:Int)+AC L+1-intOf s12).toNat)
  case atStart=>exact⟨0,v',Si,HL,by simp[AK]⟩
  case round=>
   obtain⟨k,Xm,Zv,Y,rfl⟩:=hrel;obtain⟨cx,fo⟩:=Xo.o;have O:=Y.o.st.lt;have c2:=Y.o.cat.rc.cc 2;have Xy:=cx.sum Y.o.st.nd Y.o.st.rch;have Zp:=G2 v1 ((AV v1 rs k).take k);have Zw:=UU v1 (AV v1 rs k) k;have Yd:=cx.top;have Jb:v1.n=v.n:=Yt.o.n;clear u2 ul;by_cases hk:k<(AV v1 rs k).length
   ·have Zn:=(DQ (cx.mks.sound.rd _ (Y.o.st.rch _ (χ hk)))).2.1;have Jx:=MG v1 hk;have Zi:=UU v1 (AV v1 rs k) (k+1);have Jc:=ι (ZQS Y.o.cat cx fo Y.o.st hk);have HK:=ι hk;have Jg:Hid (AK v1 ((AV v1 rs k).take k)+1<=AK v1 ((AV v1 rs k).take (k+1))):=⟨by omega⟩;obtain⟨aa,Yz⟩:∃aa:Nat,(aa:Int)=c.to+AK v1 ((AV v1 rs k).take k):=⟨((c.to:Int)+AK v1 ((AV v1 rs k).take k)).toNat,by omega⟩;obtain⟨tt,Xk⟩:∃tt:Nat,(tt:Int)=c.to+AK v1 (AV v1 rs k):=⟨((c.to:Int)+AK v1 (AV v1 rs k)).toNat,by omega⟩;have Je:=ι Yz;rw[<-Yz]at Jc⊢;rw[<-Xk]at c2;have e0:decide ((aa:Int)<(tt:Int))=true:=φ Ω;have e1:decide (aa<tt)=true:=φ Ω;have HB:=ι (ξ Zi Xy);clear hk Zn Jx Zi Yz Xk cx fo O Xy Zp Zw Yd Jb;go_wp2_with(go_at_call 128;refine Jc.o.mono ?_;rintro e w5 ⟨v3,rfl,Xp,Ja,Zo⟩;have Xl:=ι Xp;have Jt:=ι Ja;have Jo:=ι Zo;clear Xp Ja Zo);go_round
    case rel=>
     have Zs:=YnT HK.o;refine⟨k+1,v3,plus Zv wr,⟨⟨λb hb=>?_,by rw[Zs];exact Jt.o,by rw[Zs];exact Jo.o,?_,?_,?_⟩⟩,?_⟩
     ·have:=Y.o.t.size;rcases hb with h|h
      ·exact Y.o.sub b h
      ·right;omega
     ·rw[Y.o.oe];obtain⟨X,hX⟩:=XO v1 rs k;have Zg:∀a∈AV v1 rs k++X,Rch v1 rs a:=λa ha=>V16 Xo.o.1 (k+1) a (by rw[hX];exact ha);rw[hX]
      exact(ZfB Xo.o.1 Zg (λa ha=>by
       by_cases h0:a=0
       ·exact .inl h0
       ·exact .inr (Zqu v1 rs k a ha h0))).symm
     ·refine Y.o.t.trans' Xl.o (λb hb h=>?_);rcases h with h|h
      ·exact .inr (.inl h)
      ·exact(Y.o.sub b h).elim (λh=>.inr (.inr h)) (λh=>by omega)
     ·refine Y.o.rt.touch Xl.o (λh=>?_) (λh=>?_)
      ·rcases h with(h|h)|h
       ·exact J.o.rK h
       ·exact J.o.rM h
       ·exact(Y.o.sub _ h).elim J.o.rS (λh=>by have:=J.o.r3;omega)
      ·rcases h with(h|h)|h
       ·exact J.o.gK h
       ·exact J.o.gM h
       ·exact(Y.o.sub _ h).elim J.o.gS (λh=>by have:=J.o.g3;omega)
     ·rw[VQN v1 rs k (by have:=HK.o;omega)]
    case measure=>
     have h1:=Jg.o;have h2:=HB.o;have h3:=Je.o;simp only[intOf];omega
   ·have Yh:k=(AV v1 rs k).length:=by
     rcases O with h|h
     ·exact absurd h hk
     ·exact h.1
    have Zj:=(cx.done Yh).2;rw[ξe (Nat.le_of_eq Yh.symm)];obtain⟨tt,Xk⟩:∃tt:Nat,(tt:Int)=c.to+AK v1 (AV v1 rs k):=⟨((c.to:Int)+AK v1 (AV v1 rs k)).toNat,by omega⟩;have Zh:tt=c.to+AC L:=Ω
    rw[<-Xk]at c2⊢;have e0:decide ((tt:Int)<(tt:Int))=false:=ζ Ω;have Xu:Xm.pl.pg=v.pl.pg:=Y.o.st.cp.sm.pg.trans Yt.o.pg;have Yu:=ι (λ(W:World) (g':Gr wr W)=>JS (Y.o.cat.vm.gr g'));rw[Xu]at Yu;have Zl:=ι (ξ Yh (ξ Zj Zh));have Jm:Hid (Rec wr (M+1) 198 [pP q,.map (some M),iI tt]):=⟨by have:=Y.o.cat.rc;rw[<-Xk]at this;exact this⟩;obtain⟨pg,Xj⟩:=ε v.pl.pg;have Xq:=ι Xj;have Zm:=Yw.af;have htp:=Yw.tp;have htpn:=Yw.tn;rw[<-Xj]at Yu Jz Zm Jw;obtain⟨q0,Xv⟩:=ε (c.fr/pg)
    have Yq:q0*pg=c.fr:=by
     have:=ζo c.fr pg;rw[Zm,ζA]at this;rw[Xv];omega
    have Yx:=ι Xv;have g1:((c.fr:Int).tdiv (pg:Int))=(q0:Int):=by rw[Xv];rfl
    have g2:((c.fr:Int)/(pg:Int))=(q0:Int):=by rw[Xv];rfl
    have hpg0:(pg:Int)≠0:=Ω
    have hq0n:q0<=524288:=by have:=ζV c.fr pg;omega
    have Jr:=ι Yq;have V:=Zc.o _ _ Y.o.t (Gr.refl _);obtain⟨u0,u1,ul⟩:=V.k2;have Jl:Hid (UmI W3 wr (AD (plus (AD S w) w1) w2) (M+1) M q r g Xm Ze tt q0 0 pg c.tp):=⟨Y.o.t,⟨Zv,Y.o.sub,Y.o.cat.vm,Y.o.cat.nK⟩,Jm.o,Y.o.rt,λi hi=>absurd hi (ζ8 _)⟩;have HHK:=ι hk;have Jv:Hid (Xm.pl.pg=pg):=⟨by rw[Xu,Xj]⟩;clear V cx fo O Xy Zp Zw Yd Jb hk Yh Zj Xk Zh Xj Xv Xu Yq Ub Yn;go_upto_region 12 with(fail);obtain⟨Sx,U⟩:=ε (λW'=>W'.cell? ⟨w.heap.size,0,none⟩=some (iI c.fr):World->Prop);have x1:∀p':AA Sx,p'.w.cell? ⟨w.heap.size,0,none⟩=some (iI c.fr):=λp=>AA.get U p;have Z:Sx wr.drew:=by rw[U];exact u0
    have Ji:=ι U;have D:Inhabited (AA Sx):=⟨⟨_,Z⟩⟩;clear U;refine BI Sx 6 [([0,1,2],3)] [4,5] Z ?_;refine AL ?_;go_wp2_with(go_at_call 129;refine(Yu.o _ (Gr.refl wr).drew).mono ?_;rintro e w5 ⟨rfl,rfl⟩);refine⟨.inr (AA.of Z),?_⟩;refine CU ?_;clear x1 Z D;clear Ji Sx;go_wp2
    go_loopw [13] (λs13 wx=>∃j:Nat,Hid (UmI W3 wx (AD (plus (AD S w) w1) w2) (M+1) M q r g Xm Ze tt q0 j pg c.tp)/\s13=iI ((q0+j:Nat):Int)) (λs13 _=>c.tp-(intOf s13).toNat*pg)
    case atStart=>exact⟨0,⟨Jl.o.gr (Gr.refl wr).drew⟩,rfl⟩
    case round=>
     obtain⟨j,HU,rfl⟩:=hrel;clear u0 u1 ul c2;obtain⟨Sj,Jd,Zb,Zx⟩:=HU.o.vm;have V:=Zc.o _ _ HU.o.t (Gr.refl _);have u1:=V.cc 1;have Yr:=JS (Zb.gr (Gr.refl wr).drew);rw[(NJ Xm q0 j).2.1,Jv.o]at Yr;have Yo:=ι Yr;have Zz:=ι Zb;have Xf:=ι (ξ Jd Zx);obtain⟨qq,Xx⟩:=ε (q0+j);obtain⟨pp,Xn⟩:=ε (qq*pg)
     have hppb:pp<=1048576:=by
      rcases ζF j with h0|h0
      ·rw[Xn,Xx,h0,ζ7,Jr.o];omega
      ·have:=HU.o.q1 (j-1) Ω;have e:pp=(q0+(j-1))*pg+pg:=by rw[Xn,Xx,show q0+j=(q0+(j-1))+1 by omega,ζP,ξl]
       omega
     have hqb:qq<=pp:=by rw[Xn];exact ψl _ Ω
     have hmul:((qq:Int)*(pg:Int))=(pp:Int):=by rw[Xn];push_cast;rfl
     have Xd:=ι (ξ Xx Xn);rw[<-Xx];clear V Yr Zb Jd Zx Xx Xn;by_cases O:pp<c.tp
     ·have e1:decide ((pp:Int)<(c.tp:Int))=true:=φ Ω;have e2:decide (pp<c.tp)=true:=φ O;have Yf:=ι O;have Jf:=ι (λ(W:World) (g':Gr wr W)=>O4 (Zz.o.gr g') (qq:Int));clear O;go_upto_region 13 with(fail);obtain⟨Sx,U⟩:=ε (λW'=>W'.cell? ⟨w.heap.size,1,none⟩=some (iI c.tp):World->Prop);have x1:∀p':AA Sx,p'.w.cell? ⟨w.heap.size,1,none⟩=some (iI c.tp):=λp=>AA.get U p;have Z:Sx wr.drew:=by rw[U];exact u1
      have D:Inhabited (AA Sx):=⟨⟨_,Z⟩⟩;clear U;refine BI Sx 7 [([0,1,4,5],2)] [3,6] Z ?_;refine AL ?_;go_wp2_with(go_at_call 129;refine Yo.o.mono ?_;rintro e w5 ⟨rfl,rfl⟩);refine⟨.inr (AA.of Z),?_⟩;refine CU ?_;clear x1 Z D;clear Sx;go_wp2_with(go_at_call 130;refine(Jf.o _ (Gr.refl wr).drew).mono ?_;rintro e w5 ⟨rfl,Xp,Zt⟩;have Xl:=ι Xp;have Ju:=ι Zt;clear Xp Zt);go_round
      case rel=>
       have Jq:=HU.o.t.size;refine⟨j+1,⟨⟨?_,⟨plus Sj wr.drew,λb hb=>?_,?_,λh=>?_⟩,?_,?_,λi hi=>?_⟩⟩,?_⟩
       ·refine(HU.o.t.trans ((Gr.refl wr).drew.touch _)).trans' Xl.o (λb hb h=>?_);exact(Xf.o.1 b h).elim (λh=>.inr (.inr h)) (λh=>by omega)
       ·rcases hb with h|h
        ·exact Xf.o.1 b h
        ·right;exact ω Jq h
       ·have:=Ju.o;rw[Xd.o.1]at this;exact this
       ·rcases h with h|h
        ·exact Xf.o.2 h
        ·have:=HU.o.rc.lt;exact absurd this (ξs h)
       ·exact(HU.o.rc.gr (Gr.refl wr).drew).touch Xl.o Xf.o.2
       ·refine(HU.o.rt.gr (Gr.refl wr).drew).touch Xl.o (λh=>?_) (λh=>?_)
        ·exact(Xf.o.1 _ h).elim J.o.rS (λh=>by have:=J.o.r3;omega)
        ·exact(Xf.o.1 _ h).elim J.o.gS (λh=>by have:=J.o.g3;omega)
       ·rcases δ i j with h|h
        ·exact HU.o.q1 i h
        ·obtain rfl:i=j:=Ω
         rw[<-Xd.o.1,<-Xd.o.2];exact Yf.o
       ·rw[show q0+(j+1)=qq+1 by rw[Xd.o.1];omega]
        go_num
      case measure=>
       have h1:=Yf.o;have h2:=Xd.o.2;simp only[intOf];rw[show ((qq:Int)+1).toNat=qq+1 by omega,β,ζP,ξl,<-h2];omega
     ·have e1:decide ((pp:Int)<(c.tp:Int))=false:=ζ Ω;have e2:decide (pp<c.tp)=false:=ζ O;have Yf:=ι O;have c2:=HU.o.rc.cc 2;have c2l:=HU.o.rc.lt;clear O;go_upto_region 13 with(fail);obtain⟨Sx,U⟩:=ε (λW'=>W'.cell? ⟨w.heap.size,1,none⟩=some (iI c.tp):World->Prop);have x1:∀p':AA Sx,p'.w.cell? ⟨w.heap.size,1,none⟩=some (iI c.tp):=λp=>AA.get U p;have Z:Sx wr.drew:=by rw[U];exact u1
      have D:Inhabited (AA Sx):=⟨⟨_,Z⟩⟩;clear U;refine BI Sx 7 [([0,1,4,5],2)] [3,6] Z ?_;refine AL ?_;go_wp2_with(go_at_call 129;refine Yo.o.mono ?_;rintro e w5 ⟨rfl,rfl⟩);refine⟨.inr (AA.of Z),?_⟩;refine CU ?_;clear x1 Z D;clear Sx;go_wp2;go_ret2;have hz3:=Ym.o.size;have Js:AB (λb=>b=g\/S b) w W3:=(((Xg.touch _).trans (Yk.mono (λi _ h=>.inr h.1))).trans (Xs.o.mono (λi _ h=>.inr h.1))).trans (Ym.o.touch _);have hE:=HE.o;rw[Yb.o]at hE;refine⟨L,Yi,?_,.inr ⟨hE.symm,?_,v1,Xm,k,j,⟨Yt.o,Xo.o.1,Xo.o.2,Zl.o.1,Y.o.st,?_,?_⟩,?_,?_⟩⟩
      ·refine(Js.trans' HU.o.t (λb hb h=>?_)).trans ((Gr.refl wr).drew.touch _);rcases h with h|h|h
       ·exact .inl h
       ·omega
       ·exact(Zr.o b h).1.elim .inr (λh=>by omega)
      ·rw[<-Zl.o.2.2];exact BT rfl rfl
      ·intro i hi;rw[<-Xq.o,<-Yx.o];exact HU.o.q1 i hi
      ·rw[<-Xq.o,<-Yx.o,<-Xd.o.1,<-Xd.o.2];have:=Yf.o;omega
      ·rw[<-Xq.o,<-Yx.o];refine(Zz.o.gr (Gr.refl wr).drew).mono (λb hb=>?_);exact(Xf.o.1 b hb).elim (λh=>(Zr.o b h).1) (λh=>.inr Ω)
      ·rw[<-Y.o.oe];exact HU.o.rt.gr (Gr.refl wr).drew
 ·have d0:(E !=0)=true:=by simpa using Ye
  go_wp2_with(go_at_call 125;refine Ys.o.mono ?_;rintro e w2 ⟨rfl,Xe,Yc⟩;have Xs:=ι Xe;have Yy:=ι Yc;clear Xe Yc);go_ret2;refine⟨L,Yi,?_,.inl ⟨?_,?_,?_,?_⟩⟩
  ·exact(((Xg.touch _).trans (Yk.mono (λi _ h=>.inr h.1))).trans (Xs.o.mono (λi _ h=>.inr h.1)))
  ·rw[<-Yb.o,<-HE.o];exact Ye
  ·rw[<-Yb.o,<-HE.o];exact BT rfl rfl
  ·have hF:CA v c.to ((c.to+nn:Nat):Int)=[]:=by unfold CA;rw[ψ (λh=>Ye (HE.o.trans h.1))]
   obtain⟨v',hg,hv⟩:=Yy.o;rw[hF]at hg;have:=Yk.size;exact⟨v',hg,hv.mono (λb hb=>hb.elim (λh=>.inl h.1) (λh=>.inr Ω))⟩
  ·exact Yv.o.touch Xs.o (λh=>I.2.1 h.1) (λh=>I.2.2 h.1)
end
def Pln(w:World)(F p n B:Nat)(base:Nat)(L:List Ob):Prop:=
 p<w.heap.size/\F<=p/\BQ B=true/\∃f,w.cell? ⟨p,0,none⟩=some (pP f)/\w.cell? ⟨p,1,none⟩=some (iI B)/\Fwd w F f n B base L
theorem Pln.gr{base:Nat}(h:Pln w F p n B base L)(g:Gr w w'):Pln w' F p n B base L:=by
 obtain⟨h1,h2,h3,f,c0,c1,hF⟩:=h;exact⟨ϑ h1 g.size,h2,h3,f,(g.cell h1 0).trans c0,(g.cell h1 1).trans c1,hF.gr g⟩
def Vkw(w:World)(n:Nat)(L:List Ob)(k b:Int)(e:Ending)(w':World):Prop:=
 Gr w w'/\(((BQ k&&GM b)=false/\e=.returned (.tuple #[.pointer none,iI 5]))\/((BQ k&&GM b)=true/\∃p B base:Nat,k=B/\b=base/\e=.returned (.tuple #[pP p,iI 0])/\Pln w' w.heap.size p n B base L))
theorem YGs{p1 b1 p2 b2:Nat}(hE:Ext w m p1 b1 p2 b2 n L)(hT:AQ w)(k b:Int)(hk:k<=9223372036854775807):Calls prog 186 #[pP m,iI k,iI b] w (Vkw w n L k b):=by
 have HT:=hT;cases hgo:(BQ k&&GM b)with
 | false=>
  go_in;go_wp2_with(go_at_call 133;refine(YD hE HT k b hk).mono ?_;rintro e w2 ⟨Y,⟨-,rfl⟩|⟨hb,-⟩⟩;rotate_left;(rw[hgo]at hb;cases hb);have U:=Y);go_ret2;exact⟨U,.inl ⟨hgo,rfl⟩⟩
 | true=>
  have HK:=(ξa.1 hgo).1;go_in;go_wp2_with(go_at_call 133;refine(YD hE HT k b hk).mono ?_;rintro e w2 ⟨Y,⟨hb,-⟩|⟨-,f,B,base,hB,J,rfl,hO⟩⟩;(rw[hgo]at hb;cases hb);have HO:=hO;have HB:=hB;have Z:=J);go_ret2;have hs:=Y.size;refine⟨Y.alloc _,.inr ⟨hgo,_,B,base,HB,Z,rfl,by simp,by omega,by rw[<-HB];exact HK,f,ζM ..,?_,HO.gr ((Gr.refl _).alloc _)⟩⟩
  simp_all
section
variable{base:Nat}
theorem UG(c0:w.cell? ⟨p,0,none⟩=some (pP f)):cQ 187 #[pP p] w (pP f):=by
 go_enter func187,ntmps187;go_wp2;go_ret
 simp_all
theorem ZE(hP:Pln w F p n B base L):BB prog 189 #[pP p] w (iI (nbl (AC L) B:Nat)):=by
 obtain⟨h1,h2,h3,f,c0,c1,hF⟩:=hP;obtain⟨hg,hn⟩:=hF.good;have hs:=GJ hg;have J:=DR h3;have HB:=h3;obtain⟨s,Y⟩:=ε (AC L);have HS:=Y.symm;rw[<-Y]at hs⊢;obtain⟨u,hu⟩:=ε ((s+B-1)/B*B);obtain⟨N,hN⟩:=ε (nbl s B)
 have hq:(u:Int)/(B:Int)=(N:Int):=by
  rw[hu,hN];unfold nbl
  grind [ψa,Int.mul_ediv_cancel]
 have hul:(u:Int)<=1049600:=by
  have:=ζn (s+B-1) B;omega
 have HU:=hu.symm;have hNl:N<=s:=by grind [NB]
 rw[<-hN];have z0:∀xs m,(grow w xs m).cell? ⟨p,0,none⟩=some (pP f):=λxs m=>((grown w xs m).cell h1 0).trans c0;have z1:∀xs m,(grow w xs m).cell? ⟨p,1,none⟩=some (iI B):=λxs m=>((grown w xs m).cell h1 1).trans c1;have hb1:(1:Int)<=(B:Int):=J.1;have hB0:((B:Int)==0)=false:=ζl.2 Ω;clear h3 hg Y hu hN J;unfold BB;go_enter func189,ntmps189;go_wp2;refine JX (by kernel_rfl) (by kernel_rfl) ?_
 repeat(go_big_quiet_step (first|(go_at_call 188;have hc:=λxs m=>Q14 (hF.gr (grown w xs m));simp only[HS]at hc;exact BB.grown_same (hc _ _))|(go_at_call 244;have hc:=λxs m=>Xnz s B (ω hs (ω hn (by decide))) HB (grow w xs m);simp only[HU]at hc;exact BB.grown_same (hc _ _))))
 refine ζb ?_;intro _ U;obtain⟨⟨xs,nq⟩,Z⟩:=U;subst Z;go_wp2;go_ret;exact⟨rfl,grown w _ _⟩
def EC(L:List Ob)(B:Nat)(k:Int):Bool:=decide (0<=k)&&decide (k<(nbl (AC L) B:Nat))
def I8(L:List Ob)(B:Nat)(base k:Int):Int:=if EC L B k then base+k*B else 0
def J2(L:List Ob)(B:Nat)(base k:Int):Int:=if EC L B k then base+min (k*B+B) (AC L:Nat)else 0
def NM(L:List Ob)(B:Nat)(k:Int):Int:=if EC L B k then 0 else 11
theorem PD{base k:Int}(h:EC L B k=false):I8 L B base k=0/\J2 L B base k=0/\NM L B k=11:=by unfold I8 J2 NM;simp_all
theorem O8{base k:Int}(h:EC L B k=true):I8 L B base k=base+k*B/\J2 L B base k=base+min (k*B+B) (AC L:Nat)/\NM L B k=0:=by unfold I8 J2 NM;simp_all
theorem XyY{k:Int}(h:k<0\/((nbl (AC L) B:Nat):Int)<=k):EC L B k=false:=by
 unfold EC
 grind
theorem QC8(hB:1<=B)(h:EC L B j=true):j*B<AC L:=by
 unfold EC at h;simp at h
 grind [JU]
theorem WV(hP:Pln w F p n B base L)(k:Int):BB prog 210 #[pP p,iI k] w (.tuple #[iI (I8 L B base k),iI (J2 L B base k),iI (NM L B k)]):=by
 have HP:=hP;obtain⟨h1,h2,h3,f,c0,c1,hF⟩:=hP;obtain⟨hg,hn⟩:=hF.good;have hs:=GJ hg;have Xb:=DR h3;have hbs:=hF.2.2.1;obtain⟨N,hN⟩:=ε (nbl (AC L) B);have HN:=hN.symm;unfold BB;by_cases Xc:k<0
 ·have E:=(PD (base:=base) (XyY (L:=L) (B:=B) (.inl Xc)));rw[E.1,E.2.1,E.2.2];go_enter func210,ntmps210;go_wp2
  go_ret3
  exact⟨rfl,Gr.refl _⟩
 ·obtain⟨j,rfl⟩:∃j:Nat,k=j:=⟨k.toNat,by omega⟩;by_cases hk1:N<=j
  ·have E:=(PD (base:=base) (XyY (L:=L) (B:=B) (k:=j) (.inr Ω)));rw[E.1,E.2.1,E.2.2];clear hN;go_enter func210,ntmps210;go_wp2_with(go_at_call 189;refine Qa (ZE HP) λw1 Y=>?_;rw[HN])
   go_ret3
   exact⟨rfl,Y⟩
  ·have O:EC L B j=true:=by unfold EC;rw[<-hN];simp;omega
   have Xa:=QC8 Ω O;have E:=(O8 (base:=base) O);rw[E.1,E.2.1,E.2.2];obtain⟨t,ht⟩:=ε (j*B);have Z:(j:Int)*(B:Int)=(t:Int):=by rw[ht];push_cast;rfl
   rw[<-ht]at Xa;rw[Z];obtain⟨s,I⟩:=ε (AC L);have HS:=I.symm;rw[<-I]at hs Xa⊢;have w1:IntKind.i64.wrap ((j:Int)*(B:Int))=(t:Int):=by rw[Z];exact ζp _ Ω
   have w2:IntKind.i64.wrap ((base:Int)+(t:Int))=(base:Int)+(t:Int):=ζp _ Ω;have w3:IntKind.i64.wrap ((base:Int)+(t:Int)+(B:Int))=(base:Int)+(t:Int)+(B:Int):=ζp _ Ω
   have hmin:∀w',(Builtin.min_ #[3,3] 3 #[iI ((base:Int)+(t:Int)+(B:Int)),iI ((base:Int)+(s:Int))]).run prog w'=.ok (iI ((base:Int)+min ((t:Int)+(B:Int)) (s:Int))) w':=λw'=>by
    rw[TU];rw[show min ((base:Int)+(t:Int)+(B:Int)) ((base:Int)+(s:Int))=(base:Int)+min ((t:Int)+(B:Int)) (s:Int)by omega]
   clear hN I ht O Xb Z;go_enter func210,ntmps210;go_wp2_with(go_at_call 189;refine Qa (ZE HP) λw1 Y=>?_;rw[HN])
   rename World=>wz
   have z0:∀xs m,(grow wz xs m).cell? ⟨p,0,none⟩=some (pP f):=λxs m=>((Y.trans (grown wz xs m)).cell h1 0).trans c0;have z1:∀xs m,(grow wz xs m).cell? ⟨p,1,none⟩=some (iI B):=λxs m=>((Y.trans (grown wz xs m)).cell h1 1).trans c1;refine JX (by kernel_rfl) (by kernel_rfl) ?_
   repeat(go_big_quiet_step ((go_at_call 263;have hc:=λxs m=>JwE (hF.gr (Y.trans (grown wz xs m)));exact BB.grown_same (hc _ _))))
   refine ζb ?_;intro _ V;obtain⟨⟨xs,nq⟩,J⟩:=V;subst J;obtain⟨wy,D⟩:=ε (grow wz xs nq);have U:=(show Gr w wy from by rw[D];exact Y.trans (grown _ _ _));have y0:∀xs m,(grow wy xs m).cell? ⟨p,0,none⟩=some (pP f):=λxs m=>((U.trans (grown wy xs m)).cell h1 0).trans c0;have y1:∀xs m,(grow wy xs m).cell? ⟨p,1,none⟩=some (iI B):=λxs m=>((U.trans (grown wy xs m)).cell h1 1).trans c1;rw[<-D];clear D z0 z1;go_wp2;refine JX (by kernel_rfl) (by kernel_rfl) ?_
   repeat(go_big_quiet_step ((go_at_call 134;have hc:=λxs m=>OR (hF.gr (U.trans (grown wy xs m)));simp only[HS]at hc;exact BB.grown (hc _ _))))
   refine ζb ?_;intro _ V;obtain⟨⟨ys,mq⟩,J⟩:=V;subst J;go_wp2
   go_ret3
   exact⟨rfl,U.trans (grown wy _ _)⟩
end
end Go.Proofs.YtcihfnpokdbfpaaGreatDoor
