/- Part 6 of what ListPlays leans on: my own lemmas, merged by shake.py. -/
import Derived.Test.YteihjlcmjecmfaaGreatDoorListPlaysE
import Derived.Deep.LoopGhost
namespace Go.Proofs.YteihjlcmjecmfaaGreatDoor
open _root_.Go.Proofs.Tryz
set_option maxHeartbeats 6400000
set_option maxRecDepth 100000
open Go.RowKit
section
variable {F:Fence} {n:Nat} {P:Program}
def UX(K:Nat){σ α:Type}(F:Fence)(n:Nat)(P:Program)(g:Nat)(lb:Array Value)(encs:α->Array Value)(Inv:σ->World->Prop)(gives:σ->α->Prop)(next:σ->α->σ->Prop)(fin:σ->Prop)(s0:σ)(w:World):Prop:=
 ∀(l:Nat) (J:σ->World->Prop) (Jx:World->Prop) (W:World),Gr w W->(∀s A B,J s A->AB (λk=>W.heap.size<=k/\k<W.heap.size+K) A B->J s B)->(∀A B,Jx A->AB (λk=>W.heap.size<=k/\k<W.heap.size+K) A B->Jx B)->(∀s A,J s A->Inv s A) →
  (∀s x W1,J s W1->W.heap.size+K<=W1.heap.size->gives s x->YieldAt F (n-1) P l (encs x) W1 λe W'=>((e=.returned (.bool true)/\∃s',next s x s'/\J s' W')\/(e=.returned (.bool false)/\Jx W'))/\AB (λk=>k<W.heap.size\/W.heap.size+K<=k) W1 W') →
  J s0 W->CallsIn F n P g (#[.func (.yield l) #[] #[]]++lb) W λe W'=>(∃v,e=.returned v)/\((∃s,fin s/\J s W')\/Jx W')
def Y3E{σ α:Type}(B K:Nat)(I:σ->World->Prop)(Ix:Code->World->Prop)(next:σ->α->σ->Prop)(s:σ)(x:α)(W:World):Exit->Act->World->Prop
 | .normal,_,W'=>AB (λk=>k<B\/B+K<=k) W W'/\∃s',next s x s'/\I s' W'
 | .ret,_,W'=>AB (λk=>k<B\/B+K<=k) W W'/\Ix .ret W'
 | .exit id,_,W'=>AB (λk=>k<B\/B+K<=k) W W'/\Ix (.exit id) W'
 | .goto t,_,W'=>AB (λk=>k<B\/B+K<=k) W W'/\Ix (.goto t) W'
 | _,_,_=>False
theorem MY.toU{σ α:Type}{g:Nat}{lb:Array Value}{encs:α->Array Value}{Inv:σ->World->Prop}{gives:σ->α->Prop}{next:σ->α->σ->Prop}{fin:σ->Prop}{s0:σ}{w:World}(h:MY F n P g lb encs Inv gives next fin s0 w):UX 0 F n P g lb encs Inv gives next fin s0 w:=by
 intro l J Jx W hg hJ Z hI hY h0;refine h l (λs A=>J s A/\W.heap.size<=A.heap.size) Jx W hg (λs A B hs hAB=>⟨hJ s A B hs.1 (hAB.touch _),ζa hs.2 hAB.size⟩) (λA B hs hAB=>Z A B hs (hAB.touch _)) (λs A hs=>hI s A hs.1) ?_ ⟨h0,π _⟩ |>.mono ?_
 ·rintro s x W1 ⟨hs,Y⟩ hx;refine(hY s x W1 hs Y hx).mono ?_;rintro e W' ⟨⟨he,s',hn,U⟩|⟨he,hx'⟩,ht⟩
  ·exact .inl ⟨he,s',hn,U,ζa Y ht.size⟩
  simp_all
 grind
theorem LQ{σ α:Type}{g:Operand}{ps:Array Tmp}{assign body:Code}{Q:Exit->Act->World->Prop}{a:Act}{w:World}
  (hro:F.round=none) (h1:1<=n) {gf:Nat} {lb:Array Value} (hg:a.eval g=.func (.func gf) #[] lb) (hFg:F.fn gf) (eg:∀args w,(callFunc gf args).run P w=.ok (.enter gf args) w)
  {encs:α->Array Value} {Inv:σ->World->Prop} {gives:σ->α->Prop} {next:σ->α->σ->Prop} {fin:σ->Prop} {s0:σ} {K:Nat} (hseq:UX K F (n-1) P gf lb encs Inv gives next fin s0 w)
  (hps:∀x,(encs x).size=ps.size)
  (I:σ->World->Prop) (Ix:Code->World->Prop) (hI:∀s A B,I s A->AB (λk=>w.heap.size<=k/\k<w.heap.size+2+K) A B->I s B) (hIx:∀c A B,Ix c A->AB (λk=>w.heap.size<=k/\k<w.heap.size+2+K) A B->Ix c B)
  (hInv:∀s A,I s A->Inv s A) (h0:I s0 w)
  (hround:∀(l:Nat) (s:σ) (x:α) (W:World),w.heap.size+2+K<=W.heap.size->I s W->gives s x →
   assign.wpIn (F.inRound l) (n-1-1) P (Exit.then (λa' Wa=>Gr W Wa/\∀W2,AB (λk=>k=w.heap.size+1) Wa W2->I s W2->body.wpIn (F.inRound l) (n-1-1) P (Y3E w.heap.size (2+K) I Ix next s x W2) a' W2) (λ_ _ _=>False))
    {tmps:=(ps.zip (encs x)).foldl (λt (p,v)=>t.setIfInBounds p v) a.tmps,defers:=[]} W)
  (hdone:∀(D:Nat) (s:σ) (W:World),D=w.heap.size->fin s->I s W->W.heap[D]?=some (.deferred (some []))->Q .normal {a with defers:={target:=.collected D,args:=#[]} :: a.defers} W)
  (hstop:∀(D:Nat) (c:Code) (W:World),D=w.heap.size->Ix c W->W.heap[D]?=some (.deferred (some []))->c.wpIn F n P Q {a with defers:={target:=.collected D,args:=#[]} :: a.defers} W):
  (Code.rangeFunc g ps assign body).wpIn F n P Q a w:=by
 refine wpIn_rangeFunc ?_;intro fn Xo;rw[hro];obtain⟨Z,U⟩:∃Z:LoopState->Option Code->Loop,Z=λst pe=>{state:=st,pending:=pe,fn,tmps:=a.tmps,params:=ps,assign,body,defers:=w.heap.size}:=⟨_,rfl⟩;obtain⟨W1,Xc⟩:∃W1,(w.alloc (.deferred (some []))).alloc (.loop (Z .ready none))=W1:=⟨_,rfl⟩
 have Xm:W1.heap[w.heap.size+1]?=some (.loop (Z .ready none)):=by
  rw[<-Xc];have:=ξE (w.alloc (.deferred (some []))) (.loop (Z .ready none));rwa [γ]at this
 have Xk:W1.heap[w.heap.size]?=some (.deferred (some [])):=by
  rw[<-Xc];exact(Below.heap_alloc _ _ _ (by simp)).trans (ξE w _)
 have Xh:Gr w W1:=by rw[<-Xc];exact((Gr.refl w).alloc _).alloc _
 have tt:∀{A B:World},Gr A B->AB (λk=>w.heap.size<=k/\k<w.heap.size+2+K) A B:=λh=>h.touch _;have Y:∀{A:World} {k:Nat} {o:Obj},A.heap[k]?=some o->k<A.heap.size:=λh=>(ζn.1 h).1
 refine⟨w.heap.size+1,[{target:=.collected w.heap.size,args:=#[]}],W1,{target:=.fn (.func gf) lb,args:=#[.func (.yield (w.heap.size+1)) #[] #[]]},W1,gf,
  #[.func (.yield (w.heap.size + 1)) #[] #[]] ++ lb, W1, ?_, ?_, ?_, ?_, λ_ => h1, ?_⟩
 ·rw[<-Xc,U];exact run_enterLoop_outer _ _ _ _ _
 ·simp only[resolve,hg];simp[go_sem]
 ·intro f' Xi;simp[Target.leads]at Xi;subst Xi;exact hFg
 ·simp[invoke,go_sem,eg]
 ·have hs1:W1.heap.size=w.heap.size+2:=by rw[<-Xc];simp
  refine(hseq (w.heap.size+1)
   (λs W=>I s W/\W.heap[w.heap.size+1]?=some (.loop (Z .ready none))/\W.heap[w.heap.size]?=some (.deferred (some [])))
   (λW=>∃c,Ix c W/\W.heap[w.heap.size+1]?=some (.loop (Z .done (some c)))/\W.heap[w.heap.size]?=some (.deferred (some [])))
   W1 Xh
   (λs A B hs ht=>⟨hI s A B hs.1 (ht.mono (λk _ h=>by omega)),(ht.block _ (Y hs.2.1) Ω).trans hs.2.1,(ht.block _ (Y hs.2.2) Ω).trans hs.2.2⟩)
   (λA B hs ht=>by
    obtain⟨c,hc,hl,hk⟩:=hs
    exact⟨c,hIx c A B hc (ht.mono (λk _ h=>by omega)),(ht.block _ (Y hl) Ω).trans hl,(ht.block _ (Y hk) Ω).trans hk⟩)
   (λs A hs=>hInv s A hs.1) ?_ ⟨hI _ _ _ h0 (tt Xh),Xm,Xk⟩).mono ?_
  ·rintro s x W ⟨hi,hl,hk⟩ hszW Xn;have Xe:w.heap.size+1<W.heap.size:=Y hl;have hy:=run_yield (P:=P) (args:=encs x) hl (by rw[U];exact hps x);rw[U]at hy;refine⟨fn,_,assign,body,hy,roundIn_of_wpIn Xo (wpIn_mono (hround _ s x W Ω hi Xn) ?_)⟩;rintro e a' Wa hp;cases e with
   | normal=>?_
   | _=>exact False.elim hp
   obtain⟨Xb,E⟩:=hp
   replace hl:=(Xb.block Xe).trans hl
   replace hk:=(Xb.block Ω).trans hk
   replace Xe:=Y hl
   replace hi:=hI _ _ _ hi (tt Xb)
   revert E Xb;generalize W=W0;intro Xb E;obtain⟨W,rfl⟩:∃W,W=Wa:=⟨_,rfl⟩;refine⟨_,run_beginRound hl (by rw[U]),?_⟩;have Xj:(W.putObj (w.heap.size+1) (.loop {Z .ready none with state:=.busy})).heap[w.heap.size+1]?=some (.loop {Z .ready none with state:=.busy}):=ξy Xe;have Xf:(W.putObj (w.heap.size+1) (.loop {Z .ready none with state:=.busy})).heap[w.heap.size]?=some (.deferred (some [])):=(ζp Ω).trans hk;refine wpIn_mono (E _ ⟨rfl,rfl,rfl,by simp,λk _ hn=>ζp hn⟩ (hI _ _ _ hi ((DU W (w.heap.size+1) _).mono (λk _ h=>by omega)))) ?_
   have fin:∀(jump:Option Code) (W3:World),AB (λk=>k<w.heap.size\/w.heap.size+(2+K)<=k) (W.putObj (w.heap.size+1) (.loop {Z .ready none with state:=.busy})) W3 →
     (Instr.endRound (w.heap.size+1) jump).run P W3=.ok (.bool jump.isNone) (W3.putObj (w.heap.size+1) (.loop (Z (if jump.isNone then .ready else .done) jump))) ∧
     (W3.putObj (w.heap.size+1) (.loop (Z (if jump.isNone then .ready else .done) jump))).heap[w.heap.size+1]?=some (.loop (Z (if jump.isNone then .ready else .done) jump)) ∧
     (W3.putObj (w.heap.size+1) (.loop (Z (if jump.isNone then .ready else .done) jump))).heap[w.heap.size]?=some (.deferred (some [])):=λjump W3 J=>by
    have Xg:=(J.block _ (Y Xj) Ω).trans Xj;have:=run_endRound (P:=P) jump Xg;rw[U]at this⊢;exact⟨this,ξy (Y Xg),(ζp Ω).trans ((J.block _ (Y Xf) Ω).trans Xf)⟩
   have Xd:∀(o:Obj) (W3:World),AB (λk=>k<w.heap.size\/w.heap.size+(2+K)<=k) (W.putObj (w.heap.size+1) (.loop {Z .ready none with state:=.busy})) W3->AB (λk=>k<W1.heap.size\/W1.heap.size+K<=k) W0 (W3.putObj (w.heap.size+1) o):=λo W3 h3=>
    (((Xb.touch _).trans ((DU W (w.heap.size+1) _).mono (λk _ h=>by omega))).trans (h3.mono (λk _ h=>by omega))).trans ((DU W3 (w.heap.size+1) o).mono (λk _ h=>by omega))
   rintro e a3 W3 hp;cases e with
   | normal=>
    obtain⟨J,s',Xl,Xa⟩:=hp;obtain⟨hr,O,V⟩:=fin none W3 J;exact⟨_,_,hr,.inl ⟨rfl,s',Xl,hI _ _ _ Xa ((DU W3 (w.heap.size+1) _).mono (λk _ h=>by omega)),O,V⟩,Xd _ _ J⟩
   | ret=>
    obtain⟨J,Xa⟩:=hp;obtain⟨hr,O,V⟩:=fin (some .ret) W3 J;exact⟨_,_,hr,.inr ⟨rfl,.ret,hIx _ _ _ Xa ((DU W3 (w.heap.size+1) _).mono (λk _ h=>by omega)),O,V⟩,Xd _ _ J⟩
   | exit id=>
    obtain⟨J,Xa⟩:=hp;obtain⟨hr,O,V⟩:=fin (some (.exit id)) W3 J;exact⟨_,_,hr,.inr ⟨rfl,.exit id,hIx _ _ _ Xa ((DU W3 (w.heap.size+1) _).mono (λk _ h=>by omega)),O,V⟩,Xd _ _ J⟩
   | goto t=>
    obtain⟨J,Xa⟩:=hp;obtain⟨hr,O,V⟩:=fin (some (.goto t)) W3 J;exact⟨_,_,hr,.inr ⟨rfl,.goto t,hIx _ _ _ Xa ((DU W3 (w.heap.size+1) _).mono (λk _ h=>by omega)),O,V⟩,Xd _ _ J⟩
   | panic ch=>exact hp.elim
   | outgrown=>exact hp.elim
  ·rintro e W2 ⟨⟨v,rfl⟩,(⟨s,hS,hi,hl,hk⟩|⟨c,hi,hl,hk⟩)⟩
   ·exact⟨none,_,by have:=run_endLoop (P:=P) hl (by rw[U];simp);rw[U]at this;exact this,hdone _ s _ rfl hS (hI _ _ _ hi ((DU W2 (w.heap.size+1) _).mono (λk _ h=>by omega))) ((ζp Ω).trans hk)⟩
   ·exact⟨some c,_,by have:=run_endLoop (P:=P) hl (by rw[U];simp);rw[U]at this;exact this,hstop _ c _ rfl (hIx _ _ _ hi ((DU W2 (w.heap.size+1) _).mono (λk _ h=>by omega))) ((ζp Ω).trans hk)⟩
end
open Go.Shelf Word
section
attribute [local go_sem] Oper.semAt_some
theorem OO(n':Nat)(box m p1 b1 p2 b2 n:Nat)(L:List Ob)(w:World):
  UX 4 Fence.wide n' prog 173 #[pP box] GQ (Zxj box m p1 b1 p2 b2 n L) (EQ L) (λj _ j'=>j'=j+1) (λj=>j=L.length) 0 w:=by
 intro l J Jx W hg hJ Xm hI hY h0;refine β.2 ((β (n:=5)).1 ?_);refine callsIn_of_wp_marks func173 rfl trivial ?_ rfl;have I:=hI _ _ h0;have c0:=I.2.2.1;have k0:=I.1.c0;have Xw:=h0;have Xo:=hI;simp only[ntmps173,ζV,ζH,ζ7,Nat.reduceAdd,Nat.reduceSub,ζL,ζK,ζZ,ζQ,ζN,ζu];have hbox:box<W.heap.size:=AV c0;have hmw:=I.1.hm
 gi_wp2_with(first
  | (refine⟨trivial,?_⟩;gi_at_call 138;refine(β.2 (DS (I.1.gr ((Gr.refl W).alloc _)))).mono ?_;rintro e w1 ⟨rfl,rfl⟩)
  | (refine⟨trivial,?_⟩;gi_at_call 174;refine(β.2 (Xig (some ⟨p1,0,none⟩))).mono ?_;rintro e w1 ⟨rfl,rfl⟩))
 obtain⟨W0,E⟩:∃W0,W0=(W.alloc (.cells #[.func (.yield l) #[] #[]] 250)).alloc (.cells #[.pointer (some ⟨p1,0,none⟩)] 163):=⟨_,rfl⟩;have Yb:Gr W W0:=by rw[E];exact((Gr.refl W).alloc _).alloc _
 have hsz0:W0.heap.size=W.heap.size+2:=by rw[E];simp
 have bY:W0.cell? ⟨W.heap.size,0,none⟩=some (.func (.yield l) #[] #[]):=by rw[E];exact((Boxed.new W _ _).alloc _).cell
 have bV:W0.cell? ⟨W.heap.size+1,0,none⟩=some (pP p1):=by
  rw[E];have:=Boxed.new (W.alloc (.cells #[.func (.yield l) #[] #[]] 250)) 163 (pP p1);rw[γ]at this;exact this.cell
 rw[<-E];have Y:=I.1.good;have hnb:=I.1.nb;have Xp:J 0 W0:=hJ _ _ _ Xw (Yb.touch _);have Xt:BA L ((0:Nat):Int)=0:=L5 (ζe _) (λi hi h=>by omega) (λh=>by omega)
 have tI:∀s A B,MC n L J W.heap.size (W.heap.size+1) p1 (.func (.yield l) #[] #[]) s A->AB (λk=>W0.heap.size<=k/\k<W0.heap.size+2+0) A B->MC n L J W.heap.size (W.heap.size+1) p1 (.func (.yield l) #[] #[]) s B:=λs A B h t=>
  ⟨h.st,h.ps,by obtain⟨j,hj,e⟩:=h.j;exact⟨j,hJ _ _ _ hj (t.mono (λk _ h=>by omega)),e⟩,(t.cell (AV h.y) (by show ¬(W0.heap.size<=W.heap.size/\_);omega) 0).trans h.y,(t.cell (AV h.v) (by show ¬(W0.heap.size<=W.heap.size+1/\_);omega) 0).trans h.v⟩
 refine LQ (K:=0) (s0:=(BZ n L,0)) rfl Ω (gf:=208) (lb:=#[pP (W.heap.size+1)]) rfl trivial (enters_of func208 (by kernel_rfl) rfl)
  (ZNp _ (W.heap.size+1) p1 b1 n (BZ n L) _).toU (λ_=>rfl)
  (MC n L J W.heap.size (W.heap.size+1) p1 (.func (.yield l) #[] #[])) (λc A=>c=.ret/\Jx A) tI (λc A B h t=>⟨h.1,Xm _ _ h.2 (t.mono (λk _ h=>by omega))⟩)
  (λs A h=>by
   obtain⟨j,hj,-⟩:=h.j;have hi:=Xo _ _ hj
   exact⟨by rw[h.st];exact hi.1.v1,by rw[h.st,IL],hi.2.1,h.v,h.ps⟩)
  ⟨rfl,ζe _,⟨0,Xp,Xt⟩,bY,bV⟩ ?round ?done ?stop
 case round=>
  intro lp s x W3 hsz3 Xg Xy;gi_wp2;refine⟨Gr.refl _,λW4 ht4 hI4=>?_⟩;obtain⟨O,Xq,⟨j,hj,U⟩,hy,hv⟩:=hI4;obtain⟨hx,Xn⟩:=Xy;have Xb:=Xo _ _ hj;rw[O]at hx Xn
  have Z:j<L.length:=by
   rcases ω j L.length with h|h
   ·exact h
   ·have:=WE Y (a:=(s.2:Int)) (by rw[U];omega);omega
  have Xz:x=L[j].1:=by
   have:=(NF Y (a:=(s.2:Int)) (by rw[U];exact Z)).1;rw[hx,this];congr 2
  subst Xz;have Xv:J j W4.drew:=hJ _ _ _ hj ((Gr.refl W4).drew.touch _);have Xk:W.heap.size+4<=W4.drew.heap.size:=by have:=ht4.size;show W.heap.size+4<=W4.heap.size;omega
  obtain⟨fn,tmps,assign,body,Xx,hR⟩:=ZVe (m':=2) (l2:=lp) (hY j L[j] W4.drew Xv Xk (ζb Z));have HZ:=(QC (Xb.1.gr (Gr.refl W4).drew) ((Gr.refl W4).drew.tab Xb.2.1.lt Xb.2.1) Z);have cbx:=Xb.2.2.1;have HS:=(ϑ O (ϑ U Z));clear O U hj Xb hx Xn Xg;dsimp only[GQ]at Xx
  have Xr:=hR.mono (R':=λe W'=>∃bb:Bool,e=.returned (.bool bb)/\((bb=true/\J (j+1) W')\/(bb=false/\Jx W'))/\AB (λk=>k<W.heap.size\/W.heap.size+4<=k) W4.drew W') (by
   rintro e W' ⟨⟨he,s',rfl,Ya⟩|⟨he,hx⟩,ht⟩
   ·exact⟨true,he,.inl ⟨rfl,Ya⟩,ht⟩
   ·exact⟨false,he,.inr ⟨rfl,hx⟩,ht⟩)
  clear hR;gi_wp2;obtain⟨Sx,Xd⟩:∃S:World->Prop,S=λA=>A.cell? ⟨W.heap.size,0,none⟩=some (.func (.yield l) #[] #[]):=⟨_,rfl⟩;have x1:∀p:AA Sx,p.w.cell? ⟨W.heap.size,0,none⟩=some (.func (.yield l) #[] #[]):=λp=>AA.get Xd p;have Xa:Sx W4.drew:=by rw[Xd];exact hy
  have Xh:=ι Xd;clear Xd;have Xi:Inhabited (AA Sx):=⟨⟨_,Xa⟩⟩;refine GB Sx 7 [([0,1,3],2),([],4),([],5)] [6] (λ_=>trivial) (by kernel_rfl) (by kernel_rfl) Xa ?_;refine C4 ?_;simp only[AC,ζ,ξ]
  repeat(go_big_quiet_step (fail))
  refine ψ ?_;gi_wp2;refine⟨.inr (AA.of Xa),?_⟩;refine C4 ?_;simp only[AC,ζ,ξ];refine ψ ?_;gi_wp2_with(refine⟨trivial,?_⟩;gi_at_call 175;refine(CallsIn.inRound lp (β.2 HZ)).mono ?_;rintro e w' ⟨rfl,rfl⟩);refine⟨.inr (AA.of Xa),?_⟩;refine C4 ?_;simp only[AC,ζ,ξ];refine ψ ?_;gi_wp2;refine Xr.mono ?_;rintro e W5 ⟨bb,rfl,Xe,Xc⟩;have Xj:=(Xc.cell (AV hy) (by show ¬(W.heap.size<W.heap.size\/W.heap.size+4<=W.heap.size);omega) 0).trans hy;have Xs:=(Xc.cell (AV hv) (by show ¬(W.heap.size+1<W.heap.size\/W.heap.size+4<=W.heap.size+1);omega) 0).trans hv;gi_wp2;refine⟨.inr (AA.of (by rw[Xh.o];exact Xj)),?_⟩;refine GE ?_;simp only[AC,ζ,ξ]
  repeat(go_big_quiet_step (fail))
  refine ψ ?_;refine τ ?_;have T5:=(((Gr.refl W4).drew.touch (λk=>k<W0.heap.size\/W0.heap.size+(2+0)<=k)).trans (Xc.mono (λk _ h=>by omega)));have Xu:=(Y.sz _ (χ Z));clear x1 Xa Xh Xi Xr Xc;clear Sx;cases bb with
  | true=>
   have Xf:J (j+1) W5:=by
    rcases Xe with⟨_,h⟩|⟨h,_⟩
    ·exact h
    ·cases h
   clear Xe;gi_wp2;exact⟨T5,(BZ n L,L[j].1+1),rfl,rfl,by have:=Xu;show L[j].1+1<=n;omega,⟨j+1,Xf,by have:=ZjB Y Z;push_cast;exact this⟩,Xj,Xs⟩
  | false=>
   have Xf:Jx W5:=by
    rcases Xe with⟨h,_⟩|⟨_,h⟩
    ·cases h
    ·exact h
   clear Xe;gi_wp2;exact⟨T5,rfl,Xf⟩
 case done=>
  rintro D s W3 hD V Xg hK;obtain⟨O,Xq,⟨j,hj,U⟩,hy,hv⟩:=Xg
  have Z:¬j<L.length:=λh=>by
   have:=NF Y (a:=(s.2:Int)) (by rw[U];exact h);unfold UG at V;rw[O]at V;exact V this.2
  have Xl:j=L.length:=by have:=N6 L (s.2:Int);omega
  have HE:=(ϑ Xl hj);have HD:=hD;clear O Xq U hy hv V Xl hj hD Z;gi_wp2;refine⟨by simp,.inl ⟨_,_,rfl,run_takeDeferred hK,?_⟩⟩;refine⟨.tuple #[],ζl rfl _ _ _,⟨_,rfl⟩,.inl ⟨j,HE.1,hJ _ _ _ HE.2 ((DU W3 D _).mono (λk _ h=>by have:=HD;omega))⟩⟩
 case stop=>
  rintro D c W3 hD ⟨rfl,hx⟩ hK;have hK:=hK;have HD:=hD;clear hK hD;gi_wp2;refine⟨by simp,.inl ⟨_,_,rfl,run_takeDeferred hK,?_⟩⟩;refine⟨.tuple #[],ζl rfl _ _ _,⟨_,rfl⟩,.inr (Xm _ _ hx ((DU W3 D _).mono (λk _ h=>by have:=HD;omega)))⟩
end
structure MkC where
 k:Nat
 z:Sp
 m:Nat
 p1:Nat
 b1:Nat
 p2:Nat
 b2:Nat
 n:Nat
 g:Nat
 R:Nat
 wk:Nat
 B:Nat
def MkC.T(c:MkC)(G:Nat->Prop)(i:Nat):Prop:=i=c.k\/AM c.m c.b1 c.b2 i\/G i
structure DG(c:MkC)(SV G SW:Nat->Prop):Prop where
 sv':∀i,SV i->i<c.B/\¬c.T G i
 sw':∀i,SW i->i<c.B/\¬c.T G i
 tab':1<c.B/\¬c.T G 1
 p1':c.p1<c.B/\¬c.T G c.p1
 p2':c.p2<c.B/\¬c.T G c.p2
 k1:¬AM c.m c.b1 c.b2 c.k
 k2:¬G c.k
 kB:c.k<c.B
 mg:∀i,AM c.m c.b1 c.b2 i->¬G i
 mB:∀i,AM c.m c.b1 c.b2 i->i<c.B
 sd':∀i,c.z.D i->i<c.B/\¬c.T G i
section
variable {c:MkC} {SV G SW:Nat->Prop}
theorem DG.sv(h:DG c SV G SW):∀i,SV i->¬c.T G i:=λi hi=>(h.sv' i hi).2
theorem DG.sw(h:DG c SV G SW):∀i,SW i->¬c.T G i:=λi hi=>(h.sw' i hi).2
theorem DG.sd(h:DG c SV G SW):∀i,c.z.D i->¬c.T G i:=λi hi=>(h.sd' i hi).2
theorem MkC.vm(hz:c.z.Ok)(hs:DG c SV G SW){v:Vm}{T':Nat->Prop}{w w':World}(h:c.z.I v SV w)(t:AB T' w w')(hT:∀i,T' i->c.T G i):c.z.I v SV w':=hz.fr h t (λk _ hk=>⟨λh=>hs.sv k h (hT k hk),λh=>hs.sd k h (hT k hk)⟩) (λ_ h=>h)
theorem DG.tab(h:DG c SV G SW):¬c.T G 1:=h.tab'.2
theorem DG.p1(h:DG c SV G SW):¬c.T G c.p1:=h.p1'.2
theorem DG.p2(h:DG c SV G SW):¬c.T G c.p2:=h.p2'.2
theorem DG.plus(h:DG c SV G SW){w:World}(hw:c.B<=w.heap.size):DG c SV (plus G w) SW:=by
 have Y:∀i,i<c.B/\¬c.T G i->i<c.B/\¬c.T (Go.Proofs.YteihjlcmjecmfaaGreatDoor.plus G w) i:=λi hi=>⟨hi.1,λht=>by
  rcases ht with h1|h1|h1|h1
  ·exact hi.2 (.inl h1)
  ·exact hi.2 (.inr (.inl h1))
  ·exact hi.2 (.inr (.inr h1))
  ·omega⟩
 exact⟨λi hi=>Y i (h.sv' i hi),λi hi=>Y i (h.sw' i hi),Y _ h.tab',Y _ h.p1',Y _ h.p2',h.k1,λh1=>h1.elim h.k2 (λh2=>by have:=h.kB;omega),h.kB,λi hi h1=>h1.elim (h.mg i hi) (λh2=>by have:=h.mB i hi;omega),h.mB,λi hi=>Y i (h.sd' i hi)⟩
end
def JC(c:MkC)(L:List Ob)(r vi:Int):List Value:=[c.z.v,pP c.m,pP c.g,pP c.wk,iI (L.length:Nat),iI (sizes L:Nat),iI r,iI vi]
structure A8(w:World)(SV G SW:Nat->Prop)(c:MkC)(v:Vm)(s:MkS)(r vi:Int):Prop where
 vm:c.z.I v SV w
 ext:Ext w c.m c.p1 c.b1 c.p2 c.b2 c.n s.L
 stk:B7 w G c.g s.st c.R s.lost
 wk:CU w SW c.wk c.z.v []
 row:Rec w c.k 174 (JC c s.L r vi)
 tab:AP w
 sep:DG c SV G SW
 bB:c.B<=w.heap.size
 zk:c.z.Ok/\¬c.z.M
theorem A8.gr{w w':World}{SV G SW:Nat->Prop}{c:MkC}{v:Vm}{s:MkS}{r vi:Int}(h:A8 w SV G SW c v s r vi)(g:Gr w w'):A8 w' SV G SW c v s r vi:=
 ⟨h.zk.1.gr h.vm g,h.ext.gr g,h.stk.gr g,h.wk.gr g,h.row.gr g,g.tab h.tab.lt h.tab,h.sep,ζa h.bB g.size,h.zk⟩
theorem A8.set{w:World}{SV G SW:Nat->Prop}{c:MkC}{v:Vm}{s:MkS}{r vi:Int}(h:A8 w SV G SW c v s r vi){j:Nat}{u:Value}{r' vi':Int}(hj:(JC c s.L r vi).set j u=JC c s.L r' vi'):A8 (w.setCell ⟨c.k,j,none⟩ u) SV G SW c v s r' vi':=by
 have t:AB (λi=>i=c.k) w (w.setCell ⟨c.k,j,none⟩ u):=(AB.refl (λi=>i=c.k) w).setCell (a:=⟨c.k,j,none⟩) (λ_=>rfl) u;have hs:=h.sep;refine⟨MkC.vm h.zk.1 hs h.vm t (λi e=>.inl e),?_,h.stk.touch t (λi hi _ e=>hs.k2 (e▸hi)),h.wk.touch t (λi hi _ e=>hs.sw i hi (.inl e)),hj▸h.row.set j u,t.tab h.tab.lt (λe=>hs.tab (.inl e)) h.tab,hs,ζa h.bB t.size,h.zk⟩;exact h.ext.touch t (λe=>hs.k1 (e▸.inl rfl)) (λe=>hs.p1 (.inl e)) (λe=>hs.k1 (e▸.inr (.inl rfl))) (λe=>hs.p2 (.inl e)) (λe=>hs.k1 (e▸.inr (.inr rfl)))
theorem OP{w:World}{c:MkC}{G:Nat->Prop}(j:Nat)(u:Value):AB (c.T G) w (w.setCell ⟨c.k,j,none⟩ u):=(AB.refl _ w).setCell (a:=⟨c.k,j,none⟩) (λ_=>.inl rfl) u
def CS(w:World)(SV G SW:Nat->Prop)(c:MkC)(v:Vm)(P:MkS->Int->Int->Prop)(N:Prop)(e:Ending)(w':World):Prop:=
 AB (c.T G) w w'/\((e=.returned (.tuple #[])/\∃s r vi,A8 w' SV (plus G w) SW c v s r vi/\P s r vi)\/(e=.panicked [{v:=G7 25 0,recovered:=false}]/\N/\∃s r vi,A8 w' SV (plus G w) SW c v s r vi))
section
variable {w w':World} {SV G SW:Nat->Prop} {c:MkC} {v:Vm} {P:MkS->Int->Int->Prop} {N:Prop} {s:MkS} {r vi:Int}
theorem A8.sub{G':Nat->Prop}(h:A8 w SV G SW c v s r vi)(hg:∀i,G i->G' i)(hs:DG c SV G' SW):A8 w SV G' SW c v s r vi:=⟨h.vm,h.ext,h.stk.mono hg,h.wk,h.row,h.tab,hs,h.bB,h.zk⟩
theorem A8.up(h:A8 w' SV G SW c v s r vi)(hw:c.B<=w.heap.size):A8 w' SV (plus G w) SW c v s r vi:=h.sub (λ_ h=>.inl h) (h.sep.plus hw)
theorem A8.back{w0:World}(h:A8 w' SV (plus (plus G w0) w) SW c v s r vi)(hz:w0.heap.size<=w.heap.size)(hs:DG c SV G SW)(hw:c.B<=w0.heap.size):A8 w' SV (plus G w0) SW c v s r vi:=
 h.sub (λ_ h=>h.elim id (λh=>.inr (ζa hz h))) (hs.plus hw)
theorem IU{a b d:World}(h:AB (c.T G) a b)(k:AB (c.T (plus G a)) b d):AB (c.T G) a d:=
 h.trans' k (λi hi ht=>by
  rcases ht with h1|h1|h1|h1
  ·exact .inl h1
  ·exact .inr (.inl h1)
  ·exact .inr (.inr h1)
  ·omega)
theorem CS.ok(t:AB (c.T G) w w')(h:A8 w' SV (plus G w) SW c v s r vi)(p:P s r vi):CS w SV G SW c v P N (.returned (.tuple #[])) w':=⟨t,.inl ⟨rfl,s,r,vi,h,p⟩⟩
theorem CS.no(t:AB (c.T G) w w')(h:A8 w' SV (plus G w) SW c v s r vi)(n:N):CS w SV G SW c v P N (.panicked [{v:=G7 25 0,recovered:=false}]) w':=⟨t,.inr ⟨rfl,n,s,r,vi,h⟩⟩
end
theorem VEk(L:List Ob)(o:Ob):sizes (DF L o)=sizes L+o.2:=by
 induction L with
 | nil=>simp[DF,sizes]
 | cons q t ih=>
  unfold DF
  split
  ·simp only[sizes];omega
  ·simp only[sizes,ih];omega
theorem Jqz{n:Nat}{L:List Ob}(h:AO n L){a:Int}(ha:Hs L a):A7 L a<L.length/\obS L (A7 L a)=a:=by
 obtain⟨o,ho,rfl⟩:=ha;obtain⟨j,hj,rfl⟩:=ζr ho;have hz:=(h.sz _ ho).1;rw[OE h hj (ψg _) Ω]
 grind [JV]
theorem Z8n{L:List Ob}{a:Int}(hn:¬Hs L a)(hf:A7 L a<L.length):obS L (A7 L a)≠a:=by
 rw[(JV hf).1];exact λe=>hn ⟨_,χ hf,e⟩
theorem B7.set2{w:World}{G:Nat->Prop}{g R k i j:Nat}{l:List Int}{b:Bool}{u u':Value}(h:B7 w G g l R b)(hk:¬G k):B7 ((w.setCell ⟨k,i,none⟩ u).setCell ⟨k,j,none⟩ u') G g l R b:=
 (h.touch ((AB.refl (λx=>x=k) w).setCell (a:=⟨k,i,none⟩) (λ_=>rfl) u) (λ_ hx _ e=>hk (e▸hx))).touch ((AB.refl (λx=>x=k) _).setCell (a:=⟨k,j,none⟩) (λ_=>rfl) u') (λ_ hx _ e=>hk (e▸hx))
theorem VNW{c:MkC}{L:List Ob}{r vi a z:Int}(he:C9 L c.n a z=0):((JC c L r vi).set 4 (iI ((L.length:Nat)+1))).set 5 (iI ((sizes L:Nat)+z))=JC c (C0 L c.n a z) r vi:=by
 have hz:=(YLm he).1;have h1:=ZoS he;have h2:sizes (C0 L c.n a z)=sizes L+z.toNat:=by unfold C0;rw[μ he,VEk]
 unfold JC
 grind
theorem A8.pushed{w w4 w5:World}{SV G SW:Nat->Prop}{c:MkC}{v:Vm}{s:MkS}{r vi:Int}(h:A8 w SV G SW c v s r vi){L':List Ob}{st':List Int}{lost':Bool}{u u':Value}(t4:AB (AM c.m c.b1 c.b2) w w4)(x4:Ext w4 c.m c.p1 c.b1 c.p2 c.b2 c.n L')
  (t5:AB G ((w4.setCell ⟨c.k,4,none⟩ u).setCell ⟨c.k,5,none⟩ u') w5) (s5:B7 w5 (plus G ((w4.setCell ⟨c.k,4,none⟩ u).setCell ⟨c.k,5,none⟩ u')) c.g st' c.R lost') (hm:((JC c s.L r vi).set 4 u).set 5 u'=JC c L' r vi):
  A8 w5 SV (plus G w) SW c v ⟨L',st',lost'⟩ r vi/\AB (c.T G) w w5:=by
 have hs:=h.sep
 have tk:AB (λi=>i=c.k) w4 ((w4.setCell ⟨c.k,4,none⟩ u).setCell ⟨c.k,5,none⟩ u'):=
  ((AB.refl (λi=>i=c.k) w4).setCell (a:=⟨c.k,4,none⟩) (λ_=>rfl) u).setCell (a:=⟨c.k,5,none⟩) (λ_=>rfl) u'
 have hz:w.heap.size<=((w4.setCell ⟨c.k,4,none⟩ u).setCell ⟨c.k,5,none⟩ u').heap.size:=ζa t4.size tk.size;have Y:¬G c.k:=hs.k2
 refine⟨⟨MkC.vm h.zk.1 hs (MkC.vm h.zk.1 hs (MkC.vm h.zk.1 hs h.vm t4 (λi e=>.inr (.inl e))) tk (λi e=>.inl e)) t5 (λi e=>.inr (.inr e)),?_,s5.mono (λi hi=>hi.imp id (λh'=>ζa hz h')),((h.wk.touch t4 (λi hi _ e=>hs.sw i hi (.inr (.inl e)))).touch tk (λi hi _ e=>hs.sw i hi (.inl e))).touch t5 (λi hi _ e=>hs.sw i hi (.inr (.inr e))),
   (hm▸((h.row.touch t4 hs.k1).set 4 u).set 5 u').touch t5 Y,?_,hs.plus h.bB,ζa h.bB (ζa hz t5.size),h.zk⟩,?_⟩
 ·have e1:=x4.touch tk (λe=>hs.k1 (e▸.inl rfl)) (λe=>hs.p1 (.inl e)) (λe=>hs.k1 (e▸.inr (.inl rfl))) (λe=>hs.p2 (.inl e)) (λe=>hs.k1 (e▸.inr (.inr rfl)));exact e1.touch t5 (hs.mg _ (.inl rfl)) (λe=>hs.p1 (.inr (.inr e))) (hs.mg _ (.inr (.inl rfl))) (λe=>hs.p2 (.inr (.inr e))) (hs.mg _ (.inr (.inr rfl)))
 ·have a1:=t4.tab h.tab.lt (λe=>hs.tab (.inr (.inl e))) h.tab;have a2:=tk.tab a1.lt (λe=>hs.tab (.inl e)) a1;exact t5.tab a2.lt (λe=>hs.tab (.inr (.inr e))) a2
 ·exact((t4.mono (λi _ hi=>.inr (.inl hi))).trans (tk.mono (λi _ hi=>.inl hi))).trans (t5.mono (λi _ hi=>.inr (.inr hi)))
section
variable {w:World} {SV G SW:Nat->Prop} {c:MkC} {v:Vm} {s:MkS} {r vi:Int} {X:Int->Prop} {rs:List Int}
theorem Q1(w:World)(k:Nat):cQ 190 #[pP k,.bool true] w (.tuple #[]):=by
 go_enter func190,ntmps190;go_wp2;refine ζw (ζl rfl _ _ _) rfl ?_
 simp_all
theorem WH(h:A8 w SV G SW c v s r vi):Calls prog 190 #[pP c.k,.bool false] w λe w'=>e=.panicked [{v:=G7 25 0,recovered:=false}]/\w=w':=by
 have c3:=h.row.cc 3;have HF:=(YJ h.zk.1.nn h.wk 25 0);go_enter func190,ntmps190;go_wp2_with(go_at_call 151;refine HF.mono ?_;rintro e w1 ⟨rfl,rfl⟩);exact⟨rfl,rfl,rfl⟩
def Sp.Rd(z:Sp)(v:Vm)(a:Int):Prop:=(0<a->z.P a)/\∀i:Int,v.plE a i 1=0->z.P (a+1+i)
def XLt(s:MkS)(v:Vm)(rs:List Int)(c:MkC)(X:Int->Prop)(a r vi:Int)(s':MkS)(r' vi':Int):Prop:=CB v rs c.n c.R X s'/\DL s s'/\(a≠0->Hs s'.L a)/\r'=r/\vi'=vi
theorem VVL(h:A8 w SV G SW c v s r vi)(hp:∀a,Rch v rs a->c.z.Rd v a)(hi:CB v rs c.n c.R X s){a:Int}(ha:a≠0->Rch v rs a):Calls prog 142 #[pP c.k,iI a] w (CS w SV G SW c v (XLt s v rs c X a r vi) (¬CE v rs c.n)):=by
 have H:=h;have HI:=hi;by_cases h0:a=0
 ·subst h0;clear h hi ha hp;go_enter func142,ntmps142;go_wp2;refine ζw (ζl rfl _ _ _) rfl ?_;exact CS.ok (AB.refl _ _) (H.up H.bB) ⟨HI,DL.refl _,λh=>absurd rfl h,rfl,rfl⟩
 ·have hR:=ha h0;have HR:=hR;have d0:(a==0)=false:=by simpa using h0
  have c0:=h.row.cc 0;have c1:=h.row.cc 1;unfold Sp.v at c0;have B:=(J9 h.ext h.tab a);unfold GJ at B;have E:=hi.mkd.good;by_cases hs:Hs s.L a
  ·obtain⟨f1,f2⟩:=Jqz E hs;rw[f2,θ f1]at B;have HS:=hs;clear h hi ha hp h0 hR hs E f1 f2;go_enter func142,ntmps142;go_wp2_with(go_at_call 189;refine B.mono ?_;rintro e w1 ⟨rfl,rfl⟩);refine ζw (ζl rfl _ _ _) rfl ?_;exact CS.ok (AB.refl _ _) (H.up H.bB) ⟨HI,DL.refl _,λ_=>HS,rfl,rfl⟩
  ·have Xh:=(λhf=>Z8n hs hf);have Xz:=hs;obtain⟨st,Xi⟩:∃st,st=obS s.L (A7 s.L a):=⟨_,rfl⟩;obtain⟨sz,Xl⟩:∃sz,sz=obZ s.L (A7 s.L a):=⟨_,rfl⟩;obtain⟨fb,Xe⟩:∃fb,fb=decide (A7 s.L a<s.L.length):=⟨_,rfl⟩;rw[<-Xi,<-Xl,<-Xe]at B;rw[<-Xi]at Xh;have Xm:=Xe
   have Xr:fb=false\/(fb=true/\(st==a)=false):=by
    cases hb:fb with
    | false=>exact .inl rfl
    | true=>exact .inr ⟨rfl,by have:=Xh (of_decide_eq_true (Xm.symm.trans hb));simpa using this⟩
   have U:=(λW (g:Gr w W)=>(NC h.zk.1 (h.zk.1.gr h.vm g) a (hp a hR).1).mono λ_ _ hh=>ϑ hh.1 (hh.2.ro h.zk.2));unfold Sp.v at U;have Yb:s.L.length<=1048576:=ζa E.len h.ext.nb.2;have Yh:sizes s.L<=1048576:=ζa (FW E) h.ext.nb.2;by_cases hE:v.rdE a=0
   ·have HE:=hE;obtain⟨-,-,p,f,k,hh,Xv⟩:=F4 hE;have Xc:=DD hE;have Xf:=(λW=>LI ⟨p,f,k⟩ W);have ho:v.osz a=CG ⟨p,f,k⟩:=by unfold Vm.osz;rw[hh]
    rw[<-ho]at Xf;rw[hE,hh]at U;unfold AJ at U Xf;obtain⟨z,hz⟩:∃z,z=v.osz a:=⟨_,rfl⟩;rw[<-hz]at Xf Xc;have HZ:=ι hz;have Xk:=ι (λW (g:Gr w W)=>Zc1 (h.ext.gr g) (g.tab h.tab.lt h.tab) a z);unfold UZ at Xk;have Y:=h.sep;have Yg:=ι (λ(W W':World) (g:Gr w W) (t:AB (AM c.m c.b1 c.b2) W W') (x:Ext W' c.m c.p1 c.b1 c.p2 c.b2 c.n s.L)=>(⟨MkC.vm h.zk.1 Y (h.zk.1.gr h.vm g) t (λi e=>.inr (.inl e)),x,(h.stk.gr g).touch t (λi hi _ e=>Y.mg i e hi),(h.wk.gr g).touch t (λi hi _ e=>Y.sw i hi (.inr (.inl e))),(h.row.gr g).touch t Y.k1,t.tab (g.tab h.tab.lt h.tab).lt (λe=>Y.tab (.inr (.inl e))) (g.tab h.tab.lt h.tab),Y,ζa h.bB (ζa g.size t.size),h.zk⟩:A8 W' SV G SW c v s r vi));by_cases hA:C9 s.L c.n a z=0
    ·have HA:=ι hA;rw[hA]at Xk;have Xq:=ι (VNW (c:=c) (r:=r) (vi:=vi) hA);have Xs:=h.sep.k2;have Ya:=ι Xs;have Xw:=ι (hi.push hR hE (by rw[<-hz];exact hA));rw[<-hz]at Xw;have hz1:1<=z:=Xc.2.1;have hz2:z<=256:=Xc.2.2;obtain⟨LN,Xo⟩:∃LN:Nat,LN=s.L.length:=⟨_,rfl⟩;obtain⟨SN,Xp⟩:∃SN:Nat,SN=sizes s.L:=⟨_,rfl⟩;rw[<-Xo]at Yb Xq;rw[<-Xp]at Yh Xq;have Z:=ι (ϑ Xo Xp);clear h hi ha hp h0 hR hs E Xi Xl Xe hE Xh Xm hh Xv ho hz hA Y Xs Xc Xo Xp;rcases Xr with rfl|⟨rfl,d3⟩
     all_goals
      go_enter func142,ntmps142
      go_wp2_with(first
       | (go_at_call 189;refine B.mono ?_;rintro e w1 ⟨rfl,rfl⟩)
       | (go_at_call 69;refine(U _ (Gr.refl _)).mono ?_;rintro e w1 ⟨rfl,V⟩;have J:=ι (V.alloc (.cells #[.int .i64 p,.int .i64 f,.int .i64 k] 63));clear V)
       | (go_at_call 190;(with_reducible refine(Q1 _ _).mono ?_);rintro e w2 ⟨rfl,rfl⟩)
       | (go_at_call 58;refine(Xf _).mono ?_;rintro e w3 ⟨rfl,Xb⟩;have I:=ι (J.o.trans Xb);have Ye:=(H.gr (J.o.trans Xb)).row.cell (j:=1) rfl;clear Xb)
       | (go_at_call 171;refine(Xk.o _ I.o).mono ?_;rintro e w4 ⟨rfl,O,Xd⟩;have Yc:=ι Xd;have Xn:=ι O;have Xg:=ι (H.gr I.o);have Xj:=ι (Xg.o.row.touch O Xg.o.sep.k1);have y2:=Xj.o.cc 2;have y4:=Xj.o.cc 4;have y5:=Xj.o.cc 5;have yf:=Xj.o.free;have Yf:=ι (Xg.o.stk.touch O (λi hi _ e=>Xg.o.sep.mg i e hi));rw[<-Z.o.1]at y4;rw[<-Z.o.2]at y5;clear O Xd)
       | (go_at_call 191;refine(Y4L (Yf.o.set2 Ya.o) a).mono ?_;intro e w5 hp;have Yd:(∃b,e=.returned (.bool b)):=by {rcases hp with⟨_,rfl,_⟩|⟨_,rfl,_⟩ <;> exact⟨_,rfl⟩};have HP:=ι hp;obtain⟨pb,rfl⟩:=Yd;clear hp))
      refine ζw (ζl rfl _ _ _) rfl ?_;have Xx:=Xq.o;rw[Z.o.1,Z.o.2]at Xx
      have Xy:∀st' lost',s.push c.R (C0 s.L c.n a z) a=⟨C0 s.L c.n a z,st',lost'⟩->AB G ((w4.setCell ⟨c.k,4,none⟩ (.int .i64 ((s.L.length:Nat)+1))).setCell ⟨c.k,5,none⟩ (.int .i64 ((sizes s.L:Nat)+z))) w5/\B7 w5 (plus G ((w4.setCell ⟨c.k,4,none⟩ (.int .i64 ((s.L.length:Nat)+1))).setCell ⟨c.k,5,none⟩ (.int .i64 ((sizes s.L:Nat)+z)))) c.g st' c.R lost'->CS w SV G SW c v (XLt s v rs c X a r vi) (¬CE v rs c.n) (.returned (.tuple #[])) w5:=λst' lost' hpe ⟨Xa,D⟩=>by
       obtain⟨q1,q2,q3⟩:=Xw.o;rw[hpe]at q1 q2 q3;obtain⟨m5,t5⟩:=Xg.o.pushed Xn.o Yc.o Xa D Xx;exact CS.ok ((I.o.touch _).trans t5) (m5.sub (λi hi=>hi.imp id (λh'=>ζa I.o.size h')) (H.sep.plus H.bB)) ⟨q1,q2,λ_=>q3,rfl,rfl⟩
      rcases HP.o with⟨hf,-,Xa,D⟩|⟨hf,-,Xa,D⟩
      ·refine Xy s.st true (κ Ω) ⟨?_,?_⟩
       ·rw[Z.o.1,Z.o.2]at Xa;exact Xa
       ·rw[Z.o.1,Z.o.2]at D;exact D
      ·refine Xy (s.st++[a]) s.lost (μ hf) ⟨?_,?_⟩
       ·rw[Z.o.1,Z.o.2]at Xa;exact Xa
       ·rw[Z.o.1,Z.o.2]at D;exact D
    ·obtain⟨y,hy⟩:∃y,y=C9 s.L c.n a z:=⟨_,rfl⟩;have d2:(y==0)=false:=by rw[hy];simpa using hA
     have Xt:=ι hA;have HY:=ι hy;clear h hi ha hp h0 hR hs E Xi Xl Xe hE Xh Xm hh Xv ho hz hA hy Y;rcases Xr with rfl|⟨rfl,d3⟩
     all_goals
      go_enter func142,ntmps142
      go_wp2_with(first
       | (go_at_call 189;refine B.mono ?_;rintro e w1 ⟨rfl,rfl⟩)
       | (go_at_call 69;refine(U _ (Gr.refl _)).mono ?_;rintro e w1 ⟨rfl,V⟩;have J:=ι (V.alloc (.cells #[.int .i64 p,.int .i64 f,.int .i64 k] 63));clear V)
       | (go_at_call 190;(with_reducible refine(WH Xu.o).mono ?_);rintro e w2 ⟨rfl,rfl⟩)
       | (go_at_call 190;(with_reducible refine(Q1 _ _).mono ?_);rintro e w2 ⟨rfl,rfl⟩)
       | (go_at_call 58;refine(Xf _).mono ?_;rintro e w3 ⟨rfl,Xb⟩;have I:=ι (J.o.trans Xb);have Ye:=(H.gr (J.o.trans Xb)).row.cell (j:=1) rfl;clear Xb)
       | (go_at_call 171;refine(Xk.o _ I.o).mono ?_;rintro e w4 ⟨rfl,O,Xd⟩;rw[<-HY.o];have Xn:=ι ((I.o.touch (c.T G)).trans (O.mono (λi _ hi=>.inr (.inl hi))));have Xu:=ι (Yg.o _ _ I.o O (by rw[show C0 s.L c.n a z=s.L from κ Xt.o]at Xd;exact Xd));clear O Xd))
      exact⟨rfl,CS.no Xn.o (Xu.o.up H.bB) (HI.mkd.fail HR Xz (by rw[<-HZ.o];exact Xt.o))⟩
   ·have HE:=hE;obtain⟨y,hy⟩:∃y,y=v.rdE a:=⟨_,rfl⟩;have d2:(y==0)=false:=by rw[hy];simpa using hE
    rw[<-hy]at U;unfold AJ at U;clear h hi ha hp h0 hR hs E Xi Xl Xe hE hy Xh Xm;rcases Xr with rfl|⟨rfl,d3⟩
    all_goals
     go_enter func142,ntmps142
     go_wp2_with(first
      | (go_at_call 189;refine B.mono ?_;rintro e w1 ⟨rfl,rfl⟩)
      | (go_at_call 69;refine(U _ (Gr.refl _)).mono ?_;rintro e w1 ⟨rfl,V⟩;have J:=ι V;clear V)
      | (go_at_call 190;refine(WH (H.gr (J.o.alloc _))).mono ?_;rintro e w2 ⟨rfl,rfl⟩))
     exact⟨rfl,CS.no ((J.o.alloc _).touch _) ((H.gr (J.o.alloc _)).up H.bB) (ZFY HR HE)⟩
def Yr9(s:MkS)(v:Vm)(rs:List Int)(c:MkC)(X:Int->Prop)(a r:Int)(s':MkS)(r' _vi':Int):Prop:=CB v rs c.n c.R X s'/\DL s s'/\Cl v s'.L a/\r'=r
theorem ZUP(h:A8 w SV G SW c v s r vi)(hp:∀a,Rch v rs a->c.z.Rd v a)(hi:CB v rs c.n c.R X s){a:Int}(ha:Hs s.L a):Calls prog 147 #[pP c.k,iI a] w (CS w SV G SW c v (Yr9 s v rs c X a r) (¬CE v rs c.n)):=by
 have H:=h;have HI:=hi;obtain⟨hR,hE⟩:=hi.mkd.hs ha;obtain⟨-,-,p,f,k,hh,hsm⟩:=F4 hE;have HR:=(ϑ hR (ϑ hE hh));have Xc:=(hp a hR);have E:=(λW (g:Gr w W)=>(NC h.zk.1 (h.zk.1.gr h.vm g) a (hp a hR).1).mono λ_ _ hh=>ϑ hh.1 (hh.2.ro h.zk.2));have HP:=hp;rw[hE,hh]at E;unfold Sp.v AJ at E;have c0:=h.row.cc 0;unfold Sp.v at c0;have HN:=(Rec.new w 63 [iI p,iI f,iI k]);clear h hi ha hp hR hE hh;go_enter func147,ntmps147
 go_wp2_with(first
  | (go_at_call 69;refine(E _ (Gr.refl _)).mono ?_;rintro e w1 ⟨rfl,Xd⟩;have Xg:=(Xd.alloc (.cells #[.int .i64 p,.int .i64 f,.int .i64 k] 63));clear Xd)
  | (go_at_call 190;(with_reducible refine(Q1 _ _).mono ?_);rintro e w2 ⟨rfl,rfl⟩))
 go_loopw [24] (λs24 wr=>∃(j:Nat) (s':MkS) (r' vi':Int),j<=p/\Hid (A8 wr SV (plus G w) SW c v s' r' vi')/\Hid (AB (c.T G) w wr)/\Hid (CB v rs c.n c.R X s'/\DL s s'/\ClN v s'.L a j/\r'=r)/\s24=iI j) (λs24 _=>p-(intOf s24).toNat)
 case atStart=>exact⟨0,s,r,vi,by omega,⟨(H.gr Xg).up H.bB⟩,⟨Xg.touch _⟩,⟨HI,DL.refl _,λi hi=>by omega,rfl⟩,rfl⟩
 case round=>
  obtain⟨j,s',r',vi',hj,HM,HT,HJ,rfl⟩:=hrel;have k0:=HM.o.row.cc 0;have k7:=HM.o.row.cc 7;have kf:=HM.o.row.free 7;unfold Sp.v at k0;clear c0;by_cases Y:j=p
  ·subst Y;go_wp2;refine ζw (ζl rfl _ _ _) rfl ?_;obtain⟨q1,q2,q3,q4⟩:=HJ.o;exact CS.ok (HT.o.trans (OP 7 _)) (HM.o.set (r':=r') (vi':=wrap64 (vi' + 1)) rfl) ⟨q1,q2,q3.cl (by rw[HR.2.2];exact ψg _),q4⟩
  ·have Xh:(j:Int)<(p:Int):=Ω
   have J:=((XK HM.o.zk.1 HM.o.vm a (j:Int) Xc.1 (Xc.2 _)).mono λ_ _ hh=>ϑ hh.1 (hh.2.ro HM.o.zk.2));unfold Sp.v at J;have Xf:Hid (v.ptE a j=0->((v.ptV a j:Nat):Int)≠0->Rch v rs (v.ptV a j:Nat)):=⟨λh1 h2=>HR.1.step ⟨HR.2.1,j,by rw[HR.2.2];exact Xh,h1,by omega,rfl⟩⟩;have Xa:=(ϑ hj Y);clear hj Y;by_cases U:v.ptE a j=0
   ·have I:=U;rw[U]at J;obtain⟨x,hx⟩:∃x,x=v.ptV a j:=⟨_,rfl⟩;rw[<-hx]at J Xf;have Xl:=ι hx;clear U hx
    go_wp2_with(first
     | (go_at_call 74;refine J.mono ?_;rintro e w2 ⟨rfl,Z⟩;have O:=ι (HM.o.gr Z);have V:=ι (HT.o.trans (Z.touch _));clear Z)
     | (go_at_call 190;(with_reducible refine(Q1 _ _).mono ?_);rintro e w3 ⟨rfl,rfl⟩)
     | (go_at_call 142;refine(VVL O.o HP HJ.o.1 (Xf.o I)).mono ?_;rintro e w4 ⟨Xi,(⟨rfl,s4,r4,Xk,D,B⟩|⟨rfl,B,s4,r4,Xk,D⟩)⟩ <;> (have Xb:=ι (IU V.o Xi);have Xe:=ι (D.back V.o.size H.sep H.bB);have Xj:=ι B;clear Xi D B)))
    ·go_round
     case rel=>
      obtain⟨q1,q2,q3,q4⟩:=HJ.o;obtain⟨p1,p2,p3,p4,p5⟩:=Xj.o;refine⟨j+1,s4,r4,Xk,by have:=Xa;omega,Xe,Xb,⟨p1,q2.trans p2,(q3.mono p2.sub).succ I (λh0=>?_),p4.trans q4⟩,by go_num⟩;rw[<-Xl.o]at h0⊢;exact p3 Ω
     case measure=>have:=Xa;simp[intOf];omega
    ·exact⟨rfl,CS.no Xb.o Xe.o Xj.o⟩
   ·have I:=U;obtain⟨y,hy⟩:∃y,y=v.ptE a j:=⟨_,rfl⟩;have d2:(y==0)=false:=by rw[hy];simpa using U
    rw[<-hy]at J;clear U hy
    go_wp2_with(first
     | (go_at_call 74;refine J.mono ?_;rintro e w2 ⟨rfl,Z⟩;have O:=ι (HM.o.gr Z);have V:=ι (HT.o.trans (Z.touch _));clear Z)
     | (go_at_call 190;(with_reducible refine(WH O.o).mono ?_);rintro e w3 ⟨rfl,rfl⟩))
    exact⟨rfl,CS.no V.o O.o (J7J HR.1 (by rw[HR.2.2];exact Xh) I)⟩
end
section
attribute [local go_sem] Oper.semAt_some
def KN(L:List Ob)(j:Nat):List Value:=zs ((L.take j).map λo=>(o.1:Int))
theorem QZB{L:List Ob}{j:Nat}(h:j<L.length):KN L (j+1)=KN L j++[iI (L[j].1:Nat)]:=by
 unfold KN zs
 grind [ζY]
theorem Z0{w:World}{b b' E size:Nat}{v:Value}{n:Nat}{xs:List Value}(h:w.ownsRow b E size v n xs)(hb:b'<=b):w.ownsRow b' E size v n xs:=by
 obtain⟨h1,h2⟩:=h;refine⟨h1,h2.imp id ?_⟩;rintro⟨g,Z,Y,e1,e2,e3⟩;exact⟨g,Z,Y,e1,ζa hb e2,e3⟩
structure StI(W0:World)(B:Nat)(L:List Ob)(j:Nat)(A:World):Prop where
 t:AB (λi=>i=B\/W0.heap.size<=i) W0 A
 jl:j<=L.length
 f0:A.frozen? ⟨B,0,none⟩=false
 row:∃vL,A.cell? ⟨B,0,none⟩=some vL/\A.ownsRow (W0.heap.size+6) 3 1 vL j (KN L j)
def JLP(w:World)(L:List Ob)(e:Ending)(w':World):Prop:=∃vL,e=.returned vL/\Gr w w'/\w'.ownsRow w.heap.size 3 1 vL L.length (KN L L.length)
theorem Yde{w:World}{k m p1 b1 p2 b2 n:Nat}{L:List Ob}(hE:Ext w m p1 b1 p2 b2 n L)(hT:AP w)(c1:w.cell? ⟨k,1,none⟩=some (pP m)):
  Calls prog 146 #[pP k] w (JLP w L):=by
 have HE:=hE;have HT:=hT;have hkl:=AV c1;refine(β (n:=5)).1 ?_;refine callsIn_of_wp_marks func146 rfl trivial ?_ rfl;simp only[ntmps146,ζV,ζH,ζ7,Nat.reduceAdd,Nat.reduceSub,ζL,ζK,ζZ,ζQ,ζN,ζu];gi_wp2_with(refine⟨trivial,?_⟩;gi_at_call 132;refine(β.2 (J3 (some ⟨m,0,none⟩))).mono ?_;rintro e w1 ⟨rfl,rfl⟩);obtain⟨W2,O⟩:∃W2,W2=w.alloc (.cells #[.slice none 0 0] 66):=⟨_,rfl⟩;have Xo:Boxed W2 w.heap.size 66 (.slice none 0 0):=by rw[O];exact Boxed.new w _ _
 have Xq:Gr w W2:=by rw[O];exact(Gr.refl w).alloc _
 have Xh:W2.heap.size=w.heap.size+1:=by rw[O];simp
 rw[<-O];obtain⟨W0,U⟩:∃W0,W0=W2.alloc (.cells #[.pointer (some ⟨m,0,none⟩)] 103):=⟨_,rfl⟩;have Xc:Gr w W0:=by rw[U];exact Xq.alloc _
 have hsz:W0.heap.size=w.heap.size+2:=by rw[U];simp;omega
 have k1:Boxed W0 w.heap.size 66 (.slice none 0 0):=by rw[U];exact Xo.alloc _
 have k4:W0.cell? ⟨w.heap.size+1,0,none⟩=some (pP m):=by
  rw[U];have:=(Boxed.new W2 103 (pP m)).cell
  rwa [Xh]at this
 rw[<-U];have Y:=HE;have o1:=Y.hm;have o2:=Y.v1.hp;have o3:=Y.v1.hb;have o4:=Y.v2.hp;have o5:=Y.v2.hb;have o6:=HT.lt;have hnb:=Y.nb;have I:=Y.good;have hlen:=I.len;obtain⟨ii,Xp,Xk,Xg,Xl⟩:=info_parts SF
 have tI:∀j A B,StI W0 w.heap.size L j A->AB (λi=>W0.heap.size<=i/\i<W0.heap.size+2+4) A B->StI W0 w.heap.size L j B:=λj A B h t=>by
  have ht:=h.t.size;obtain⟨vL,hc,ho⟩:=h.row;exact⟨h.t.trans (t.mono (λi _ h=>.inr h.1)),h.jl,(t.frozen Ω (by show ¬(W0.heap.size<=w.heap.size/\_);omega) 0).trans h.f0,vL,(t.cell Ω (by show ¬(W0.heap.size<=w.heap.size/\_);omega) 0).trans hc,BS ho t (λg hg h=>by have:=(A9 ho hg).1;omega)⟩
 refine LQ (K:=4) (s0:=0) rfl Ω (gf:=173) (lb:=#[pP (w.heap.size+1)]) rfl trivial (enters_of func173 (by kernel_rfl) rfl)
  (OO _ (w.heap.size+1) m p1 b1 p2 b2 n L _) (λ_=>rfl)
  (StI W0 w.heap.size L) (λ_ _=>False) tI (λ_ _ _ h _=>h)
  (λj A h=>⟨(HE.gr Xc).touch h.t Ω Ω Ω Ω Ω,(Xc.tab o6 HT).touch' h.t Ω,(h.t.cell Ω Ω 0).trans k4,h.jl⟩)
  ⟨AB.refl _ _,ζe _,k1.frozen,_,k1.cell,GD _ _ _ _⟩ ?round ?done ?stop
 case round=>
  intro lp j x W3 hsz3 V Z;dsimp only[GQ];gi_wp2;refine⟨Gr.refl _,λW4 ht4 hI4=>?_⟩
  have Xa:j<L.length:=by
   rcases ω j L.length with h|h
   ·exact h
   ·unfold EQ at Z;rw[ζv h]at Z;cases Z
  obtain rfl:x=L[j]:=by unfold EQ at Z;rw[ζb Xa]at Z;exact(Option.some.inj Z).symm
  have Xb:=QZB Xa;obtain⟨y,hy⟩:∃y,y=L[j].1:=⟨_,rfl⟩;rw[<-hy]at Xb⊢;obtain⟨vL,hc,ho⟩:=hI4.row;have Xf:=hI4.f0;have hsz4:W0.heap.size+6<=W4.heap.size:=by have:=ht4.size;omega
  have Xi:=hI4;have HO:=ho;have Xj:=Xb;clear V hI4 Xb hy ho Z ht4;gi_wp2_with(gi_at_builtin;refine wpListIn_append_own _ rfl _ _ 66 rfl (W0.heap.size+6) 3 ii _ 1 8 underlying66 Xp Xk Xg Xl rfl (by decide) _ _ _ rfl (HO.alloc _) ⟨W4.heap.size,0,none⟩ 1 1 [iI (y:Nat)] rfl rfl (cell_one_new _ _ _) (by simp[Value.oneCell']) (by unfold maxLen;omega) Ω (by simp;omega) ?_;intro v' w5 J E _;obtain⟨A5,c5,rfl,-,-⟩:=CV J;have t5:AB (λi=>W0.heap.size+6<=i) W4 w5:=((((Gr.refl W4).alloc _).touch _)).trans (EB E _ (λi e _=>(A9 HO e).1));have Xm:=(t5.cell (b:=w.heap.size) Ω Ω 0).trans hc;have Xr:=(t5.frozen (b:=w.heap.size) Ω Ω 0).trans Xf;have Xd:=J;have Xe:=t5);have tt:AB (λi=>i=w.heap.size\/W0.heap.size+6<=i) W4 (w5.setCell ⟨w.heap.size,0,none⟩ (.slice A5 (j+1) c5)):=(Xe.mono (λi _ h=>.inr h)).setCell (a:=⟨w.heap.size,0,none⟩) (λ_=>.inl rfl) _;refine⟨tt.mono (λi _ h=>by omega),j+1,rfl,⟨Xi.t.trans (tt.mono (λi _ h=>h.imp id (λh=>by omega))),Xa,by rw[ξa];exact Xr,_,World.cell?_setCell_same' w5 ⟨w.heap.size,0,none⟩ _ (by rw[Xm];rfl),?_⟩⟩;rw[Xj];exact AX Xd _ (λg hg=>by have:=(A9 Xd hg).1;omega)
 case done=>
  rintro D j W3 hD rfl V hK;obtain⟨vL,hc,ho⟩:=V.row;have HO:=ho;have HK:=hK;have HD:=hD;have Xn:=V;have hs3:=V.t.size;gi_wp2;refine⟨by simp,.inl ⟨_,_,rfl,run_takeDeferred HK,?_⟩⟩;refine⟨_,results_tmp rfl _ _ _,vL,rfl,(((Xc.touch (λ_=>False)).trans' Xn.t (λi hi h=>by omega)).trans' (DU W3 D _) (λi hi h=>by have:=HD;omega)).gr,?_⟩;exact Z0 (BS HO (DU W3 D _) (λg hg h=>by have:=(A9 HO hg).1;have:=HD;omega)) Ω
 simp_all
end
def MD(s:MkS)(r vi:Int):Prop:=s.L=[]->r=1/\vi=0
theorem A8.popped{w w':World}{SV G SW:Nat->Prop}{c:MkC}{v:Vm}{L:List Ob}{st st':List Int}{lost lost':Bool}{r vi:Int}(h:A8 w SV G SW c v ⟨L,st,lost⟩ r vi)(t:AB G w w')(s':B7 w' G c.g st' c.R lost'):A8 w' SV G SW c v ⟨L,st',lost'⟩ r vi:=by
 have hs:=h.sep;have Y:¬G c.k:=hs.k2;exact⟨MkC.vm h.zk.1 hs h.vm t (λi e=>.inr (.inr e)),h.ext.touch t (hs.mg _ (.inl rfl)) (λe=>hs.p1 (.inr (.inr e))) (hs.mg _ (.inr (.inl rfl))) (λe=>hs.p2 (.inr (.inr e))) (hs.mg _ (.inr (.inr rfl))),s',h.wk.touch t (λi hi _ e=>hs.sw i hi (.inr (.inr e))),h.row.touch t Y,t.tab h.tab.lt (λe=>hs.tab (.inr (.inr e))) h.tab,hs,ζa h.bB t.size,h.zk⟩
def SJ(st st':List Int)(a:Int)(b:Bool):Prop:=(b=true/\st=st'++[a])\/(b=false/\st=[]/\st'=[])
def VSm(w:World)(SV G SW:Nat->Prop)(c:MkC)(v:Vm)(s:MkS)(r vi:Int)(e:Ending)(w':World):Prop:=∃a b st',e=.returned (.tuple #[iI a,.bool b])/\AB (c.T G) w w'/\A8 w' SV G SW c v ⟨s.L,st',s.lost⟩ r vi/\SJ s.st st' a b
section
variable {w:World} {SV G SW:Nat->Prop} {c:MkC} {v:Vm} {s:MkS} {r vi:Int} {X:Int->Prop} {rs:List Int}
theorem VPs(h:A8 w SV G SW c v s r vi):Calls prog 192 #[pP c.g] w (VSm w SV G SW c v s r vi):=by
 refine(ZtN h.stk).mono ?_;rintro e w' (⟨h0,rfl,rfl⟩|⟨l',a,h0,rfl,ht,hs⟩)
 ·refine⟨0,false,[],rfl,AB.refl _ _,?_,.inr ⟨rfl,h0,rfl⟩⟩;rw[<-h0];exact h
 ·exact⟨a,true,l',rfl,ht.mono (λi _ hi=>.inr (.inr hi)),A8.popped (L:=s.L) (st:=s.st) (lost:=s.lost) h ht hs,.inl ⟨rfl,h0⟩⟩
def DrS(v:Vm)(rs:List Int)(c:MkC)(X:Int->Prop)(s:MkS)(a:Int)(b:Bool)(k:Nat):Prop:=
 ((b=false/\s.st=[]/\CB v rs c.n c.R X s)\/(b=true/\Hs s.L a/\CB v rs c.n c.R (λx=>X x\/x=a) s))/\2*c.n+s.st.length+(if b then 1 else 0)<=2*s.L.length+k
theorem DrS.of{s:MkS}(h:CB v rs c.n c.R X s){st':List Int}{a:Int}{b:Bool}(hp:SJ s.st st' a b){k:Nat}(hk:2*c.n+s.st.length<=2*s.L.length+k):DrS v rs c X ⟨s.L,st',s.lost⟩ a b k:=by
 rcases hp with⟨rfl,h1⟩|⟨rfl,h1,rfl⟩
 ·have h':CB v rs c.n c.R X ⟨s.L,st'++[a],s.lost⟩:=by rw[<-h1];exact h
  refine⟨.inr ⟨rfl,h'.pop.2,h'.pop.1⟩,?_⟩
  grind
 ·refine⟨.inl ⟨rfl,rfl,by rw[<-h1];exact h⟩,?_⟩
  simp_all
def VA5(s:MkS)(v:Vm)(rs:List Int)(c:MkC)(X:Int->Prop)(r vi:Int)(s':MkS)(r' vi':Int):Prop:=CB v rs c.n c.R X s'/\DL s s'/\s'.st=[]/\(MD s r vi->MD s' r' vi')
theorem YF{s t:MkS}{st':List Int}{a:Int}{b:Bool}(h:DL s t)(hp:SJ t.st st' a b):DL s ⟨t.L,st',t.lost⟩:=by
 refine⟨h.sub,h.len,h.los,?_⟩;have:=h.mea;rcases hp with⟨-,h1⟩|⟨-,h1,rfl⟩
 ·grind
 simp_all
theorem ZH{L:List Ob}{a:Int}(h:Hs L a):L≠[]:=by
 rintro rfl;obtain⟨o,ho,-⟩:=h;cases ho
theorem VAa(h:A8 w SV G SW c v s r vi)(hp:∀a,Rch v rs a->c.z.Rd v a)(hi:CB v rs c.n c.R X s):Calls prog 143 #[pP c.k] w (CS w SV G SW c v (VA5 s v rs c X r vi) (¬CE v rs c.n)):=by
 have H:=h;have HI:=hi;have c2:=h.row.cc 2;have HP:=hp;go_enter func143,ntmps143;go_wp2_with(go_at_call 192;refine(VPs H).mono ?_;rintro e w1 ⟨a0,b0,st0,rfl,Xa,Xb,Xf⟩;have Xi:=ι Xa;have Xe:=ι (Xb.up (w:=w) H.bB);have O:=Xf)
 go_loopg [2,3] (2*c.n+s.st.length) (λk s2 s3 wr=>∃(a:Int) (b:Bool) (s':MkS) (r' Z:Int),s2=iI a/\s3=.bool b/\Hid (A8 wr SV (plus G w) SW c v s' r' Z)/\Hid (AB (c.T G) w wr)/\Hid (DL s s'/\(MD s r vi->MD s' r' Z)/\DrS v rs c X s' a b k))
 case atStart=>
  refine⟨a0,b0,_,r,vi,rfl,rfl,Xe,Xi,⟨YF (DL.refl _) O,λh=>h,DrS.of HI O Ω⟩⟩
 case round=>
  obtain⟨a,b,s',r',Z,rfl,rfl,HM,HT,HJ⟩:=hrel;have k2:=HM.o.row.cc 2;cases b with
  | false=>
   go_wp2;refine ζw (ζl rfl _ _ _) rfl ?_;obtain⟨q1,q2,q3,-⟩:=HJ.o;rcases q3 with⟨-,h1,h2⟩|⟨h1,-⟩
   ·exact CS.ok HT.o HM.o ⟨h2,q1,h1,q2⟩
   ·cases h1
  | true=>
   have HA:Hid (Hs s'.L a/\CB v rs c.n c.R (λx=>X x\/x=a) s'/\2*c.n+s'.st.length+1<=2*s'.L.length+gk):=⟨by
    obtain⟨q1,q2,q3,q4⟩:=HJ.o;rcases q3 with⟨h1,-⟩|⟨-,h1,h2⟩
    ·cases h1
    ·exact⟨h1,h2,q4⟩⟩
   go_wp2_with(first
    | (go_at_call 147;refine(ZUP HM.o HP HA.o.2.1 HA.o.1).mono ?_;rintro e w4 ⟨I,(⟨rfl,s4,r4,B,Y,J⟩|⟨rfl,J,s4,r4,B,Y⟩)⟩ <;> (have U:=(IU HT.o I);have V:=(Y.back HT.o.size H.sep H.bB);have E:=ι J;have k4:=Y.row.cc 2;clear I Y J))
    | (go_at_call 192;refine(VPs V).mono ?_;rintro e w5 ⟨a5,b5,st5,rfl,Xg,Xh,Xc⟩;have Xd:=ι (IU U Xg);have Xj:=ι Xh;have D:=Xc))
   ·have hgk:1<=gk:=by
     have:=HA.o.2.2;have:=HA.o.2.1.mkd.good.len;omega
    go_roundg (gk-1)
    case measure=>omega
    case rel=>
     obtain⟨q1,q2,-⟩:=HJ.o;obtain⟨p1,p2,p3,p4⟩:=E.o;have hme:=HA.o.2.2;have Y:=p2.mea;refine⟨a5,b5,_,r4,B,rfl,rfl,Xj,Xd,⟨YF (q1.trans p2) D,λ_ h0=>absurd h0 (ZH (p2.sub a HA.o.1)),DrS.of (p1.done p3 (λx hx=>hx)) D Ω⟩⟩
   ·exact⟨rfl,CS.no U V E.o⟩
end
theorem A8.cut{w:World}{SV G SW:Nat->Prop}{c:MkC}{v:Vm}{s:MkS}{r vi:Int}(h:A8 w SV G SW c v s r vi):A8 w SV (AE G w) SW c v s r vi:=by
 have hs:=h.sep;have Y:∀i,i<c.B/\¬c.T G i->i<c.B/\¬c.T (AE G w) i:=λi hi=>⟨hi.1,λht=>hi.2 (ht.imp id (λh=>h.imp id (λh=>h.1)))⟩
 exact⟨h.vm,h.ext,h.stk.cut,h.wk,h.row,h.tab,⟨λi hi=>Y i (hs.sv' i hi),λi hi=>Y i (hs.sw' i hi),Y _ hs.tab',Y _ hs.p1',Y _ hs.p2',hs.k1,λh=>hs.k2 h.1,hs.kB,λi hi h=>hs.mg i hi h.1,hs.mB,λi hi=>Y i (hs.sd' i hi)⟩,h.bB,h.zk⟩
def KJ(L:List Ob)(j:Nat)(a:Int):Prop:=∃o∈L.drop j,(o.1:Int)=a
theorem JmM{L:List Ob}{a:Int}(h:Hs L a):KJ L 0 a:=h
theorem J6E{L:List Ob}{j:Nat}(h:j<L.length){a:Int}(ha:KJ L j a):KJ L (j+1) a\/a=(L[j].1:Int):=by
 obtain⟨o,ho,rfl⟩:=ha;rw[ξD h]at ho;rcases ξg.1 ho with rfl|ho
 ·omega
 ·exact .inl ⟨o,ho,rfl⟩
theorem Jdx{L:List Ob}(a:Int):¬KJ L L.length a:=by
 rintro⟨o,ho,-⟩
 simp_all
theorem CB.found{v:Vm}{rs:List Int}{n R:Nat}{X:Int->Prop}{s:MkS}(h:CB v rs n R X s):CB v rs n R (KJ s.L 0) ⟨s.L,s.st,false⟩:=⟨h.mkd,h.st,h.r,λ_ ha=>.inr (.inr (.inr (JmM ha)))⟩
section
variable {w:World} {SV G SW:Nat->Prop} {c:MkC} {v:Vm} {rs:List Int}
def s0:MkS:=⟨[],[],false⟩
def TA(v:Vm)(rs:List Int)(c:MkC)(j:Nat)(s:MkS)(r vi:Int):Prop:=CB v rs c.n c.R (λ_=>False) s/\s.st=[]/\(∀x∈rs.take j,x≠0->Hs s.L x)/\MD s r vi/\(s.lost=true->s.L≠[])
def NX(v:Vm)(rs:List Int)(c:MkC)(s:MkS)(r vi:Int):Prop:=BH v rs c.n s.L/\MD s r vi
theorem YXl(h:A8 w SV G SW c v s0 0 0)(hp:∀a,Rch v rs a->c.z.Rd v a){A:Option Addr}{cp:Nat}(hA:FM (c.T G) w A rs)(hlen:rs.length<=maxLen):
  Calls prog 99 #[pP c.k,.slice A rs.length cp] w (CS w SV G SW c v (NX v rs c) (¬CE v rs c.n)):=by
 have H:=h;have HA:=hA;have HP:=hp;have c6:=h.row.cc 6;have kf:=h.row.free 6;obtain⟨N,hN⟩:∃N,N=rs.length:=⟨_,rfl⟩;rw[<-hN]at hlen⊢;have HN:=ι hN;unfold maxLen at hlen;clear h hA hN hp;go_enter func99,ntmps99;go_wp2;have Ye:Hid (A8 (w.setCell ⟨c.k,6,none⟩ (.int .i64 1)) SV (plus G w) SW c v s0 1 0):=⟨(H.set (r':=1) (vi':=0) rfl).up H.bB⟩;have Ym:Hid (AB (c.T G) w (w.setCell ⟨c.k,6,none⟩ (.int .i64 1))):=⟨OP 6 _⟩;obtain⟨w1,Yi⟩:∃w1,w1=w.setCell ⟨c.k,6,none⟩ (.int .i64 1):=⟨_,rfl⟩;rw[<-Yi]at Ye Ym⊢;clear c6 kf Yi
 go_loopw [14] (λs14 wr=>∃(j:Nat) (s:MkS) (r vi:Int),j<=N/\Hid (A8 wr SV (plus G w) SW c v s r vi)/\Hid (AB (c.T G) w wr)/\Hid (TA v rs c j s r vi)/\s14=iI j) (λs14 _=>N-(intOf s14).toNat)
 case atStart=>exact⟨0,s0,1,0,ζe _,Ye,Ym,⟨⟨Mk.nil _ _ _,(λ_ h=>by cases h),ζe _,(λa ha=>absurd rfl (ZH ha))⟩,rfl,(λx hx=>by cases hx),(λ_=>⟨rfl,rfl⟩),(λh=>by cases h)⟩,rfl⟩
 case round=>
  obtain⟨j,s,r,vi,hj,HM,HT,HJ,rfl⟩:=hrel;by_cases Z:j=N
  ·subst Z;have Yj:Hid (TA v rs c rs.length s r vi):=⟨by have:=HJ.o;rwa [HN.o]at this⟩;clear HJ hj;go_wp2
   go_loopg [] (c.n+1) (λk wr=>∃(s:MkS) (r vi:Int),Hid (A8 wr SV (plus G w) SW c v s r vi)/\Hid (AB (c.T G) w wr)/\Hid (TA v rs c rs.length s r vi)/\Hid (s.lost=true->c.n+1<=s.L.length+k))
   case atStart=>exact⟨s,r,vi,HM,HT,Yj,⟨λ_=>by omega⟩⟩
   case round=>
    clear HM HT Yj;clear s r vi;obtain⟨wo,rfl⟩:∃wo:World,wo=wr:=⟨_,rfl⟩;obtain⟨s,r,vi,HM,HT,HJ,HK⟩:=hrel;have k2:=HM.o.row.cc 2;obtain⟨L,st,lost⟩:=s;have Yp:=(XPh HM.o.stk);cases lost with
    | false=>
     go_wp2_with(go_at_call 144;refine Yp.mono ?_;rintro e w2 ⟨rfl,rfl⟩);refine ζw (ζl rfl _ _ _) rfl ?_;obtain⟨q1,q2,q3,q4,q5⟩:=HJ.o;exact CS.ok HT.o HM.o ⟨q1.marks (λ_ h=>h) q2 rfl (λx hx h0=>q3 x (by rw[ζ3];exact hx) h0),q4⟩
    | true=>
     have Yw:st=[]:=HJ.o.2.1;subst Yw;have Xs:=HM.o.cut;obtain⟨G1,Xq⟩:∃G1,G1=AE (plus G w) wo:=⟨_,rfl⟩;rw[<-Xq]at Xs;have Xj:Hid (∀i,G1 i->plus G w i/\i<wo.heap.size):=⟨λi hi=>by rw[Xq]at hi;exact hi⟩;have Yt:=HJ.o.2.2.2.2 rfl;have Yd:=HJ.o.1.mkd.good;have Ys:L.length<=1048576:=ζa Yd.len HM.o.ext.nb.2;obtain⟨LN,Xu⟩:∃LN,LN=L.length:=⟨_,rfl⟩;have Xf:=ι Xu;rw[<-Xu]at Ys;clear Xq Yd Xu
     go_wp2_with(first
      | (go_at_call 144;refine Yp.mono ?_;rintro e w2 ⟨rfl,rfl⟩)
      | (go_at_call 145;refine(Qf8 Xs.stk).mono ?_;rintro e w2 ⟨rfl,Xt,Yh⟩;have Xn:=(A8.popped (L:=L) (st:=[]) (lost:=true) Xs Xt Yh);have k6:=Xn.row.cc 6;have k1:=Xn.row.cc 1;have kf:=Xn.row.free 6;have Yb:=Xt;clear Xt Yh)
      | (go_at_call 146;have Xp:=(λx:Int=>Xn.set (j:=6) (u:=iI x) (r':=x) (vi':=vi) rfl);refine(Yde (Xp _).ext (Xp _).tab ((Xp _).row.cell (j:=1) rfl)).mono ?_;rintro e w3 ⟨vL,rfl,Xw,Xr⟩;have Xi:=((Xp _).gr Xw);have Yn:=ι Xw;obtain⟨A3,Ya,rfl,Yz,h32⟩:=CV Xr;have Xy:=ι Xr;rw[<-Xf.o]at Xy;rw[<-Xf.o]at Yz;clear Xw Xr))
     have hz2:wo.heap.size<=w2.heap.size:=Yb.size;have hz3:w2.heap.size<=w3.heap.size:=by simpa using Yn.o.size
     have hzw:w.heap.size<=wo.heap.size:=HT.o.size;have hBw:c.B<=w.heap.size:=H.bB
     have Yg:Hid (∀g,(Value.slice A3 LN Ya).ownBlock=some g->¬c.T (plus G1 w3) g):=⟨λg hg ht=>by
      obtain⟨a1,a2⟩:=A9 Xy.o hg;have a1:w2.heap.size<=g:=by simpa using a1
      rcases ht with h1|h1|h1|h1
      ·have:=H.sep.kB;omega
      ·have:=H.sep.mB g h1;omega
      ·have:=(Xj.o g h1).2;omega
      ·omega⟩
     have Yl:Hid (DG c SV G1 SW):=⟨Xi.sep⟩;have Yo:Hid (AB (c.T G1) wo w3):=⟨((Yb.mono (λi _ h=>.inr (.inr h))).trans (OP 6 _)).trans (Yn.o.touch _)⟩;clear k1 k2 k6 kf;rw[<-Xf.o]
     go_loopw [46] (λs46 wy=>∃(j:Nat) (s':MkS) (r' vi':Int),j<=LN/\Hid (A8 wy SV (plus G1 w3) SW c v s' r' vi')/\Hid (AB (c.T G1) w3 wy)/\Hid (wy.ownsRow 0 3 1 (.slice A3 LN Ya) LN (KN L LN))/\Hid (CB v rs c.n c.R (KJ L j) s'/\DL ⟨L,[],false⟩ s'/\s'.st=[])/\s46=iI j) (λs46 _=>LN-(intOf s46).toNat)
     case atStart=>
      exact⟨0,⟨L,[],false⟩,_,vi,ζe _,⟨Xi.up (w:=w3) Xi.bB⟩,⟨AB.refl _ _⟩,⟨Z0 Xy.o (ζe _)⟩,⟨HJ.o.1.found,DL.refl _,rfl⟩,rfl⟩
     case round=>
      obtain⟨j,s',r',vi',hj,Yq,Xz,Xx,Xo,rfl⟩:=hrel;by_cases Z:j=LN
      ·subst Z;go_wp2
       have hgk:1<=gk:=by
        have:=HK.o (by simp);have h2:=HJ.o.1.mkd.good.len;have h2:L.length<=c.n:=h2;have h3:c.n+1<=L.length+gk:=this;omega
       go_roundg (gk-1)
       case measure=>omega
       case rel=>
        obtain⟨q1,q2,q3⟩:=Xo.o;have Xa:=q2.len;have Xa:L.length<=s'.L.length:=Xa;have Yu:AB (c.T (plus G w)) wo wr:=(Yo.o.trans Xz.o).mono (λi _ h=>h.imp id (λh=>h.imp id (λh=>(Xj.o i h).1)));have Yf:s'.L≠[]:=λe=>by have h1:=Xa;rw[e]at h1;exact Yt (ζz (Nat.le_zero.1 h1))
        refine⟨s',r',vi',⟨Yq.o.sub (λi h=>h.elim (λh=>(Xj.o i h).1) (λh=>.inr Ω)) (H.sep.plus H.bB)⟩,⟨IU HT.o Yu⟩,⟨q1.weak (λa h=>absurd h (by rw[Xf.o];exact Jdx a)),q3,λx hx h0=>q2.sub _ (HJ.o.2.2.1 x hx h0),λh=>absurd h Yf,λ_=>Yf⟩,⟨λhl=>?_⟩⟩;have h5:=HK.o (by simp);have h5:c.n+1<=L.length+gk:=h5;rcases q2.los hl with h|h
        ·cases h
        ·have h:L.length<s'.L.length:=h;omega
      ·have U:j<L.length:=by have:=Xf.o;omega
       have Yy:(j:Int)<(LN:Int):=Ω
       obtain⟨g,cc',ea,-,-,-,-⟩:=E7 Xx.o Ω;simp only[Value.slice.injEq]at ea;obtain⟨rfl,-,rfl⟩:=ea;obtain⟨a,ha⟩:∃a:Int,a=(L[j].1:Nat):=⟨_,rfl⟩;have kc:=BM Xx.o (j:=j) (u:=iI a) (by rw[ha];unfold KN zs;rw[Xf.o,ζ3];simp[U]);have Yc:Hid (Hs L a/\a=(L[j].1:Nat)):=⟨⟨L[j],χ U,ha.symm⟩,ha⟩;have Xb:=ι (ϑ hj (ϑ Z U));have Xm:Hid (∀(W:World) (t:MkS) (x y:Int),A8 W SV (plus G1 w3) SW c v t x y->AB (c.T G1) w3 W->A8 W SV (plus G w) SW c v t x y/\AB (c.T G) w W):=⟨λW t x y hm ht=>⟨hm.sub (λi h=>h.elim (λh=>(Xj.o i h).1) (λh=>.inr Ω)) (H.sep.plus H.bB),IU HT.o ((Yo.o.trans ht).mono (λi _ h=>h.imp id (λh=>h.imp id (λh=>(Xj.o i h).1))))⟩⟩;clear hj Z ha
       go_wp2_with(first
        | (go_at_call 147;refine(ZUP Yq.o HP Xo.o.1 (Xo.o.2.1.sub a Yc.o.1)).mono ?_;rintro e w4 ⟨Xg,(⟨rfl,s4,r4,Xv,I,E⟩|⟨rfl,E,s4,r4,Xv,I⟩)⟩ <;> (have Yr:=ι (BS Xx.o Xg Yg.o);have J:=ι (IU Xz.o Xg);have Xe:=ι (I.back Xz.o.size Yl.o Xi.bB);have V:=ι E;clear Xg I E))
        | (go_at_call 143;refine(VAa Xe.o HP (V.o.1.done V.o.2.2.1 (Y:=KJ L (j+1)) (λx hx=>by rw[Yc.o.2];exact J6E Xb.o.2.2 hx))).mono ?_;rintro e w5 ⟨Xd,(⟨rfl,s5,r5,Xk,D,O⟩|⟨rfl,O,s5,r5,Xk,D⟩)⟩ <;> (have Za:=ι (BS Yr.o Xd Yg.o);have Xc:=ι (IU J.o Xd);have Xh:=ι (D.back J.o.size Yl.o Xi.bB);have Xl:=ι O;clear Xd D O)))
       ·go_round
        case rel=>
         obtain⟨p1,p2,p3,p4⟩:=V.o;obtain⟨t1,t2,t3,t4⟩:=Xl.o;refine⟨j+1,s5,r5,Xk,by have:=Xb.o;omega,Xh,Xc,Za,⟨t1,(Xo.o.2.1.trans p2).trans t2,t3⟩,by go_num⟩
        case measure=>have:=Xb.o;simp[intOf];omega
       ·exact⟨rfl,CS.no (Xm.o _ _ _ _ Xh.o Xc.o).2 (Xm.o _ _ _ _ Xh.o Xc.o).1 Xl.o⟩
       ·exact⟨rfl,CS.no (Xm.o _ _ _ _ Xe.o J.o).2 (Xm.o _ _ _ _ Xe.o J.o).1 V.o⟩
  ·have Yy:(j:Int)<(N:Int):=Ω
   have U:j<rs.length:=by have:=HN.o;omega
   obtain⟨b,o,rfl,hb,Yk,e0⟩:=HA j U;have i0:=(HT.o.cell hb Yk (o+j)).trans e0;obtain⟨a,ha⟩:∃a,a=rs[j]:=⟨_,rfl⟩;rw[<-ha]at i0 e0;have Yv:Hid (a≠0->Rch v rs a):=⟨λh0=>Rch.root (by rw[ha];exact χ U) h0⟩
   have Yx:Hid (∀x,x∈rs.take (j+1)->x∈rs.take j\/x=a):=⟨λx hx=>by
    rw[ζY U]at hx
    exact(ζt.1 hx).imp id (λh=>by rw[ha];exact ζO.1 h)⟩
   have Xb:=ι (ϑ hj Z);clear hj Z U ha e0 Yk
   go_wp2_with(first
    | (go_at_call 142;refine(VVL HM.o HP HJ.o.1 Yv.o).mono ?_;rintro e w4 ⟨Xg,(⟨rfl,s4,r4,Xv,I,E⟩|⟨rfl,E,s4,r4,Xv,I⟩)⟩ <;> (have J:=ι (IU HT.o Xg);have Xe:=ι (I.back HT.o.size H.sep H.bB);have V:=ι E;clear Xg I E))
    | (go_at_call 143;refine(VAa Xe.o HP V.o.1).mono ?_;rintro e w5 ⟨Xd,(⟨rfl,s5,r5,Xk,D,O⟩|⟨rfl,O,s5,r5,Xk,D⟩)⟩ <;> (have Xc:=ι (IU J.o Xd);have Xh:=ι (D.back J.o.size H.sep H.bB);have Xl:=ι O;clear Xd D O)))
   ·go_round
    case rel=>
     obtain⟨q1,q2,q3,q4,q5⟩:=HJ.o;obtain⟨p1,p2,p3,rfl,rfl⟩:=V.o;obtain⟨t1,t2,t3,t4⟩:=Xl.o;have Xa:=p2.trans t2;refine⟨j+1,s5,r5,Xk,by have:=Xb.o;omega,Xh,Xc,⟨t1,t3,λx hx h0=>?_,t4 (λh=>q4 ?_),λhl=>?_⟩,by go_num⟩
     ·rcases Yx.o x hx with h|rfl
      ·exact Xa.sub _ (q3 x h h0)
      ·exact t2.sub _ (p3 h0)
     ·have:=p2.len;rw[h]at this;exact ζz (by simpa using this)
     ·have h5:=Xa.len;rcases Xa.los hl with h|h
      ·exact λe=>q5 h (ζz (by rw[e]at h5;simpa using h5))
      ·intro e;rw[e]at h;simp at h
    case measure=>have:=Xb.o;simp[intOf];omega
   ·exact⟨rfl,CS.no Xc.o Xh.o Xl.o⟩
   ·exact⟨rfl,CS.no J.o Xe.o V.o⟩
end
theorem VUu(args:Array Value)(W:World):(callFunc 98 args).run prog W=.ok (.enter 98 args) W:=by kernel_rfl
def VS(z:Sp)(m g:Nat)(wk:Value)(L:List Ob)(r vi:Int):List Value:=[z.v,pP m,pP g,wk,iI (L.length:Nat),iI (sizes L:Nat),iI r,iI vi]
section
variable {w:World} {SV G SW:Nat->Prop} {c:MkC} {v:Vm} {rs:List Int}
theorem QNt{b12 b5 cp:Nat}{A:Option Addr}(hrow:Rec w c.k 174 (VS c.z c.m c.g (.pointer none) [] 0 0))(hp:∀a,Rch v rs a->c.z.Rd v a)(h:A8 (w.setCell ⟨c.k,3,none⟩ (.pointer (some ⟨c.wk,0,none⟩))) SV G SW c v s0 0 0)
  (c12:w.cell? ⟨b12,0,none⟩=some (pP c.k)) (c5:w.cell? ⟨b5,0,none⟩=some (.slice A rs.length cp)) (n12:b12≠c.k) (n5:b5≠c.k) (hA:FM (c.T G) w A rs) (hlen:rs.length<=maxLen):
  Calls prog 98 #[pP c.wk,pP b12,pP b5] w (CS w SV G SW c v (NX v rs c) (¬CE v rs c.n)):=by
 have k3:=hrow.cc 3;have kf:=hrow.free 3;have U:(w.setCell ⟨c.k,3,none⟩ (.pointer (some ⟨c.wk,0,none⟩))).heap.size=w.heap.size:=World.size_setCell ..;have J:=hA.touch (OP (w:=w) (c:=c) (G:=G) 3 (pP c.wk)) (λ_ _ h=>h);have Z:=(YXl (cp:=cp) h hp J hlen)
 have V:Hid (∀e w',CS (w.setCell ⟨c.k,3,none⟩ (.pointer (some ⟨c.wk,0,none⟩))) SV G SW c v (NX v rs c) (¬CE v rs c.n) e w'->CS w SV G SW c v (NX v rs c) (¬CE v rs c.n) e w'):=⟨λe w' he=>by
  obtain⟨ht,he⟩:=he;unfold plus at he;rw[U]at he
  exact⟨(OP 3 _).trans ht,he⟩⟩
 have tk:=(AB.refl (λi=>i=c.k) w).setCell (a:=⟨c.k,3,none⟩) (λ_=>rfl) (pP c.wk);have x5:=(tk.cell (AV c5) n5 0).trans c5;have x12:=(tk.cell (AV c12) n12 0).trans c12;go_enter func98,ntmps98;go_wp2_with(go_at_call 99;refine Z.mono ?_;intro e w1 he;have he:=V.o _ _ he;rcases he with⟨Y,(⟨rfl,h1⟩|⟨rfl,h1⟩)⟩)
 ·refine ζw (ζl rfl _ _ _) rfl ?_;exact⟨Y,.inl ⟨rfl,h1⟩⟩
 ·obtain⟨-,h2⟩:=h1;exact⟨rfl,Y,.inr ⟨rfl,trivial,h2⟩⟩
end
structure JR(w:World)(SV:Nat->Prop)(z:Sp)(k m p1 b1 p2 b2 n g:Nat)(v:Vm)(L:List Ob)(r vi:Int):Prop where
 zk:z.Ok
 vm:z.I v SV w
 ext:Ext w m p1 b1 p2 b2 n L
 tab:AP w
 row:∃wk,Rec w k 174 (VS z m g wk L r vi)
theorem JR.touch{S:Nat->Prop}{w w':World}{SV:Nat->Prop}{z:Sp}{k m p1 b1 p2 b2 n g:Nat}{v:Vm}{L:List Ob}{r vi:Int}(h:JR w SV z k m p1 b1 p2 b2 n g v L r vi)(t:AB S w w')(hv:∀i,SV i->¬S i)(hm:∀i,AM m b1 b2 i->¬S i)(h1:¬S p1)(h2:¬S p2)(ht:¬S 1)(hk:¬S k)(hd:∀i,z.D i->¬S i):JR w' SV z k m p1 b1 p2 b2 n g v L r vi:=
 ⟨h.zk,h.zk.fr h.vm t (λi _ hi=>⟨λh=>hv i h hi,λh=>hd i h hi⟩) (λ_ h=>h),h.ext.touch t (hm _ (.inl rfl)) h1 (hm _ (.inr (.inl rfl))) h2 (hm _ (.inr (.inr rfl))),t.tab h.tab.lt ht h.tab,by obtain⟨wk,hr⟩:=h.row;exact⟨wk,hr.touch t hk⟩⟩
def XT9(w:World)(SV SG:Nat->Prop)(z:Sp)(k m p1 b1 p2 b2 n g:Nat)(v:Vm)(rs:List Int)(e:Ending)(w':World):Prop:=
 AB (λi=>i=k\/AM m b1 b2 i\/SG i\/SV i) w w'/\∃x y L r vi,e=.returned (.agg #[iI x,iI y])/\JR w' SV z k m p1 b1 p2 b2 n g v L r vi ∧
  ((x=0/\BH v rs n L/\(L=[]->r=1/\vi=0))\/(x=25/\¬CE v rs n))
theorem Q3I{w:World}{SV SG:Nat->Prop}{z:Sp}{k m p1 b1 p2 b2 n g R b12 b5 cp:Nat}{v:Vm}{rs:List Int}{A:Option Addr}(hz:z.Ok/\¬z.M)(hfail:CE v rs n\/∃q,z=spM q)(hp:∀a,Rch v rs a->z.Rd v a)(hD:∀i,z.D i->i<w.heap.size/\¬(i=k\/AM m b1 b2 i\/SG i))(hV:z.I v SV w)(hE:Ext w m p1 b1 p2 b2 n [])(hS:B7 w SG g [] R false)(hR:Rec w k 174 (VS z m g (.pointer none) [] 0 0))(hT:AP w)
  (c12:w.cell? ⟨b12,0,none⟩=some (pP k)) (c5:w.cell? ⟨b5,0,none⟩=some (.slice A rs.length cp)) (n12:b12≠k) (n5:b5≠k) (hA:FM (λi=>i=k\/AM m b1 b2 i\/SG i) w A rs) (hlen:rs.length<=maxLen)
  (hSV:∀i,SV i->i<w.heap.size/\¬(i=k\/AM m b1 b2 i\/SG i)) (hSG:∀i,SG i->i<w.heap.size) (hp1:¬(p1=k\/AM m b1 b2 p1\/SG p1)) (hp2:¬(p2=k\/AM m b1 b2 p2\/SG p2)) (htb:¬(1=k\/AM m b1 b2 1\/SG 1))
  (hv1:¬SV p1) (hv2:¬SV p2) (hvt:¬SV 1) (hkm:¬AM m b1 b2 k) (hkg:¬SG k) (hmg:∀i,AM m b1 b2 i->¬SG i):
  Calls prog 97 #[z.v,.func (.func 98) #[] #[pP b12,pP b5]] w (XT9 w SV SG z k m p1 b1 p2 b2 n g v rs):=by
 have Xq:(AK w z.v).heap.size=w.heap.size+2:=by unfold AK;rw[γ,γ]
 obtain⟨q0,Xl⟩:∃q0,∀q,z=spM q->q0=q:=by
  by_cases h:∃q,z=spM q
  ·obtain⟨q,rfl⟩:=h;exact⟨q,λq' h=>by have:=congrArg Sp.rv h;simp[spM]at this;exact this⟩
  ·exact⟨0,λq h'=>absurd ⟨q,h'⟩ h⟩
 obtain⟨W0,J⟩:∃W0,W0=E0 (AK w z.v) (w.heap.size+1):=⟨_,rfl⟩;have Xn:W0.heap.size=w.heap.size+5:=by rw[J];unfold E0;rw[γ,γ,γ,Xq]
 have g1:Gr w (AK w z.v):=((Gr.refl w).alloc _).alloc _;have g2:Gr (AK w z.v) W0:=by rw[J];exact(((Gr.refl _).alloc _).alloc _).alloc _
 have g0:Gr w W0:=g1.trans g2;have Xo:=hR.lt
 have Z:∀i,AM m b1 b2 i->i<w.heap.size:=λi hi=>by
  rcases hi with rfl|rfl|rfl
  ·exact hE.hm
  ·exact hE.v1.hb
  ·exact hE.v2.hb
 have Xs:p1<w.heap.size:=hE.v1.hp;have Xk:p2<w.heap.size:=hE.v2.hp;have Xt:=hT.lt;obtain⟨c,hc⟩:∃c:MkC,c=⟨k,z,m,p1,b1,p2,b2,n,g,R,w.heap.size+1,w.heap.size+5⟩:=⟨_,rfl⟩
 have Xd:∀i,c.T SG i->i<w.heap.size:=λi hi=>by
  rw[hc]at hi;rcases hi with rfl|hi|hi
  ·exact Xo
  ·exact Z i hi
  ·exact hSG i hi
 have O:DG c SV SG (λi=>i=w.heap.size+1):=by
  have B:=Xd;rw[hc]at B⊢;exact⟨λi hi=>⟨by have:=(hSV i hi).1;show i<w.heap.size+5;omega,(hSV i hi).2⟩,λi hi=>⟨by show i<w.heap.size+5;omega,λh=>by have:=B i h;omega⟩,⟨by show _<w.heap.size+5;omega,htb⟩,⟨by show p1<w.heap.size+5;omega,hp1⟩,⟨by show p2<w.heap.size+5;omega,hp2⟩,hkm,hkg,by show k<w.heap.size+5;omega,hmg,λi hi=>by have:=Z i hi;show i<w.heap.size+5;omega,λi hi=>⟨by have:=(hD i hi).1;show i<w.heap.size+5;omega,(hD i hi).2⟩⟩
 have Xx:A8 (W0.setCell ⟨c.k,3,none⟩ (.pointer (some ⟨c.wk,0,none⟩))) SV SG (λi=>i=w.heap.size+1) c v s0 0 0:=by
  have tk:AB (λi=>i=c.k) W0 (W0.setCell ⟨c.k,3,none⟩ (.pointer (some ⟨c.wk,0,none⟩))):=(AB.refl (λi=>i=c.k) _).setCell (a:=⟨c.k,3,none⟩) (λ_=>rfl) _;have hw:=(QE w z.v).gr g2;rw[hc]at tk O⊢;refine⟨hz.1.fr (hz.1.gr hV g0) tk (λi _ e=>⟨λh=>(hSV i h).2 (.inl e),λh=>(hD i h).2 (.inl e)⟩) (λ_ h=>h),(hE.gr g0).touch tk (λe=>hkm (.inl e.symm)) (λe=>hp1 (.inl e)) (λe=>hkm (.inr (.inl e.symm))) (λe=>hp2 (.inl e)) (λe=>hkm (.inr (.inr e.symm))),(hS.gr g0).touch tk (λi hi _ e=>hkg (by subst e;exact hi)),hw.touch tk (λi hi _ e=>by have e:i=k:=e;omega),(hR.gr g0).set 3 (pP (w.heap.size+1)),tk.tab (g0.tab hT.lt hT).lt (λe=>htb (.inl e)) (g0.tab hT.lt hT),O,?_,hz⟩
  show w.heap.size+5<=_
  rw[World.size_setCell,Xn];exact π _
 have Xc:=QNt (w:=W0) (b12:=b12) (b5:=b5) (cp:=cp) (A:=A) (rs:=rs) (by rw[hc];exact hR.gr g0) (by rw[hc];exact hp) Xx (by rw[hc];exact(g0.cell (AV c12) 0).trans c12) ((g0.cell (AV c5) 0).trans c5) (by rw[hc];exact n12) (by rw[hc];exact n5)
  (by rw[hc];exact hA.gr g0) hlen
 have V:Calls prog 98 (#[pP (w.heap.size+1)]++#[pP b12,pP b5]) W0
   (OL q0 (w.heap.size+1) (w.heap.size+3) (c.T SG) W0 (λw1=>∃s r vi,A8 w1 SV (plus SG W0) (λi=>i=w.heap.size+1) c v s r vi/\NX v rs c s r vi)
    (λXa _ v' l S S2 w1=>Xa=25/\v'=v/\l=[]/\S=(λi=>i=w.heap.size+1)/\S2=SV/\¬CE v rs c.n/\∃s r vi,A8 w1 SV (plus SG W0) (λi=>i=w.heap.size+1) c v s r vi)):=by
  have hb:=Xc;rw[show c.wk=w.heap.size+1 by rw[hc]]at hb;refine hb.mono ?_;rintro e w1 ⟨ht,(⟨rfl,s,r,vi,hm,hp⟩|⟨rfl,hn,s,r,vi,hm⟩)⟩
  ·exact⟨ht,.inl ⟨rfl,s,r,vi,hm,hp⟩⟩
  ·obtain⟨q,hq⟩:=hfail.resolve_left (by have:=hn;rwa [show c.n=n by rw[hc]]at this);obtain rfl:=Xl q hq;have Xp:=hm.wk;have Xg:=hm.vm;rw[show c.wk=w.heap.size+1 by rw[hc],show c.z=spM q0 by rw[hc];exact hq]at Xp;rw[show c.z=spM q0 by rw[hc];exact hq]at Xg;exact⟨ht,.inr ⟨25,0,v,[],_,_,rfl,Xp,Xg,λi hi h=>by have:=(hSV i h).1;omega,by omega,λh=>by have:=(hSV _ h).1;omega,rfl,rfl,rfl,rfl,rfl,hn,s,r,vi,hm⟩⟩
 have Xf:=XG (w:=w) (sp:=z.v) (q:=q0) (F:=98) (caps:=#[pP b12,pP b5]) ⟨_,_,rfl⟩ VUu (by rw[<-J];exact V)
  (λi h1 h2 h=>by have:=Xd i h;omega) (λh=>by have:=Xd _ h;omega) (λXa a' v' l S' S2 w1 h=>by
   obtain⟨-,-,-,rfl,rfl,-⟩:=h
   exact⟨by omega,λh=>by have:=(hSV _ h).1;omega⟩)
 refine Xf.mono ?_;rintro e w' ⟨w2,fx,fy,⟨w1,Xi,hp⟩,rfl,rfl⟩;rw[<-J]at Xi;rw[Xq]at hp;subst hc;have T1:AB (λi=>i=k\/AM m b1 b2 i\/SG i\/SV i) w w1:=(g0.touch _).trans' Xi (λi hi h=>h.imp id (λh=>h.imp id .inl));have Xj:∀s r vi,A8 w1 SV (plus SG W0) (λi=>i=w.heap.size+1) ⟨k,z,m,p1,b1,p2,b2,n,g,R,w.heap.size+1,w.heap.size+5⟩ v s r vi->JR w1 SV z k m p1 b1 p2 b2 n g v s.L r vi:=λs r vi hm=>⟨hz.1,hm.vm,hm.ext,hm.tab,_,hm.row⟩
 have E:∀(W1 W2:World) (L:List Ob) (r vi:Int),JR W1 SV z k m p1 b1 p2 b2 n g v L r vi->AB (λi=>w.heap.size<=i) W1 W2->JR W2 SV z k m p1 b1 p2 b2 n g v L r vi:=λW1 W2 L r vi h t=>
  h.touch t (λi hi h=>by have:=(hSV i hi).1;omega) (λi hi h=>by have:=Z i hi;omega) Ω Ω Ω Ω (λi hi h=>by have:=(hD i hi).1;omega)
 have Xe:∀(W:World) (z1 z2:Value),AB (λi=>w.heap.size<=i) W ((W.setCell ⟨w.heap.size,0,none⟩ z1).setCell ⟨w.heap.size,1,none⟩ z2):=λW z1 z2=>
  ((AB.refl (λi=>w.heap.size<=i) W).setCell (a:=⟨w.heap.size,0,none⟩) (λ_=>π _) z1).setCell (a:=⟨w.heap.size,1,none⟩) (λ_=>π _) z2
 rcases hp with⟨⟨s,r,vi,hm,Xm,Xh⟩,he,rfl⟩|⟨Xa,a',v',l,S',S2,⟨rfl,rfl,rfl,rfl,rfl,hn,s,r,vi,hm⟩,he,Xw⟩
 ·have Xb:fx=0/\fy=0:=by simpa using he
  obtain⟨rfl,rfl⟩:=Xb;have Xu:=((AB.refl (λi=>w.heap.size<=i) w1).setCell (a:=⟨w.heap.size+2+1,0,none⟩) (λ_=>by show w.heap.size<=w.heap.size+2+1;omega) (iI 0)).setCell (a:=⟨w.heap.size+2+1,1,none⟩) (λ_=>by show w.heap.size<=w.heap.size+2+1;omega) (iI 0);have Xr:=Xu.trans (Xe _ (iI 0) (iI 0));exact⟨T1.trans' Xr (λi hi h=>by omega),0,0,s.L,r,vi,rfl,E _ _ _ _ _ (Xj s r vi hm) Xr,.inl ⟨rfl,Xm,Xh⟩⟩
 ·have Xb:fx=25/\fy=a':=by simpa using he
  obtain⟨rfl,rfl⟩:=Xb;obtain⟨q1,q2,q3,q4⟩:=Xw;obtain⟨q,hq⟩:=hfail.resolve_left hn;obtain rfl:=Xl q hq;subst hq
  have Y:∀i,i<w.heap.size->¬S2 i->¬(i=w.heap.size+1\/S2 i\/i=w.heap.size+2+1):=λi hi hs h=>by
   rcases h with h|h|h
   ·omega
   ·exact hs h
   ·omega
  have U:=Xj s r vi hm
  have Xv:JR w2 S2 (spM q0) k m p1 b1 p2 b2 n g v' s.L r vi:=⟨hz.1,q2,U.ext.touch q1 (Y _ (Z _ (.inl rfl)) (λh=>(hSV _ h).2 (.inr (.inl (.inl rfl))))) (Y _ Xs hv1) (Y _ (Z _ (.inr (.inl rfl))) (λh=>(hSV _ h).2 (.inr (.inl (.inr (.inl rfl)))))) (Y _ Xk hv2) (Y _ (Z _ (.inr (.inr rfl))) (λh=>(hSV _ h).2 (.inr (.inl (.inr (.inr rfl)))))),
   q1.tab U.tab.lt (Y _ Xt hvt) U.tab,by obtain⟨wk,hr⟩:=U.row;exact⟨wk,hr.touch q1 (Y _ Xo (λh=>(hSV _ h).2 (.inl rfl)))⟩⟩
  refine⟨(T1.trans' q1 (λi hi h=>?_)).trans' (Xe _ _ _) (λi hi h=>by omega),25,fy,s.L,r,vi,rfl,E _ _ _ _ _ Xv (Xe _ _ _),.inr ⟨rfl,hn⟩⟩;rcases h with h|h|h
  ·omega
  ·exact .inr (.inr (.inr h))
  ·omega
def L1(a b c d:Int):Value:=.agg #[iI a,iI b,iI c,iI d]
theorem UF(W:World)(blk off:Nat)(p q r s:Value)(h0:W.cell? ⟨blk,off,none⟩=some p)(h1:W.cell? ⟨blk,off+1,none⟩=some q)(h2:W.cell? ⟨blk,off+2,none⟩=some r)(h3:W.cell? ⟨blk,off+3,none⟩=some s):(loadVar 107 ⟨blk,off,none⟩).run prog W=.ok (.agg #[p,q,r,s]) W:=by
 have a1:(isAgg 107).run prog W=.ok true W:=by kernel_rfl
 have a2:(sizeOf 107).run prog W=.ok 4 W:=by kernel_rfl
 simp[loadVar,Sem.run_bind,a1,a2,Result.andThen,loadCells,go_sem,h0,h1,h2,h3]
def VA2(w:World)(SV:Nat->Prop)(z:Sp)(m p1 b1 p2 b2 n:Nat)(v:Vm)(rs:List Int)(room:Int)(e:Ending)(w':World):Prop:=
 ((room<1\/4096<room)/\e=.returned (.tuple #[L1 0 0 0 0,iI 5])/\Gr w w') ∨
 (1<=room/\room<=4096/\AB (λi=>AM m b1 b2 i\/SV i) w w'/\z.I v SV w' ∧
  ((∃L r vi,e=.returned (.tuple #[L1 (L.length:Nat) (sizes L:Nat) r vi,iI 0])/\Ext w' m p1 b1 p2 b2 n L/\BH v rs n L/\(L=[]->r=1/\vi=0)) ∨
   (e=.returned (.tuple #[L1 0 0 0 0,iI 25])/\Ext w' m p1 b1 p2 b2 n []/\¬CE v rs n)))
section
variable {w:World} {SV:Nat->Prop} {z:Sp} {q m p1 b1 p2 b2 n:Nat} {v:Vm} {rs:List Int} {L0:List Ob} {A:Option Addr} {cp:Nat}
theorem KW(w:World)(o:Obj)(T:Nat)(xs:List Value):Rec ((w.alloc o).alloc (.cells xs.toArray T)) (w.heap.size+1) T xs:=by
 have:=Rec.new (w.alloc o) T xs
 simp_all
theorem YC(w:World)(o o':Obj)(T:Nat)(xs:List Value):Rec ((w.alloc o).alloc (.cells xs.toArray T)) (w.heap.size+1) T xs/\Rec (((w.alloc (.cells xs.toArray T)).alloc o')) w.heap.size T xs:=by
 have:=Rec.new (w.alloc o) T xs;rw[γ]at this;exact⟨this,(Rec.new w T xs).gr ((Gr.refl _).alloc _)⟩
theorem MP(W:World)(b:Nat)(z0 z1 z2 z3:Value):AB (λi=>i=b) W ((((W.setCell ⟨b,0,none⟩ z0).setCell ⟨b,1,none⟩ z1).setCell ⟨b,2,none⟩ z2).setCell ⟨b,3,none⟩ z3):=
 ((((AB.refl (λi=>i=b) W).setCell (a:=⟨b,0,none⟩) (λ_=>rfl) z0).setCell (a:=⟨b,1,none⟩) (λ_=>rfl) z1).setCell (a:=⟨b,2,none⟩) (λ_=>rfl) z2).setCell (a:=⟨b,3,none⟩) (λ_=>rfl) z3
theorem ZDS{W:World}{S:Nat->Prop}{z0 z1 z2 z3:Value}(h:AB S w W):AB S w ((((W.setCell ⟨w.heap.size+1,0,none⟩ z0).setCell ⟨w.heap.size+1,1,none⟩ z1).setCell ⟨w.heap.size+1,2,none⟩ z2).setCell ⟨w.heap.size+1,3,none⟩ z3):=by
 have hx:∀j:Nat,(⟨w.heap.size+1,j,none⟩:Addr).block<w.heap.size->S (⟨w.heap.size+1,j,none⟩:Addr).block:=λj h=>absurd h (by grind);exact(((h.setCell (hx 0) z0).setCell (hx 1) z1).setCell (hx 2) z2).setCell (hx 3) z3
theorem Xbg(hz:z.Ok/\¬z.M)(hfail:CE v rs n\/∃q,z=spM q)(hp:∀a,Rch v rs a->z.Rd v a)(hD:∀i,z.D i->i<w.heap.size/\¬AM m b1 b2 i)(hV:z.I v SV w)(hE:Ext w m p1 b1 p2 b2 n L0)(hT:AP w)(hA:FM (AM m b1 b2) w A rs)(hlen:rs.length<=maxLen)
  (hvm:∀i,SV i->¬AM m b1 b2 i) (hv1:¬SV p1) (hv2:¬SV p2) (hvt:¬SV 1) (htm:¬AM m b1 b2 1) (room:Int):
  Calls prog 53 #[z.v,.slice A rs.length cp,pP m,iI room] w (VA2 w SV z m p1 b1 p2 b2 n v rs room):=by
 have HE:=hE;have HV:=(hz.1.ct hV);have HZ:=hz;have HF:=hfail;have HP:=hp;have HD:=hD;have HT:=hT;have HA:=hA;have hn1:=hE.nb.1;have dn:((n:Int)==0)=false:=by simp;omega
 have Xy:∀i,AM m b1 b2 i->i<w.heap.size:=λi hi=>by
  rcases hi with rfl|rfl|rfl
  ·exact hE.hm
  ·exact hE.v1.hb
  ·exact hE.v2.hb
 have Xj:p1<w.heap.size:=hE.v1.hp;have Xf:p2<w.heap.size:=hE.v2.hp;have Yt:=hT.lt
 have Xe:¬AM m b1 b2 p1:=λh=>by
  rcases h with h|h|h
  ·exact hE.am.1 h.symm
  ·exact hE.v1.ne h
  ·exact hE.ab.1 h
 have Xd:¬AM m b1 b2 p2:=λh=>by
  rcases h with h|h|h
  ·exact hE.am.2.2.1 h.symm
  ·exact hE.ab.2.1 h
  ·exact hE.v2.ne h
 have U:=Xy;obtain⟨N,hN⟩:∃N,N=rs.length:=⟨_,rfl⟩;have HN:=ι hN;rw[<-hN]at hlen⊢;have h5:=(YC w (.cells #[.slice A N cp] 66) (.cells #[.int .i64 0,.int .i64 0,.int .i64 0,.int .i64 0] 107) 66 [.slice A N cp]).2;have h8:=(YC w (.cells #[.slice A N cp] 66) (.cells #[] 66) 107 [iI 0,iI 0,iI 0,iI 0]).1;have Xx:=h5;have V:=h8;have Xk:Gr w ((w.alloc (.cells #[.slice A N cp] 66)).alloc (.cells #[.int .i64 0,.int .i64 0,.int .i64 0,.int .i64 0] 107)):=((Gr.refl w).alloc _).alloc _;have Yg:((w.alloc (.cells #[.slice A N cp] 66)).alloc (.cells #[.int .i64 0,.int .i64 0,.int .i64 0,.int .i64 0] 107)).heap.size=w.heap.size+2:=by rw[γ,γ]
 obtain⟨wa,Xc⟩:∃wa,wa=((w.alloc (.cells #[.slice A N cp] 66)).alloc (.cells #[.int .i64 0,.int .i64 0,.int .i64 0,.int .i64 0] 107)):=⟨_,rfl⟩;rw[show (w.alloc (.cells ([.slice A N cp]:List Value).toArray 66)).alloc (.cells #[.int .i64 0,.int .i64 0,.int .i64 0,.int .i64 0] 107)=wa from Xc.symm]at Xx;rw[show (w.alloc (.cells #[.slice A N cp] 66)).alloc (.cells ([.int .i64 0,.int .i64 0,.int .i64 0,.int .i64 0]:List Value).toArray 107)=wa from Xc.symm]at V;rw[<-Xc]at Xk Yg;have Yo:=Xk;have Yj:=ι Xc;have Xw:=(HE.gr Xk);have Xs:Hid (∀i,AE SV w i->i<w.heap.size/\¬AM m b1 b2 i):=⟨λi hi=>⟨hi.2,hvm i hi.1⟩⟩;have Ye:=(ϑ hv1 (ϑ hv2 (ϑ hvt (ϑ htm (ϑ Xe Xd)))));clear hV hz hfail hp hD hE hT hA h5 h8 Xc Xk hvm hv1 hv2 hvt htm Xe Xd Xy hN;by_cases Xq:room<1\/4096<room
 ·have Xu:Hid (∀W,cQ 95 #[iI room] W (.tuple #[.pointer none,iI 5])):=⟨λW=>(VgV room W).mono λe w' h=>by
   rcases h with⟨-,h1,h2⟩|⟨h1,h2,-⟩
   ·exact⟨h1,h2⟩
   ·omega⟩
  have Xa:=Xq;unfold Sp.v;go_enter func53,ntmps53;go_upto_region 1 with(fail);rw[<-Yj.o];have y0:=V.cc 0;have y1:=V.cc 1;have y2:=V.cc 2;have y3:=V.cc 3;have yf:=V.free
  go_wp2_with(first
   | (go_at_call 94;refine(EX Xw).mono ?_;rintro e w1 ⟨rfl,rfl⟩)
   | (go_at_call 95;refine(Xu.o _).mono ?_;rintro e w1 ⟨rfl,rfl⟩))
  have R:=((((V.set 0 (iI 0)).set 1 (iI 0)).set 2 (iI 0)).set 3 (iI 0));have hl:=UF _ _ 0 _ _ _ _ (R.cc 0) (R.cc 1) (R.cc 2) (R.cc 3);refine ζD (v:=.tuple #[.agg #[iI 0,iI 0,iI 0,iI 0],iI 5]) ?_ rfl (.inl ⟨Xa,rfl,?_⟩)
  ·rw[results_cell_tmp rfl];simp[asAddr,Result.andThen,hl]
  ·exact(ZDS (Yo.touch _)).gr
 ·have Xn:1<=room/\room<=4096:=Ω
  have Xu:Hid (∀W,Calls prog 95 #[iI room] W λe w'=>e=.returned (.tuple #[pP W.heap.size,iI 0])/\Gr W w'/\B7 w' (λk=>W.heap.size<=k) W.heap.size [] room.toNat false):=⟨λW=>(VgV room W).mono λe w' h=>by
   rcases h with⟨h1,-⟩|⟨-,-,h1,h2,h3⟩
   ·omega
   ·exact⟨h1,h2,h3⟩⟩
  have Xa:=Xn;unfold Sp.v;go_enter func53,ntmps53;go_upto_region 1 with(fail);rw[<-Yj.o];obtain⟨gs,Ym⟩:∃gs,gs=wa.heap.size:=⟨_,rfl⟩;have Yy:=Ym
  go_upto_region 8 with(first
   | (go_at_call 94;refine(EX Xw).mono ?_;rintro e w1 ⟨rfl,rfl⟩)
   | (go_at_call 95;refine(Xu.o _).mono ?_;rintro e ws ⟨rfl,Yh,Yi⟩;have J:=Yh;have Ys:=Yi.cut)
   | (go_at_call 96;refine(Zca (Xw.gr J)).mono ?_;rintro e w3 ⟨rfl,Za,Yz⟩;have Xh:=Za;have Zc:=Yz))
  have Yd:Hid (B7 ws (AE (λk=>w.heap.size+2<=k) ws) (w.heap.size+2) [] room.toNat false):=⟨by have:=Ys;rw[Yg]at this;exact this⟩;have Yx:=J.size;have hz3:=Xh.size;have Yv:w.heap.size+2<=w3.heap.size:=Ω
  have B:∀i,AM m b1 b2 i->i<w.heap.size:=U;obtain⟨hv1,hv2,hvt,htm,Xe,Xd⟩:=Ye;have g2:Gr w3 ((w3.alloc (.cells #[.iface z.T z.rv,.pointer (some ⟨m,0,none⟩),.pointer (some ⟨w.heap.size+2,0,none⟩),.pointer none,.int .i64 0,.int .i64 0,.int .i64 0,.int .i64 0] 174)).alloc (.cells #[.pointer (some ⟨w3.heap.size,0,none⟩)] 171)):=((Gr.refl w3).alloc _).alloc _;have Xg:((w3.alloc (.cells #[.iface z.T z.rv,.pointer (some ⟨m,0,none⟩),.pointer (some ⟨w.heap.size+2,0,none⟩),.pointer none,.int .i64 0,.int .i64 0,.int .i64 0,.int .i64 0] 174)).alloc (.cells #[.pointer (some ⟨w3.heap.size,0,none⟩)] 171)).heap.size=w3.heap.size+2:=by rw[γ,γ]
  have Xm:=KW w3 (.cells #[.iface z.T z.rv,.pointer (some ⟨m,0,none⟩),.pointer (some ⟨w.heap.size+2,0,none⟩),.pointer none,.int .i64 0,.int .i64 0,.int .i64 0,.int .i64 0] 174) 171 [pP w3.heap.size];have rk:=(Rec.new w3 174 [.iface z.T z.rv,pP m,pP (w.heap.size+2),.pointer none,iI 0,iI 0,iI 0,iI 0]).gr ((Gr.refl _).alloc (.cells #[.pointer (some ⟨w3.heap.size,0,none⟩)] 171));obtain⟨W,hW⟩:∃W,W=((w3.alloc (.cells #[.iface z.T z.rv,.pointer (some ⟨m,0,none⟩),.pointer (some ⟨w.heap.size+2,0,none⟩),.pointer none,.int .i64 0,.int .i64 0,.int .i64 0,.int .i64 0] 174)).alloc (.cells #[.pointer (some ⟨w3.heap.size,0,none⟩)] 171)):=⟨_,rfl⟩;rw[<-hW]at g2 Xg⊢;rw[show (w3.alloc (.cells #[.iface z.T z.rv,.pointer (some ⟨m,0,none⟩),.pointer (some ⟨w.heap.size+2,0,none⟩),.pointer none,.int .i64 0,.int .i64 0,.int .i64 0,.int .i64 0] 174)).alloc (.cells ([.pointer (some ⟨w3.heap.size,0,none⟩)]:List Value).toArray 171)=W from hW.symm]at Xm;rw[show (w3.alloc (.cells ([.iface z.T z.rv,.pointer (some ⟨m,0,none⟩),.pointer (some ⟨w.heap.size+2,0,none⟩),.pointer none,.int .i64 0,.int .i64 0,.int .i64 0,.int .i64 0]:List Value).toArray 174)).alloc (.cells #[.pointer (some ⟨w3.heap.size,0,none⟩)] 171)=W from hW.symm]at rk;have tW:AB (AM m b1 b2) w W:=((Yo.trans J).touch _ |>.trans Xh).trans (g2.touch _)
  have Z:∀i,i<w.heap.size->¬AM m b1 b2 i->¬(i=w3.heap.size\/AM m b1 b2 i\/AE (λk=>w.heap.size+2<=k) ws i):=λi hi hn h=>by
   rcases h with h|h|h
   ·omega
   ·exact hn h
   ·have:=h.1;omega
  have Xi:=Q3I (w:=W) (SV:=AE SV w) (SG:=AE (λk=>w.heap.size+2<=k) ws) (z:=z) (k:=w3.heap.size) (m:=m) (g:=w.heap.size+2) (R:=room.toNat) (b12:=w3.heap.size+1) (b5:=w.heap.size) (cp:=cp) (v:=v) (rs:=rs) (A:=A)
   HZ HF HP (λi hi=>⟨by have:=(HD i hi).1;omega,Z i (HD i hi).1 (HD i hi).2⟩) (HZ.1.fr HV tW (λi _ h=>⟨λhi=>(Xs.o i hi).2 h,λhi=>(HD i hi).2 h⟩) (λ_ h=>h)) (Zc.gr g2) ((Yd.o.touch Xh (λi hi _ h=>by have:=B i h;have:=hi.1;omega)).gr g2) rk (tW.tab HT.lt htm HT)
   (Xm.cc 0) (by rw[<-HN.o];exact(((Xx.gr J).touch Xh (λh=>by have:=B _ h;omega)).gr g2).cell (j:=0) rfl) Ω Ω
   ((HA.mono (T':=λi=>i=w3.heap.size\/AM m b1 b2 i\/AE (λk=>w.heap.size+2<=k) ws i) (λb hb h=>by
    rcases h with h|h|h
    ·omega
    ·exact h
    ·have:=h.1;omega)).touch tW (λ_ _ h=>.inr (.inl h))) (by rw[<-HN.o];exact hlen)
   (λi hi=>⟨by have:=hi.2;omega,λh=>by
    rcases h with h|h|h
    ·have:=hi.2;omega
    ·exact(Xs.o i hi).2 h
    ·have:=hi.2;have:=h.1;omega⟩) (λi hi=>by have:=hi.2;omega) (Z _ Xj Xe) (Z _ Xf Xd) (Z _ Yt htm) (λh=>hv1 h.1) (λh=>hv2 h.1) (λh=>hvt h.1) (λh=>by have:=B _ h;omega) (λh=>by have:=h.2;omega) (λi hi h=>by have:=B i hi;have:=h.1;omega)
  have Xp:=Xi;have Yk:=tW;have Yf:=Xm;have Yp:=(((V.gr J).touch Xh (λh=>by have:=B _ h;omega)).gr g2);have Xt:=(ϑ Yv (ϑ Xg Yx))
  have Yc:Hid (∀i,w.heap.size<=i->i<w.heap.size+2\/i=w3.heap.size+1->¬(i=w3.heap.size\/AM m b1 b2 i\/AE (λk=>w.heap.size+2<=k) ws i\/AE SV w i)):=⟨λi h1 h2 h=>by
   rcases h with h|h|h|h
   ·omega
   ·have:=B i h;omega
   ·have:=h.1;have:=h.2;omega
   ·have:=h.2;omega⟩
  unfold Sp.v at Xp;clear Xi tW Xm rk hW g2 Z Xg B Xe Xd hv1 hv2 hvt htm Ym Yy;have hcf:=VUu;have hmf:∀(fn:Fn) (first cap:Array Value) (w:World),(Instr.makeFunc fn first cap).run prog w=.ok (.func fn first cap) w:=λ_ _ _ _=>rfl
  go_wp2_with(first
   | (go_at_call 97;refine Xp.mono ?_;rintro e w5 ⟨Xv,x,y,L,r,vi,rfl,Yr,(⟨rfl,Yw,Yq⟩|⟨rfl,Yu⟩)⟩ <;> (have Ya:=Xv;have Xl:=Yr;have Xz:=Yf.touch Xv (Yc.o _ (by have:=Xt.1;omega) (.inr rfl));have R8:=Yp.touch Xv (Yc.o _ Ω (.inl Ω));have x12:=Xz.cc 0;have l12:=Xz.lt;have l8:=R8.lt;have e0:=R8.cc 0;have e1:=R8.cc 1;have e2:=R8.cc 2;have e3:=R8.cc 3;have ef:=R8.free;obtain⟨wk,O⟩:=Yr.row;have k4:=O.cc 4;have k5:=O.cc 5;have k6:=O.cc 6;have k7:=O.cc 7;have lk:=O.lt;have Xo:=R8))
   | (go_at_call 96;refine(Zca (Xl.ext.gr ((Gr.refl _).alloc _))).mono ?_;rintro e w6 ⟨rfl,Yl,Zd⟩;have Xb:=(Xo.gr ((Gr.refl _).alloc (.cells #[.int .i64 25,.int .i64 y] 176))).touch Yl (λh=>by have:=U _ h;omega);have f0:=Xb.cc 0;have f1:=Xb.cc 1;have f2:=Xb.cc 2;have f3:=Xb.cc 3;have ff:=Xb.free;have Yn:=Xb;have Yb:=Yl;have Zb:=Zd))
  ·have E:=λW=>(Gr.refl W).alloc (.cells #[.int .i64 0,.int .i64 y] 176);have R:=(((((Xo).set 0 (iI (L.length:Nat))).set 1 (iI (sizes L:Nat))).set 2 (iI r)).set 3 (iI vi)).gr (E _);have hl:=UF _ _ 0 _ _ _ _ (R.cc 0) (R.cc 1) (R.cc 2) (R.cc 3);have tf:=MP w5 (w.heap.size+1) (iI (L.length:Nat)) (iI (sizes L:Nat)) (iI r) (iI vi)
   have hT:AB (λi=>AM m b1 b2 i\/SV i) w w5:=(Yk.mono (λi _ h=>.inl h)).trans' Ya (λi hi h=>by
    rcases h with h|h|h|h
    ·have:=Xt.1;omega
    ·exact .inl h
    ·have:=h.1;omega
    ·exact .inr h.1)
   have Xr:=(hT.trans' tf (λi hi h=>by omega)).trans ((E _).touch _);refine ζD (v:=.tuple #[.agg #[iI (L.length:Nat),iI (sizes L:Nat),iI r,iI vi],iI 0]) ?_ rfl (.inr ⟨Xa.1,Xa.2,Xr,?_,.inl ⟨L,r,vi,rfl,?_,Yw,Yq⟩⟩)
   ·rw[results_cell_tmp rfl];simp[asAddr,Result.andThen,hl]
   ·exact HZ.1.mono (HZ.1.gr (HZ.1.fr Xl.vm tf (λi _ h=>⟨λhi=>by have:=hi.2;omega,λhi=>by have:=(HD i hi).1;omega⟩) (λ_ h=>h)) (E _)) (λi hi=>hi.1)
   ·have Y:∀i,i<w.heap.size->i≠w.heap.size+1:=λi h=>by omega
    exact(Xl.ext.touch tf (Y _ (U _ (.inl rfl))) (Y _ Xj) (Y _ (U _ (.inr (.inl rfl)))) (Y _ Xf) (Y _ (U _ (.inr (.inr rfl))))).gr (E _)
  ·have E:=(Gr.refl w5).alloc (.cells #[.int .i64 25,.int .i64 y] 176);have R:=(((((Yn).set 0 (iI 0)).set 1 (iI 0)).set 2 (iI 0)).set 3 (iI 0));have hl:=UF _ _ 0 _ _ _ _ (R.cc 0) (R.cc 1) (R.cc 2) (R.cc 3);have tf:=MP w6 (w.heap.size+1) (iI 0) (iI 0) (iI 0) (iI 0)
   have hT:AB (λi=>AM m b1 b2 i\/SV i) w w5:=(Yk.mono (λi _ h=>.inl h)).trans' Ya (λi hi h=>by
    rcases h with h|h|h|h
    ·have:=Xt.1;omega
    ·exact .inl h
    ·have:=h.1;omega
    ·exact .inr h.1)
   have Xr:=((hT.trans (E.touch _)).trans (Yb.mono (λi _ h=>.inl h))).trans' tf (λi hi h=>by omega);refine ζD (v:=.tuple #[.agg #[iI 0,iI 0,iI 0,iI 0],iI 25]) ?_ rfl (.inr ⟨Xa.1,Xa.2,Xr,?_,.inr ⟨rfl,?_,Yu⟩⟩)
   ·rw[results_cell_tmp rfl];simp[asAddr,Result.andThen,hl]
   ·exact HZ.1.mono (HZ.1.fr (HZ.1.fr (HZ.1.gr Xl.vm E) Yb (λi _ h=>⟨λhi=>(Xs.o i hi).2 h,λhi=>(HD i hi).2 h⟩) (λ_ h=>h)) tf (λi _ h=>⟨λhi=>by have:=hi.2;omega,λhi=>by have:=(HD i hi).1;omega⟩) (λ_ h=>h)) (λi hi=>hi.1)
   ·have Y:∀i,i<w.heap.size->i≠w.heap.size+1:=λi h=>by omega
    exact Zb.touch tf (Y _ (U _ (.inl rfl))) (Y _ Xj) (Y _ (U _ (.inr (.inl rfl)))) (Y _ Xf) (Y _ (U _ (.inr (.inr rfl))))
def J6M(w:World)(SV:Nat->Prop)(q m p1 b1 p2 b2 n:Nat)(v:Vm)(rs:List Int)(room:Int)(e:Ending)(w':World):Prop:=
 ((room<1\/4096<room)/\e=.returned (.tuple #[L1 0 0 0 0,iI 5])/\Gr w w') ∨
 (1<=room/\room<=4096/\AB (λi=>AM m b1 b2 i\/SV i) w w'/\AD w' SV q v ∧
  ((∃L r vi,e=.returned (.tuple #[L1 (L.length:Nat) (sizes L:Nat) r vi,iI 0])/\Ext w' m p1 b1 p2 b2 n L/\BH v rs n L/\(L=[]->r=1/\vi=0)) ∨
   (e=.returned (.tuple #[L1 0 0 0 0,iI 25])/\Ext w' m p1 b1 p2 b2 n []/\¬CE v rs n)))
theorem VO(hV:AD w SV q v)(hE:Ext w m p1 b1 p2 b2 n L0)(hT:AP w)(hA:FM (AM m b1 b2) w A rs)(hlen:rs.length<=maxLen)
  (hvm:∀i,SV i->¬AM m b1 b2 i) (hv1:¬SV p1) (hv2:¬SV p2) (hvt:¬SV 1) (htm:¬AM m b1 b2 1) (room:Int):
  Calls prog 53 #[spV q,.slice A rs.length cp,pP m,iI room] w (J6M w SV q m p1 b1 p2 b2 n v rs room):=
 Xbg (z:=spM q) ⟨Q6 q,λh=>h⟩ (.inr ⟨q,rfl⟩) (λ_ _=>⟨λ_=>trivial,λ_ _=>trivial⟩) (λ_ h=>h.elim) hV hE hT hA hlen hvm hv1 hv2 hvt htm room
end
section
attribute [local go_sem] Oper.semAt_some
structure PC(v:Vm)(rs:List Int)(c:Cf):Prop where
 cf:G8 v.pl.pg v.n c
 sd:CE v rs v.n
 inn:∀L,BH v rs v.n L->(∀o∈L,c.fr<=o.1/\o.1+o.2<=c.tp)/\c.to+sizes L<=c.lm
def V1i(w:World)(S:Nat->Prop)(q:Nat)(v:Vm)(rs:List Int)(e:Ending)(w':World):Prop:=
 ∃L,BH v rs v.n L/\e=.returned (.tuple #[iI (sizes L:Nat),iI 0])/\AB S w w'/\AD w' (AE S w) q v
structure YD(w wx:World)(S:Nat->Prop)(q m p1 b1 p2 b2 b11:Nat)(v:Vm)(rs:List Int)(c:Cf)(L:List Ob)(r vi:Int):Prop where
 t:AB S w wx
 vm:AD wx (AE S w) q v
 ex:Ext wx m p1 b1 p2 b2 v.n L
 mks:BH v rs v.n L
 st:Rec wx b11 107 [iI (L.length:Nat),iI (sizes L:Nat),iI r,iI vi]
 bx:Rec wx w.heap.size 156 [iI c.fr,iI c.tp,iI c.to,iI c.lm,iI c.bk,iI c.st,iI c.ah]
 r6:Rec wx (w.heap.size+1) 3 [iI 0]
 r7:Rec wx (w.heap.size+2) 27 [iI 0]
 lm:w.heap.size+3<=m
 l1:w.heap.size+3<=p1
 l2:w.heap.size+3<=b1
 l3:w.heap.size+3<=p2
 l4:w.heap.size+3<=b2
 l5:w.heap.size+3<=b11
section
variable {w:World} {S:Nat->Prop} {q r g:Nat} {v:Vm} {rs:List Int} {c:Cf}
theorem Qwc(hV:AD w S q v)(hR:AU w r g rs)(hT:AP w)(htS:¬S 1)(hc:PC v rs c):
  Calls prog 121 #[pP q,pP r,cfV c] w (V1i w S q v rs):=by
 have HV:=hV.cut;have HR:=hR;have HT:=hT;have Zh:=htS;have HC:=hc;have Jl:=hT.lt;have Xu:=hc.cf;have Ja:1<=v.n:=by have:=Xu.fr;have:=Xu.tp;have:=Xu.tn;have:=hV.ok.page.1;omega
 have hn2:=hV.ok.n2;have Jg:rs.length≠0:=λe=>hR.ne (ζz e);have Je:=hR.le;have HX:=(λW=>N8 v.n Ja Ω W);have Jh:=(ϑ Xu.st.1 Xu.st.2);obtain⟨n,Yc⟩:∃n,n=rs.length:=⟨_,rfl⟩;have HN:=ι Yc;rw[<-Yc]at Jg Je;have d0:((n:Int)==0)=false:=by simp;omega
 have g1:Gr w (((w.alloc (.cells #[.int .i64 c.fr,.int .i64 c.tp,.int .i64 c.to,.int .i64 c.lm,.int .i64 c.bk,.int .i64 c.st,.int .i64 c.ah] 156)).alloc (.cells #[.int .i64 0] 3)).alloc (.cells #[.int .i64 0] 27)):=(((Gr.refl w).alloc _).alloc _).alloc _;have Zj:=g1;clear hV hR hT htS hc Xu Yc g1;refine(β (n:=5)).1 ?_;refine callsIn_of_wp_marks func121 rfl trivial ?_ rfl;simp only[ntmps121,ζV,ζH,ζ7,Nat.reduceAdd,Nat.reduceSub,ζL,ζK,ζZ,ζQ,ζN,ζu];unfold cfV;gi_upto_region 1 with(fail);obtain⟨W0,Xn⟩:∃W0,W0=(((w.alloc (.cells #[.int .i64 c.fr,.int .i64 c.tp,.int .i64 c.to,.int .i64 c.lm,.int .i64 c.bk,.int .i64 c.st,.int .i64 c.ah] 156)).alloc (.cells #[.int .i64 0] 3)).alloc (.cells #[.int .i64 0] 27)):=⟨_,rfl⟩;have Zx:W0.heap.size=w.heap.size+3:=by rw[Xn];simp only[γ]
 have Zm:Gr w W0:=by rw[Xn];exact Zj
 have rb:Rec W0 w.heap.size 156 [iI c.fr,iI c.tp,iI c.to,iI c.lm,iI c.bk,iI c.st,iI c.ah]:=by rw[Xn];exact(Rec.new w _ [iI c.fr,iI c.tp,iI c.to,iI c.lm,iI c.bk,iI c.st,iI c.ah]).gr (((Gr.refl _).alloc _).alloc _)
 have r6:Rec W0 (w.heap.size+1) 3 [iI 0]:=by rw[Xn];exact(KW w _ 3 [iI 0]).gr ((Gr.refl _).alloc _)
 have r7:Rec W0 (w.heap.size+2) 27 [iI 0]:=by
  rw[Xn];have:=KW (w.alloc (.cells #[.int .i64 c.fr,.int .i64 c.tp,.int .i64 c.to,.int .i64 c.lm,.int .i64 c.bk,.int .i64 c.st,.int .i64 c.ah] 156)) (.cells #[.int .i64 0] 3) 27 [iI 0];rw[γ]at this;exact this
 rw[<-Xn];clear Xn Zj;have Xc:=Zm;have Zv:=rb;have Jk:=r6;have Jb:=r7;obtain⟨z0,z1,z2,z3,z4,z5,z6,zl⟩:=rb.k7;have Yt:=(λ(W:World) (g:Gr w W)=>WI (HR.gr g));rw[<-HN.o]at Yt;have Zn:=(λ(W:World) (g:Gr w W)=>Z4 (HV.gr g) HC.cf);unfold cfV at Zn;have Jr:=(λ(W:World) (g:Gr w W)=>I3 (HV.gr g));clear rb r6 r7 Zm
 gi_upto_region 7 with(first
  | (refine⟨trivial,?_⟩;gi_at_call 152;refine(β.2 (Yt _ Xc)).mono ?_;rintro e w1 ⟨rfl,rfl⟩)
  | (refine⟨trivial,?_⟩;gi_at_call 153;refine(β.2 (Zn _ Xc)).mono ?_;rintro e w1 ⟨rfl,U⟩;have Xj:=U;clear U)
  | (refine⟨trivial,?_⟩;gi_at_call 52;refine(β.2 (Jr _ (Xc.trans Xj))).mono ?_;rintro e w2 ⟨rfl,rfl⟩)
  | (refine⟨trivial,?_⟩;gi_at_call 51;refine(β.2 (HX _)).mono ?_;rintro e w3 ⟨m,p1,b1,p2,b2,rfl,Zk,Zw,Xp,Xw,Xo,Xr,Xk⟩;have O:=(Xj.trans Zk);have Xs:=Zw;have HB:=(ϑ (ζa Xj.size Xp) (ϑ (ζa Xj.size Xw) (ϑ (ζa Xj.size Xo) (ϑ (ζa Xj.size Xr) (ζa Xj.size Xk)))));clear Zk Zw Xp Xw Xo Xr Xk))
 gi_cut [11,12]from 15 (λs11 s12 wx=>∃(E:Nat) (L:List Ob) (rv vi:Int),s11=pP E/\s12=iI 0/\Hid (YD w wx S q m p1 b1 p2 b2 E v rs c L rv vi))
 case first=>
  have Jo:=HB;obtain⟨Xp,Xw,Xo,Xr,Xk⟩:=Jo;rw[Zx]at Xp Xw Xo Xr Xk;have Yz:=Xs.hm;have Yu:=Xs.v1.hp;have Yn:=Xs.v1.hb;have Yw:=Xs.v2.hp;have Yf:=Xs.v2.hb
  have Xq:∀i,AM m b1 b2 i->w.heap.size+3<=i/\i<w3.heap.size:=λi hi=>by
   rcases hi with rfl|rfl|rfl
   ·exact⟨Xp,Yz⟩
   ·exact⟨Xo,Yn⟩
   ·exact⟨Xk,Yf⟩
  have Za:=Xq;have Xx:=(λ(W:World) (g:Gr w3 W)=>R7 (HR.gr ((Xc.trans O).trans g)));rw[<-HN.o]at Xx
  have Yj:Hid (∀(W:World) (g1 cp:Nat),Gr w3 W->w3.heap.size<=g1->W.ownsRow 0 3 1 (.slice (some ⟨g1,0,none⟩) n cp) n (zs rs)->Calls prog 53 #[.iface 87 (pP q),.slice (some ⟨g1,0,none⟩) n cp,pP m,iI c.st] W λe w'=>
    ∃(L:List Ob) (rv vi:Int),e=.returned (.tuple #[.agg #[iI (L.length:Nat),iI (sizes L:Nat),iI rv,iI vi],iI 0])/\AB (λi=>AM m b1 b2 i\/AE S w i) W w'/\AD w' (AE S w) q v/\Ext w' m p1 b1 p2 b2 v.n L/\BH v rs v.n L):=⟨λW g1 cp hg U ho=>by
   rw[HN.o]at ho⊢;have Yr:=(Xc.trans O).trans hg;refine(VO (HV.gr Yr) (Xs.gr hg) (Yr.tab HT.lt HT) (λi hi=>?_) (by unfold maxLen;have:=HN.o;omega) (λi hi h=>by have:=(Xq i h).1;have:=hi.2;omega) (λh=>by have:=h.2;omega) (λh=>by have:=h.2;omega) (λh=>Zh h.1) (λh=>by have:=(Xq _ h).1;omega) (c.st:Int)).mono ?_
   ·exact⟨g1,0,rfl,(A9 ho rfl).2,λh=>by have:=(Xq _ h).2;omega,by rw[ξs];exact BM ho (LS hi)⟩
   ·rintro e w' (⟨h,-⟩|⟨-,-,ht,hv,(⟨L,r',vi,rfl,he,hm,-⟩|⟨-,-,hn⟩)⟩)
    ·have:=Jh;omega
    ·exact⟨L,r',vi,rfl,ht,hv,he,hm⟩
    ·exact absurd HC.sd hn⟩
  have Zb:Hid (∀(W1 W2 W3:World) (E:Nat) (L:List Ob) (rv vi:Int),Gr w3 W1->AB (λi=>AM m b1 b2 i\/AE S w i) W1 W2->AD W2 (AE S w) q v->Ext W2 m p1 b1 p2 b2 v.n L->BH v rs v.n L->AB (λi=>i=E) W2 W3->w3.heap.size<=E →
    Rec W3 E 107 [iI (L.length:Nat),iI (sizes L:Nat),iI rv,iI vi]->YD w W3 S q m p1 b1 p2 b2 E v rs c L rv vi):=⟨λW1 W2 W3 E L rv vi hg ht hv he hm ht3 hb hr=>by
   have hz3:=(Xc.trans O).size;have hz13:=O.size;have Yr:=(Xc.trans O).trans hg
   have Ze:∀i,i<w.heap.size+3->w.heap.size<=i->¬(AM m b1 b2 i\/AE S w i):=λi h1 h2 h=>by
    rcases h with h|h
    ·have:=(Xq i h).1;omega
    ·have:=h.2;omega
   refine⟨((Yr.touch _).trans (ht.mono (T:=λi=>AM m b1 b2 i\/S i) (λi _ h=>h.imp id (λh=>h.1)))).trans' (T:=λi=>i=E) ht3 (λi hi h=>by omega) |>.mono (λi hi h=>h.elim (λh=>by have:=(Xq i h).1;omega) id),hv.touch ht3 (λi hi _ h=>by have:=hi.2;omega),he.touch ht3 Ω Ω Ω Ω Ω,hm,hr,?_,?_,?_,Xp,Xw,Xo,Xr,Xk,by omega⟩
   ·exact((Zv.gr (O.trans hg)).touch ht (Ze _ Ω Ω)).touch ht3 Ω
   ·exact((Jk.gr (O.trans hg)).touch ht (Ze _ Ω Ω)).touch ht3 Ω
   ·exact((Jb.gr (O.trans hg)).touch ht (Ze _ Ω Ω)).touch ht3 Ω⟩
  have Xf:=Zv.gr O;have x5:=Xf.cc 5;have Zd:=Xf.lt;have KS:Hid (∀W',Gr w3 W'->W'.cell? ⟨w.heap.size,5,none⟩=some (iI c.st)):=⟨λW' h=>(h.cell Zd 5).trans x5⟩
  have KT:Hid (∀W1 W',Gr w3 W1->AB (λi=>AM m b1 b2 i\/AE S w i) W1 W'->W'.cell? ⟨w.heap.size,5,none⟩=some (iI c.st)):=⟨λW1 W' h t=>(t.cell (υ Zd h.size) (λh=>by
   rcases h with h|h
   ·have:=(Za _ h).1;omega
   ·have:=h.2;omega) 5).trans ((h.cell Zd 5).trans x5)⟩
  obtain⟨Sx,Yo⟩:∃Sx:World->Prop,Sx=λW'=>W'.cell? ⟨w.heap.size,5,none⟩=some (iI c.st):=⟨_,rfl⟩;have y1:∀p':AA Sx,p'.w.cell? ⟨w.heap.size,5,none⟩=some (iI c.st):=λp=>AA.get Yo p;have Zg:Sx w3.drew:=by rw[Yo];exact x5
  have I:=ι Yo;have inst:Inhabited (AA Sx):=⟨⟨_,Zg⟩⟩;clear Yo x5 Xf z0 z1 z2 z3 z4 z5 z6 zl Xq Xp Xw Xo Xr Xk Yz Yu Yn Yw Yf;refine YI Sx (.two [0,1,2,4,5,6] 3 (.two [] 7 (.one [8,9,10] 11 (.one [] 12 (.fin [13]))) 11 (.one [] 7 (.one [8,9,10] 12 (.fin [13])))) 11 (.one [] 3 (.one [] 7 (.one [8,9,10] 12 (.fin [13]))))) GM (by kernel_rfl) (by kernel_rfl) Zg ?_;refine P6 ?_;simp only[AC,ζ,ξ]
  repeat(go_big_quiet_step (fail))
  refine ψ ⟨?_,?_⟩
  ·gi_wp2_with(refine⟨trivial,?_⟩;gi_at_call 54;refine(β.2 (Xx _ (Gr.refl w3).drew)).mono ?_;rintro e w4 ⟨g1,c1,rfl,Xv,Yh,Ya⟩;have Y:=ι ((Gr.refl w3).drew.trans Xv);have Yq:=ι Ya;have Ys:=ι Yh;clear Xv Ya Yh);refine⟨AA.of (by rw[I.o];exact KS.o _ Y.o),?_⟩;refine P6 ?_;simp only[AC,ζ,ξ];refine ψ ⟨?_,?_⟩
   ·gi_wp2_with(refine⟨trivial,?_⟩;gi_at_call 53;refine(β.2 (Yj.o _ g1 c1 Y.o Ys.o Yq.o)).mono ?_;rintro e w5 ⟨L,rv,vi,rfl,Xa,Xe,Xh,Xg⟩;have J:=ι Xa;have Yd:=ι Xe;have Xz:=ι Xh;have Ym:=ι Xg;clear Xa Xe Xh Xg);refine⟨AA.of (by rw[I.o];exact KT.o _ _ Y.o J.o),?_⟩;refine FI ?_;simp only[AC,ζ,ξ]
    repeat(go_big_quiet_step (fail))
    refine ψ ?_;have u5:=KT.o _ _ Y.o J.o;have Zp:=AV u5;gi_wp2;refine⟨AA.of (by rw[I.o];exact(((Gr.refl w5).alloc _).cell Zp 5).trans u5),?_⟩;refine FI ?_;simp only[AC,ζ,ξ];refine ψ ?_;gi_wp2;refine⟨AA.of (by rw[I.o];exact(((Gr.refl w5).alloc _).cell Zp 5).trans u5),?_⟩;refine MO ?_;simp only[AC,ζ,ξ]
    repeat(go_big_quiet_step (fail))
    refine ψ ?_;refine τ ?_;gi_wp2
    gi_meet
    exact⟨_,L,rv,vi,rfl,rfl,⟨Zb.o _ _ _ _ L rv vi Y.o J.o Yd.o Xz.o Ym.o (((Gr.refl w5).alloc _).touch _) (ζa Y.o.size J.o.size) (Rec.new w5 _ [iI (L.length:Nat),iI (sizes L:Nat),iI rv,iI vi])⟩⟩
   ·have x4:=KS.o _ Y.o;have Zr:=AV x4;gi_wp2;refine⟨AA.of (by rw[I.o];exact(((Gr.refl w4).alloc _).cell Zr 5).trans x4),?_⟩;refine FI ?_;simp only[AC,ζ,ξ];refine ψ ?_;have Xb:=ι (Rec.new w4 107 [iI 0,iI 0,iI 0,iI 0]);have V:=ι (Y.o.alloc (.cells #[.int .i64 0,.int .i64 0,.int .i64 0,.int .i64 0] 107))
    have Yb:Hid (¬(AM m b1 b2 w4.heap.size\/AE S w w4.heap.size)):=⟨λh=>by
     have:=Y.o.size;rcases h with h|h
     ·have:=(Za _ h).2;omega
     ·have:=h.2;have:=(Xc.trans O).size;omega⟩
    have Yg:Hid (¬w.heap.size=w4.heap.size):=⟨by have:=Y.o.size;omega⟩;have Zt:=ι (CK Yq.o ((Gr.refl w4).alloc (.cells #[.int .i64 0,.int .i64 0,.int .i64 0,.int .i64 0] 107)));have Ye:Hid (w3.heap.size<=w4.heap.size):=⟨Y.o.size⟩;obtain⟨bA,Xi⟩:∃bA,bA=w4.heap.size:=⟨_,rfl⟩;obtain⟨WA,Xl⟩:∃WA,WA=w4.alloc (.cells #[.int .i64 0,.int .i64 0,.int .i64 0,.int .i64 0] 107):=⟨_,rfl⟩;rw[show w4.alloc (.cells ([.int .i64 0,.int .i64 0,.int .i64 0,.int .i64 0]:List Value).toArray 107)=WA from Xl.symm]at Xb;rw[<-Xl]at V Zt⊢;rw[<-Xi]at Xb Yb Yg Ye⊢;clear Xi Xl x4 Zr;gi_wp2_with(refine⟨trivial,?_⟩;gi_at_call 53;refine(β.2 (Yj.o _ g1 c1 V.o Ys.o Zt.o)).mono ?_;rintro e w5 ⟨L,rv,vi,rfl,Xa,Xe,Xh,Xg⟩;have J:=ι Xa;have Yd:=ι Xe;have Xz:=ι Xh;have Ym:=ι Xg;have Z:=ι (Xb.o.touch Xa (Yb.o));have q0:=Z.o.cc 0;have q1:=Z.o.cc 1;have q2:=Z.o.cc 2;have q3:=Z.o.cc 3;have qf:=Z.o.free;have ql:=Z.o.lt;clear Xa Xe Xh Xg);refine⟨AA.of (by rw[I.o];exact KT.o _ _ V.o J.o),?_⟩;refine FI ?_;simp only[AC,ζ,ξ]
    repeat(go_big_quiet_step (fail))
    refine ψ ?_;gi_wp2;have R5:=(((Z.o.set 0 (iI (L.length:Nat))).set 1 (iI (sizes L:Nat))).set 2 (iI rv)).set 3 (iI vi);have t5:=MP w5 bA (iI (L.length:Nat)) (iI (sizes L:Nat)) (iI rv) (iI vi);have KF:=(t5.cell (AV (KT.o _ _ V.o J.o)) Yg.o 5).trans (KT.o _ _ V.o J.o);refine⟨AA.of (by rw[I.o];exact KF),?_⟩;refine MO ?_;simp only[AC,ζ,ξ]
    repeat(go_big_quiet_step (fail))
    refine ψ ?_;refine τ ?_;gi_wp2
    gi_meet
    exact⟨_,L,rv,vi,rfl,rfl,⟨Zb.o _ _ _ _ L rv vi V.o J.o Yd.o Xz.o Ym.o t5 Ye.o R5⟩⟩
  ·gi_wp2;have x3:=KS.o _ (Gr.refl w3);have Jm:=AV x3;refine⟨AA.of (by rw[I.o];exact KS.o _ ((Gr.refl w3).alloc _).drew),?_⟩;refine FI ?_;simp only[AC,ζ,ξ];refine ψ ?_;have Xb:=ι ((Rec.new w3 107 [iI 0,iI 0,iI 0,iI 0]).gr (Gr.refl _).drew);have V:=ι ((Gr.refl w3).alloc (.cells #[.int .i64 0,.int .i64 0,.int .i64 0,.int .i64 0] 107)).drew
   have Yb:Hid (¬(AM m b1 b2 w3.heap.size\/AE S w w3.heap.size)):=⟨λh=>by
    rcases h with h|h
    ·have:=(Za _ h).2;omega
    ·have:=h.2;have:=(Xc.trans O).size;omega⟩
   have Yg:Hid (¬w.heap.size=w3.heap.size):=⟨by omega⟩;have Ye:Hid (w3.heap.size<=w3.heap.size):=⟨π _⟩;obtain⟨WA,Xl⟩:∃WA,WA=(w3.alloc (.cells #[.int .i64 0,.int .i64 0,.int .i64 0,.int .i64 0] 107)).drew:=⟨_,rfl⟩;rw[show (w3.alloc (.cells ([.int .i64 0,.int .i64 0,.int .i64 0,.int .i64 0]:List Value).toArray 107)).drew=WA from Xl.symm]at Xb;rw[<-Xl]at V⊢;clear Xl;obtain⟨bA,Xi⟩:∃bA,bA=w3.heap.size:=⟨_,rfl⟩;rw[<-Xi]at Xb Yb Yg;rw[show w3.heap.size<=w3.heap.size↔w3.heap.size<=bA by rw[Xi]]at Ye;rw[show w3.heap.size=bA from Xi.symm];clear Xi x3 Jm;gi_wp2_with(refine⟨trivial,?_⟩;gi_at_call 54;refine(β.2 (Xx _ V.o)).mono ?_;rintro e w4 ⟨g1,c1,rfl,Xv,Yh,Ya⟩;have Y:=ι (V.o.trans Xv);have Zs:=ι (Xb.o.gr Xv);have Yq:=ι Ya;have Ys:=ι (ζa V.o.size Yh);clear Xv Ya Yh);refine⟨AA.of (by rw[I.o];exact KS.o _ Y.o),?_⟩;refine FI ?_;simp only[AC,ζ,ξ];refine ψ ?_;gi_wp2_with(refine⟨trivial,?_⟩;gi_at_call 53;refine(β.2 (Yj.o _ g1 c1 Y.o Ys.o Yq.o)).mono ?_;rintro e w5 ⟨L,rv,vi,rfl,Xa,Xe,Xh,Xg⟩;have J:=ι Xa;have Yd:=ι Xe;have Xz:=ι Xh;have Ym:=ι Xg;have Z:=ι (Zs.o.touch Xa (Yb.o));have q0:=Z.o.cc 0;have q1:=Z.o.cc 1;have q2:=Z.o.cc 2;have q3:=Z.o.cc 3;have qf:=Z.o.free;have ql:=Z.o.lt;clear Xa Xe Xh Xg);refine⟨AA.of (by rw[I.o];exact KT.o _ _ Y.o J.o),?_⟩;refine FI ?_;simp only[AC,ζ,ξ]
   repeat(go_big_quiet_step (fail))
   refine ψ ?_;gi_wp2;have R5:=(((Z.o.set 0 (iI (L.length:Nat))).set 1 (iI (sizes L:Nat))).set 2 (iI rv)).set 3 (iI vi);have t5:=MP w5 bA (iI (L.length:Nat)) (iI (sizes L:Nat)) (iI rv) (iI vi);have KF:=(t5.cell (AV (KT.o _ _ Y.o J.o)) Yg.o 5).trans (KT.o _ _ Y.o J.o);refine⟨AA.of (by rw[I.o];exact KF),?_⟩;refine MO ?_;simp only[AC,ζ,ξ]
   repeat(go_big_quiet_step (fail))
   refine ψ ?_;refine τ ?_;gi_wp2
   gi_meet
   exact⟨_,L,rv,vi,rfl,rfl,⟨Zb.o _ _ _ _ L rv vi Y.o J.o Yd.o Xz.o Ym.o t5 Ye.o R5⟩⟩
 case rest=>
  obtain⟨E,L,rv,vi,rfl,rfl,HI⟩:=hcut;clear z0 z1 z2 z3 z4 z5 z6 zl;obtain⟨Zo,Yv⟩:=HC.inn L HI.o.mks;have Jd:=ι Zo;have Zq:=ι Yv;clear Zo Yv;gi_wp2_with(refine⟨trivial,?_⟩;gi_at_call 132;refine(β.2 (J3 (some ⟨m,0,none⟩))).mono ?_;rintro e w1 ⟨rfl,rfl⟩);obtain⟨W1,Yl⟩:∃W1,W1=wc.alloc (.cells #[.pointer (some ⟨m,0,none⟩)] 103):=⟨_,rfl⟩;have U:Gr wc W1:=by rw[Yl];exact(Gr.refl wc).alloc _
  have hs1:W1.heap.size=wc.heap.size+1:=by rw[Yl,γ]
  have k4:W1.cell? ⟨wc.heap.size,0,none⟩=some (pP m):=by
   rw[Yl];exact(Boxed.new wc 103 (pP m)).cell
  rw[<-Yl];have hex:=HI.o.ex;have Yz:=hex.hm;have Yu:=hex.v1.hp;have Yn:=hex.v1.hb;have Yw:=hex.v2.hp;have Yf:=hex.v2.hb;have hwz:=HI.o.t.size;have Yx:AP wc:=HI.o.t.tab Jl Zh HT;have Jf:=ι Yx;have Zy:=Yx.lt;have Yy:=HI.o.bx;have hrl:=Yy.lt;clear Yl Yx hex;have tI:∀(j:Nat) A B,(AB (λi=>W1.heap.size<=i) W1 A/\j<=L.length)->AB (λi=>W1.heap.size<=i/\i<W1.heap.size+2+4) A B->(AB (λi=>W1.heap.size<=i) W1 B/\j<=L.length):=λj A B h t=>⟨h.1.trans (t.mono (λi _ h=>h.1)),h.2⟩
  refine LQ (K:=4) (s0:=0) rfl Ω (gf:=173) (lb:=#[pP wc.heap.size]) rfl trivial (enters_of func173 (by kernel_rfl) rfl)
   (OO _ wc.heap.size m p1 b1 p2 b2 v.n L _) (λ_=>rfl)
   (λ(j:Nat) A=>AB (λi=>W1.heap.size<=i) W1 A/\j<=L.length) (λ_ _=>False) tI (λ_ _ _ h _=>h)
   (λj A h=>⟨(HI.o.ex.gr U).touch h.1 Ω Ω Ω Ω Ω,(U.tab Zy Jf.o).touch' h.1 Ω,(h.1.cell Ω Ω 0).trans k4,h.2⟩)
   ⟨AB.refl _ _,ζe _⟩ ?round ?done ?stop
  case round=>
   intro lp j x W3 hsz3 Xd Xm;dsimp only[GQ];gi_wp2;refine⟨Gr.refl _,λW4 ht4 hI4=>?_⟩
   have Yp:j<L.length:=by
    rcases ω j L.length with h|h
    ·exact h
    ·unfold EQ at Xm;rw[ζv h]at Xm;cases Xm
   obtain rfl:x=L[j]:=by unfold EQ at Xm;rw[ζb Yp]at Xm;exact(Option.some.inj Xm).symm
   obtain⟨i1,i2⟩:=Jd.o _ (χ Yp);have Xy:=(Yy.gr U).touch hI4.1 Ω;obtain⟨c0,c1,cl⟩:=Xy.k2;have Zu:=(HI.o.ex.good.sz _ (χ Yp)).2;obtain⟨sa,Zi⟩:∃s,s=L[j].1:=⟨_,rfl⟩;obtain⟨sz,Xt⟩:∃s,s=L[j].2:=⟨_,rfl⟩;rw[<-Zi]at i1 i2 Zu⊢;rw[<-Xt]at i2 Zu⊢;have e0:decide ((sa:Int)<(c.fr:Int))=false:=φ Ω;have e1:decide ((c.tp:Int)<(sa:Int)+(sz:Int))=false:=φ Ω;have e2:decide (sa<c.fr)=false:=φ Ω;have Zz:=ι hI4;clear Xd hI4 Xm ht4 Zi Xt;gi_wp2;exact⟨AB.refl _ _,j+1,rfl,Zz.o.1,Yp⟩
  case done=>
   rintro D j W3 hD rfl Xd hK;have hs5l:=HI.o.l5;have hb11l:=HI.o.st.lt;have Zf:=(HI.o.st.gr U).touch Xd.1 Ω;have Xf:=(Yy.gr U).touch Xd.1 Ω;have Yi:=(HI.o.r6.gr U).touch Xd.1 (by have:=HI.o.r6.lt;omega);have Yk:=(HI.o.r7.gr U).touch Xd.1 (by have:=HI.o.r7.lt;omega);have a1:=Zf.cc 1;have al:=Zf.lt;have c3:=Xf.cc 3;have c2:=Xf.cc 2;have cl:=Xf.lt;have q0:=Yi.cc 0;have q1:=Yi.free 0;have ql:=Yi.lt;have p0:=Yk.cc 0;have p1':=Yk.free 0;have pl:=Yk.lt;have Ji:=Zq.o;have hlm:=HC.cf.ln;have Jc:=HI.o.vm;obtain⟨sz,Xt⟩:∃s,s=sizes L:=⟨_,rfl⟩;have Jn:=ι Xt;rw[<-Xt]at a1 Ji;have e0:decide ((c.lm:Int)-(c.to:Int)<(sz:Int))=false:=φ Ω;have HK:=ι hK;have HD:=ι hD;have Zl:=ι Xd;have Xb:=ι Yi;have Jq:=ι Yk;have hs3:=Xd.1.size;clear hK hD Xd Xt Zf Xf Yi Yk;gi_wp2
   have tg:AB (λi=>i=w.heap.size+1\/i=w.heap.size+2) W3 ((W3.setCell ⟨w.heap.size+1,0,none⟩ (.int .i64 (sz:Int))).setCell ⟨w.heap.size+1+1,0,none⟩ (.int .i64 0)):=
    ((AB.refl _ W3).setCell (a:=⟨w.heap.size+1,0,none⟩) (λ_=>.inl rfl) _).setCell (a:=⟨w.heap.size+1+1,0,none⟩) (λ_=>.inr rfl) _
   have b6:Rec ((W3.setCell ⟨w.heap.size+1,0,none⟩ (.int .i64 (sz:Int))).setCell ⟨w.heap.size+1+1,0,none⟩ (.int .i64 0)) (w.heap.size+1) 3 [iI (sz:Int)]:=
    (Xb.o.set 0 (iI (sz:Int))).touch ((AB.refl (λi=>i=w.heap.size+1+1) _).setCell (a:=⟨w.heap.size+1+1,0,none⟩) (λ_=>rfl) _) Ω
   have b7:Rec ((W3.setCell ⟨w.heap.size+1,0,none⟩ (.int .i64 (sz:Int))).setCell ⟨w.heap.size+1+1,0,none⟩ (.int .i64 0)) (w.heap.size+2) 27 [iI 0]:=
    (Jq.o.touch ((AB.refl (λi=>i=w.heap.size+1) W3).setCell (a:=⟨w.heap.size+1,0,none⟩) (λ_=>rfl) (iI (sz:Int))) Ω).set 0 (iI 0)
   have hD:=HD.o;have Zc:=(tg.block D (ζn.1 HK.o).1 Ω).trans HK.o;generalize ((W3.setCell ⟨w.heap.size+1,0,none⟩ (.int .i64 (sz:Int))).setCell ⟨w.heap.size+1+1,0,none⟩ (.int .i64 0))=W5 at *
   have k6:=b6.cc 0;have k7:=b7.cc 0;rw[show w.heap.size+2=w.heap.size+1+1 from rfl]at k7;refine⟨by simp,.inl ⟨_,_,rfl,run_takeDeferred Zc,?_⟩⟩;have Jp:=cell_kept k6 (grownBy_putObj' _ D (.deferred none)) (λr e=>by cases e;exact⟨_,Zc,rfl⟩);have Jj:=cell_kept k7 (grownBy_putObj' _ D (.deferred none)) (λr e=>by cases e;exact⟨_,Zc,rfl⟩);have tD:AB (λi=>W1.heap.size<=i) W5 (W5.putObj D (.deferred none)):=DB _ D _ Ω;refine⟨.tuple #[iI (sz:Int),iI 0],?_,?_⟩
   ·simp[results,f121,go_sem,Jp,Jj]
   ·refine⟨L,HI.o.mks,by rw[Jn.o],?_,?_⟩
    ·exact(((HI.o.t.trans (U.touch _)).trans' Zl.o.1 (λi hi h=>by omega)).trans' tg (λi hi h=>by omega)).trans' tD (λi hi h=>by omega)
    ·exact(((Jc.gr U).touch Zl.o.1 (λi hi _ h=>by have:=hi.2;omega)).touch tg (λi hi _ h=>by have:=hi.2;omega)).touch tD (λi hi _ h=>by have:=hi.2;omega)
  case stop=>
   rintro D c W3 hD h hK;exact h.elim
end
end
theorem UE{v v1:Vm}(h:AF v){f t:Nat}(ht:t<=v.n)(hE:BD v f t=0)(hG:BV v v1 (BT v f t)){a:Nat}(h1:f<=a)(h2:a<t):v1.ldE a=0:=by
 have hp:=h.page;have hF:BT v f t=BW v ((f:Int)/v.pl.pg).toNat (CY v f t):=by unfold BT;rw[μ ⟨hE,by omega⟩]
 rw[hG.ldE h Ω,hF];by_cases h0:v.pt.getD (a/v.pl.pg) 0=0
 ·rw[μ];rw[OM];refine⟨?_,h0⟩;have e1:((f:Int)/(v.pl.pg:Int)).toNat=f/v.pl.pg:=by rw[<-ζT];exact η _
  have e2:CY v f t=(t-1)/v.pl.pg+1-f/v.pl.pg:=by
   unfold CY;rw[show (t:Int)-1=((t-1:Nat):Int)by omega,<-ζT,<-ζT];have:f/v.pl.pg<=(t-1)/v.pl.pg:=ζc Ω;omega
  have g1:f/v.pl.pg<=a/v.pl.pg:=ζc h1;have g2:a/v.pl.pg<=(t-1)/v.pl.pg:=ζc Ω;rw[e1,e2];omega
 ·split
  ·rfl
  ·rw[h.ldE_of Ω,κ h0]
theorem VGS{v:Vm}{f:Nat}(hf:f<=v.n):BD v f f=0/\BT v f f=[]:=by
 have hE:BD v f f=0:=by unfold BD;rw[κ Ω,μ (ψg _)]
 refine⟨hE,?_⟩;unfold BT;rw[κ (λh=>by have:=h.2;omega)]
theorem Z25{v v1:Vm}(h:AF v){rs:List Int}{c:Cf}(hc:PC v rs c){L:List Ob}(hM:BH v rs v.n L)(hE:BD v c.to ((c.to+sizes L:Nat):Int)=0)(hG:BV v v1 (BT v c.to ((c.to+sizes L:Nat):Int)))
  (hm:∀a:Nat,c.fr<=a->a<c.tp->v.ldE a=0):DK v1 rs L c.to/\FV v1 L:=by
 obtain⟨Z,htot⟩:=hc.inn L hM;have hw:=hG.wider h;have hp:=h.page;have Y:=hc.cf;have hln:=Y.ln;have hto:=Y.to;refine⟨⟨hG.ok,?_,by omega,λo ho=>?_,λa h1 h2=>UE h Ω hE hG h1 h2,by rw[hG.n];omega⟩,λo ho m hmo=>?_⟩
 ·rw[hG.n];exact hw.marks hM
 ·have hi:=Z o ho;have hs:1<=o.2:=(hM.mkd.good.sz o ho).1
  have hsz:1<=sizes L:=by
   have:∀l:List Ob,o∈l->o.2<=sizes l:=λl=>by
    induction l with
    | nil=>intro h;cases h
    | cons b r ih=>
     intro h;simp only[sizes];rcases ξg.1 h with rfl|h
     ·omega
     ·have:=ih h;omega
   have:=this L ho;omega
  have hup:c.tp<=upN c.tp v.pl.pg:=by
   unfold upN;have h1:=ζy (c.tp+v.pl.pg-1) v.pl.pg;have h2:=ξS (c.tp+v.pl.pg-1) (show 0<v.pl.pg by omega);rw[ζR]at h1;omega
  have J:=Y.ap;by_cases h1:c.fr<c.lm
  ·left;have:¬c.to<upN c.tp v.pl.pg:=λh2=>J ⟨by omega,by omega,h1,h2⟩;omega
  ·right;omega
 ·have hi:=Z o ho;have:=hm (o.1+m) Ω Ω;exact(hw.le _ (by rw[show (o.1:Int)+m=((o.1+m:Nat):Int)by omega];exact this)).1
structure TO(v:Vm)(rs:List Int)(c:Cf)(L:List Ob)(v1 v2:Vm)(k kq:Nat):Prop where
 gr:BV v v1 (BT v c.to ((c.to+sizes L:Nat):Int))
 cx:DK v1 rs L c.to
 fo:FV v1 L
 ke:k=(AQ v1 rs k).length
 st:CpS v1 rs L c.to (AQ v1 rs k) k 0 v2
 q1:∀j,j<kq->(c.fr/v.pl.pg+j)*v.pl.pg<c.tp
 q2:c.tp<=(c.fr/v.pl.pg+kq)*v.pl.pg
theorem VQN(v:Vm)(rs:List Int)(k:Nat){j:Nat}(h:j<=(AQ v rs k).length):(AQ v rs (k+1)).take j=(AQ v rs k).take j:=by
 obtain⟨X,hX⟩:=UT v rs k;rw[hX,ξv h]
theorem YnT{v:Vm}{rs:List Int}{k:Nat}(h:k<(AQ v rs k).length):AQ v rs (k+1)=DH (AQ v rs k) (DN v ((AQ v rs k).getD k 0)):=by
 show (if _ then _ else _)=_
 rw[μ h]
theorem XeB{v:Vm}{rs:List Int}{L:List Ob}{to:Nat}(c:DK v rs L to){O X:List Int}(hR:∀a∈O++X,Rch v rs a){l:List Int}(hl:∀a∈l,a=0\/a∈O):l.map (λa=>BU v (O++X) to a)=l.map (λa=>BU v O to a):=by
 apply ξI;intro a ha;exact Vqd v X to (λh=>by have:=(DD (c.mks.sound.rd _ (hR 0 h))).1;omega) (hl a ha)
def CpJ(w3:World)(S3:Nat->Prop)(K M q g:Nat)(v:Vm)(rs:List Int)(L:List Ob)(to:Nat)(i:Nat)(W:World)(out:List Int):Prop:=
 ∃O v' Si,(∀b,Si b->plus S3 w3 b)/\C7 W Si K M q v to O v'/\CpS v rs L to O 0 0 v'/\O=DH [] (rs.take i)/\out=(rs.take i).map (λa=>BU v O to a)/\AB (λb=>b=g\/(b=K\/b=M)\/S3 b) w3 W
structure CpL(w3 wr:World)(S3 Si:Nat->Prop)(K M q r g:Nat)(v:Vm)(rs out:List Int)(L:List Ob)(to k:Nat)(v':Vm):Prop where
 sub:∀b,Si b->plus S3 w3 b
 cat:C7 wr Si K M q v to (AQ v rs k) v'
 st:CpS v rs L to (AQ v rs k) k 0 v'
 oe:out=rs.map (λa=>BU v (AQ v rs k) to a)
 t:AB (λb=>b=g\/(b=K\/b=M)\/S3 b) w3 wr
 rt:AU wr r g out
def YZS(w:World)(S:Nat->Prop)(q r g:Nat)(v:Vm)(rs:List Int)(c:Cf)(e:Ending)(w':World):Prop:=
 ∃L,BH v rs v.n L/\AB (λb=>b=g\/S b) w w' ∧
  ((BD v c.to ((c.to+sizes L:Nat):Int)≠0/\e=.returned (.tuple #[iI 0,iI (BD v c.to ((c.to+sizes L:Nat):Int))])/\H9 w' (plus S w) q v []/\AU w' r g rs) ∨
   (BD v c.to ((c.to+sizes L:Nat):Int)=0/\e=.returned (.tuple #[iI ((c.to+sizes L:Nat):Int),iI 0]) ∧
   ∃v1 v2 k kq,TO v rs c L v1 v2 k kq/\AD w' (plus S w) q (umN v2 (c.fr/v.pl.pg) kq)/\AU w' r g (rs.map (λa=>BU v1 (AQ v1 rs k) c.to a))))
theorem C7.touch{S T:Nat->Prop}{w w':World}{K M q:Nat}{v v':Vm}{to:Nat}{O:List Int}(h:C7 w S K M q v to O v')(t:AB T w w')(hK:¬T K)(hM:¬T M)(hS:∀b,S b->b<w.heap.size->¬T b):C7 w' S K M q v to O v':=
 ⟨h.rc.touch t hK,h.mp.touch t hM,h.vm.touch t hS,h.nK,h.nM⟩
structure XW(w3:World)(S3:Nat->Prop)(K M r g:Nat):Prop where
 r3:r<w3.heap.size
 g3:g<w3.heap.size
 rK:r≠K
 rM:r≠M
 gK:g≠K
 gM:g≠M
 rS:¬S3 r
 gS:¬S3 g
structure UmI(w3 wx:World)(S3:Nat->Prop)(K M q r g:Nat)(v:Vm)(out:List Int)(tt q0 j pg tp:Nat):Prop where
 t:AB (λb=>b=g\/(b=K\/b=M)\/S3 b) w3 wx
 vm:∃Sj,(∀b,Sj b->plus S3 w3 b)/\AD wx Sj q (umN v q0 j)/\¬Sj K
 rc:Rec wx K 206 [pP q,.map (some M),iI tt]
 rt:AU wx r g out
 q1:∀i,i<j->(q0+i)*pg<tp
theorem UmI.gr{w3 wx w':World}{S3:Nat->Prop}{K M q r g:Nat}{v:Vm}{out:List Int}{tt q0 j pg tp:Nat}(h:UmI w3 wx S3 K M q r g v out tt q0 j pg tp)(g':Gr wx w'):UmI w3 w' S3 K M q r g v out tt q0 j pg tp:=by
 obtain⟨h1,⟨Sj,h2,h3,h4⟩,h5,h6,h7⟩:=h;exact⟨h1.trans (g'.touch _),⟨Sj,h2,h3.gr g',h4⟩,h5.gr g',h6.gr g',h7⟩
section
variable {w3:World} {S3:Nat->Prop} {K M q r g to:Nat} {v1:Vm} {rs:List Int} {L:List Ob}
theorem Q0I(hcat:C7 w3 S3 K M q v1 to [] v1)(cx:DK v1 rs L to)(fo:FV v1 L)(hR:AU w3 r g rs)(hrs:∀a∈rs,0<=a/\a<=2147483647)(sp:XW w3 S3 K M r g):
  Calls prog 123 #[pP r,.func (.func 124) #[pP K] #[]] w3 λe w'=>e=.returned (.tuple #[])/\∃out v' Si,CpL w3 w' S3 Si K M q r g v1 rs out L to 0 v':=by
 have h0:CpJ w3 S3 K M q g v1 rs L to 0 w3 []:=⟨[],v1,S3,λb h=>.inl h,hcat,⟨ξT,(λ_ h=>by cases h),Cpd.nil cx.ok to,(λj hj=>absurd hj (ζI _)),.inr ⟨rfl,rfl⟩⟩,rfl,rfl,AB.refl _ _⟩;refine(W9 (F:=124) (pre:=#[pP K]) (caps:=#[]) (CpJ w3 S3 K M q g v1 rs L to) (λ_ _=>by kernel_rfl) hR h0 ?_ ?_).mono ?_
 ·rintro i hi W out ho ⟨O,v',Si,h1,h2,h3,h4,h5,h6⟩ hz;refine⟨O,v',Si,h1,h2,h3,?_,?_,h6⟩
  ·rw[IV hi,TZ,<-h4,hz];exact(μ (.inl rfl)).symm
  ·rw[IV hi,ζ6,<-h5,hz]
   show out++[0]=out++[BU v1 O to 0]
   rw[OK v1 _ (h3.zero cx)]
 ·rintro i hi W out ho ⟨O,v',Si,h1,h2,h3,h4,h5,h6⟩ V B W0 Z;obtain⟨q1,q2⟩:=hrs _ (χ hi);obtain⟨a,ha⟩:∃a:Nat,(a:Int)=rs[i]:=⟨rs[i].toNat,by omega⟩;have hr:Rch v1 rs a:=by rw[ha];exact Rch.root (χ hi) B
  have Y:=Zz2 (h2.gr Z) cx fo h3 (a:=a) (.inr hr) Ω;rw[ha]at Y;refine Y.mono ?_;rintro e W' ⟨E,rfl,ht,I,J⟩;have hzW:=h6.size;have hz0:=Z.size;have U:∀b,b<w3.heap.size->¬S3 b->¬Si b:=λb hb hn h=>(h1 b h).elim hn (λh=>by omega);have D:(a:Int)∈CL O a:=NK.2 (.inr ⟨rfl,by omega⟩);have Xa:0<=BU v1 (CL O (a:Int)) to a:=by have:=(UH v1 (to:Int) D).1;omega
  rw[<-ha]at J I⊢;refine⟨_,rfl,(V.gr Z).touch ht (λh=>?_) (λh=>?_),λW'' t''=>⟨CL O a,E,plus Si W0,λb hb=>?_,I.touch t'' (Ne.symm sp.gK) (Ne.symm sp.gM) (λb hb _ e=>?_),J,?_,?_,?_⟩⟩
  ·rcases h with(h|h)|h
   ·exact sp.rK h
   ·exact sp.rM h
   ·exact U _ sp.r3 sp.rS h
  ·rcases h with(h|h)|h
   ·exact sp.gK h
   ·exact sp.gM h
   ·exact U _ sp.g3 sp.gS h
  ·rcases hb with h|h
   ·exact h1 b h
   ·right;omega
  ·subst e;rcases hb with h|h
   ·exact U _ sp.g3 sp.gS h
   ·have:=sp.g3;omega
  ·rw[IV hi,TZ,<-h4,<-ha]
  ·obtain⟨X,hX⟩:=VR O (a:Int);rw[IV hi,ζ6,<-ha,Int.max_eq_left Xa];congr 1;rw[h5]
   have hl:∀b∈rs.take i,b=0\/b∈O:=λb hb=>by
    by_cases h0:b=0
    ·exact .inl h0
    ·right;rw[h4];exact RK.2 (.inr ⟨hb,h0⟩)
   rw[hX];exact(XeB cx (by rw[<-hX];exact J.rch) hl).symm
  ·refine((h6.trans (Z.touch _)).trans' ht (λb hb h=>?_)).trans (t''.mono (λb _ h=>.inl h));rcases h with h|h
   ·exact .inr (.inl h)
   ·exact(h1 b h).elim (λh=>.inr (.inr h)) (λh=>by omega)
 ·rintro e w' ⟨rfl,out,-,⟨O,v',Si,h1,h2,h3,h4,h5,h6⟩,V⟩;rw[ζ3]at h4 h5;have hO:O=AQ v1 rs 0:=h4;subst hO;exact⟨rfl,out,v',Si,h1,h2,h3,h5,h6,V⟩
end
section
variable {w:World} {S:Nat->Prop} {q r g:Nat} {v:Vm} {rs:List Int} {c:Cf}
theorem Qj5(hV:AD w S q v)(hR:AU w r g rs)(hT:AP w)(htS:¬S 1)(hrS:¬S r)(hgS:¬S g)(hc:PC v rs c)(hm:∀a:Nat,c.fr<=a->a<c.tp->v.ldE a=0)(hrs:∀a∈rs,0<=a/\a<=2147483647):
  Calls prog 85 #[pP q,pP r,cfV c] w (YZS w S q r g v rs c):=by
 have HV:=hV.cut;have HR:=hR;have HT:=hT;have D:=(ϑ htS (ϑ hrS hgS));have HC:=hc;have HM:=hm;have Jd:=hrs;have Xt:=hc.cf;have Ji:=hV.ok.page;have Zs:=hV.ok;have hn2:=hV.ok.n2;have Jo:=hT.lt;have hrl:=hR.lt;have hto:=Xt.to;have hlm:=Xt.ln;have Jx:=Xt.fr;have Xa:=((Gr.refl w).alloc (.cells #[.int .i64 c.fr,.int .i64 c.tp,.int .i64 c.to,.int .i64 c.lm,.int .i64 c.bk,.int .i64 c.st,.int .i64 c.ah] 156));have rb:=Rec.new w 156 [iI c.fr,iI c.tp,iI c.to,iI c.lm,iI c.bk,iI c.st,iI c.ah];obtain⟨W0,Xp⟩:∃W0,W0=w.alloc (.cells #[.int .i64 c.fr,.int .i64 c.tp,.int .i64 c.to,.int .i64 c.lm,.int .i64 c.bk,.int .i64 c.st,.int .i64 c.ah] 156):=⟨_,rfl⟩;have hsz0:W0.heap.size=w.heap.size+1:=by rw[Xp,γ]
 rw[<-Xp]at Xa;rw[show w.alloc (.cells ([.int .i64 c.fr,.int .i64 c.tp,.int .i64 c.to,.int .i64 c.lm,.int .i64 c.bk,.int .i64 c.st,.int .i64 c.ah]:List Value).toArray 156)=W0 from Xp.symm]at rb;have Jv:=rb;have Zw:=(Qwc (HV.gr Xa) (HR.gr Xa) (Xa.tab Jo HT) (λh=>htS h.1) hc);obtain⟨z0,z1,z2,z3,z4,z5,z6,zl⟩:=rb.k7;have Yq:=Xt;have Jb:=Zs;unfold cfV at Zw⊢;clear hV hR hT htS hrS hgS hc hm hrs rb Xt Zs;go_enter func85,ntmps85;go_upto_region 1 with(fail);rw[<-Xp];clear Xp;go_upto_region 4 with(go_at_call 121;refine Zw.mono ?_;rintro e w1 ⟨L,hM,rfl,Yj,Xv⟩;have Yh:=hM;have Yk:=Yj;have Yw:=Xv;have Xz:=(Jv.touch Yj (λh=>by have:=h.2;omega));have Zc:=ι ((HR.gr Xa).touch Yj (λh=>D.2.1 h.1) (λh=>D.2.2 h.1));obtain⟨y0,y1,y2,yl⟩:=Xz.k3;clear hM Yj Xv);obtain⟨Jm,Yn⟩:=HC.inn L Yh;obtain⟨nn,Yy⟩:∃nn,nn=sizes L:=⟨_,rfl⟩;have Yb:=ι Yy;rw[<-Yy]at Yn⊢;have Xn:(c.to:Int)+(nn:Int)=((c.to+nn:Nat):Int):=by push_cast;rfl
 have Za:Hid (Calls prog 122 #[pP q,iI c.to,iI ((c.to:Int)+(nn:Int))] w1 λe w'=>e=.returned (iI (BD v c.to ((c.to+nn:Nat):Int)))/\AB (AE S w) w1 w'/\H9 w' (plus (AE S w) w1) q v (BT v c.to ((c.to+nn:Nat):Int))):=⟨by
  rw[Xn];by_cases h0:nn=0
  ·subst h0;have hq:=VGS (v:=v) (f:=c.to) Ω;rw[ξn,hq.1,hq.2];refine(Y5 Yw c.to c.to Ω (π _)).mono ?_;rintro e w' ⟨rfl,hg⟩;exact⟨rfl,hg.touch _,v,BV.refl Jb,(Yw.gr hg).mono (λb hb=>.inl hb.1)⟩
  ·refine(QJ Yw c.to (c.to+nn) Ω Ω).mono ?_;rintro e w' ⟨rfl,ht,v',hg,hv⟩
   exact⟨rfl,ht.mono (λb _ hb=>hb.1),v',hg,hv.mono (λb hb=>hb.imp (λh=>h.1) id)⟩⟩
 clear z0 z1 z2 z3 z4 z5 z6 zl Yy Xn;obtain⟨E,hE⟩:∃E,E=BD v c.to ((c.to+nn:Nat):Int):=⟨_,rfl⟩;have HE:=ι hE;rw[<-hE]at Za;clear hE;by_cases Yd:E=0
 ·subst Yd;have Jf:=@run_makeMap prog;have hmf:∀(fn:Fn) (first cap:Array Value) (w:World),(Instr.makeFunc fn first cap).run prog w=.ok (.func fn first cap) w:=λ_ _ _ _=>rfl;go_upto_region 8 with(go_at_call 122;refine Za.o.mono ?_;rintro e w2 ⟨rfl,B,Yc⟩;have Xy:=ι B;have Yr:=ι Yc;have Xc:=ι (Xz.touch B (λh=>by have:=h.2;omega));have Ja:=ι (Zc.o.touch B (λh=>D.2.1 h.1) (λh=>D.2.2 h.1));have x2:=Xc.o.cc 2;have xl:=Xc.o.lt;clear B Yc);obtain⟨v1,Yi,Xv⟩:=Yr.o;rw[Yb.o]at Yi;have hE:=HE.o;rw[Yb.o]at hE;obtain⟨cx,fo⟩:=Z25 Jb HC Yh hE.symm Yi HM;have hz1:=Yk.size;have hz2:=Xy.o.size;have Xd:∀b,AE (plus (AE S w) w1) w2 b->plus S w b/\b<w2.heap.size:=λb hb=>⟨hb.1.elim (λh=>.inl h.1) (λh=>.inr Ω),hb.2⟩
  have Xi:=KW w2 (.map #[] 0) 206 [pP q,.map (some w2.heap.size),iI c.to];have Xb:Gr w2 ((w2.alloc (.map #[] 0)).alloc (.cells #[.pointer (some ⟨q,0,none⟩),.map (some w2.heap.size),.int .i64 c.to] 206)):=((Gr.refl w2).alloc _).alloc _;have Xh:=(BF.made (P:=prog) (K:=3) w2).gr ((Gr.refl _).alloc (.cells #[.pointer (some ⟨q,0,none⟩),.map (some w2.heap.size),.int .i64 c.to] 206));obtain⟨M,hM⟩:∃M,M=w2.heap.size:=⟨_,rfl⟩;obtain⟨W3,Yl⟩:∃W3,W3=((w2.alloc (.map #[] 0)).alloc (.cells #[.pointer (some ⟨q,0,none⟩),.map (some w2.heap.size),.int .i64 c.to] 206)):=⟨_,rfl⟩;have hsz3:W3.heap.size=M+2:=by rw[Yl,γ,γ,hM]
  have hMw:w.heap.size<M:=by rw[hM];exact Xc.o.lt
  have hMw2:M<=w2.heap.size/\w2.heap.size<=M:=Ω
  rw[show (w2.alloc (.map #[] 0)).alloc (.cells ([.pointer (some ⟨q,0,none⟩),.map (some w2.heap.size),.int .i64 c.to]:List Value).toArray 206)=W3 from Yl.symm]at Xi;rw[<-Yl]at Xb Xh⊢;rw[<-hM]at Xi Xh Xd⊢;have hr1:=Zc.o.lt;have hr2:=Ja.o.lt;have Yo:C7 W3 (AE (plus (AE S w) w1) w2) (M+1) M q v1 c.to [] v1:=⟨by simpa[AI]using Xi,Xh.congr (λy=>by simp[KX]),Xv.cut.gr Xb,λh=>by have:=(Xd _ h).2;omega,λh=>by have:=(Xd _ h).2;omega⟩;have Zd:XW W3 (AE (plus (AE S w) w1) w2) (M+1) M r g:=⟨by omega,by omega,by omega,by omega,by omega,by omega,λh=>(Xd _ h).1.elim D.2.1 (λh=>by omega),λh=>(Xd _ h).1.elim D.2.2 (λh=>by omega)⟩;have Js:=ι (Q0I Yo cx fo (Ja.o.gr Xb) Jd Zd);have Xq:=ι (ϑ cx fo);have Yg:=ι Xb;have Ze:=ι Yi;have Zo:=ι Xd;have U:=ι Zd;have Jk:=(Xc.o.gr Xb).cell (j:=2) rfl;have Ua:=(Xc.o.gr Xb).lt;clear Yi Xv cx fo Yl hM Xb Xh Xi Yo Zd Xd x2 xl y0 y1 y2 yl hE;go_upto_region 9 with(go_at_call 123;refine Js.o.mono ?_;rintro e w4 ⟨rfl,Yv,v',Si,hL⟩;have HL:=ι hL;clear hL)
  have Yu:Hid (∀W' S',AB (λb=>b=g\/(b=M+1\/b=M)\/AE (plus (AE S w) w1) w2 b) W3 W'->Gr W' S'->Rec S' w.heap.size 156 [iI c.fr,iI c.tp,iI c.to,iI c.lm,iI c.bk,iI c.st,iI c.ah]):=⟨λW' S' t g'=>((Xc.o.gr Yg.o).touch t (λh=>by
   have h2:=Xc.o.lt;have h3:=Yg.o.size;rcases h with h|h|h
   ·omega
   ·omega
   ·rcases h.1 with h|h
    ·have:=h.2;omega
    ·omega)).gr g'⟩
  have V:=Yu.o _ _ HL.o.t (Gr.refl _);have u2:=V.cc 2;have ul:=V.lt;clear V Jk Ua Jf;go_wp2
  go_loopw [12] (λs12 wr=>∃(k:Nat) (v':Vm) (Si:Nat->Prop),Hid (CpL W3 wr (AE (plus (AE S w) w1) w2) Si (M+1) M q r g v1 rs Yv L c.to k v')/\s12=iI ((c.to:Int)+AI v1 ((AQ v1 rs k).take k))) (λs12 _=>((c.to:Int)+sizes L+1-intOf s12).toNat)
  case atStart=>exact⟨0,v',Si,HL,by simp[AI]⟩
  case round=>
   obtain⟨k,Xk,Zx,Y,rfl⟩:=hrel;obtain⟨cx,fo⟩:=Xq.o;have O:=Y.o.st.lt;have c2:=Y.o.cat.rc.cc 2;have Ya:=cx.sum Y.o.st.nd Y.o.st.rch;have Zi:=GI v1 ((AQ v1 rs k).take k);have Zj:=RZ v1 (AQ v1 rs k) k;have Xo:=cx.top;have Zn:v1.n=v.n:=Ze.o.n;clear u2 ul;by_cases hk:k<(AQ v1 rs k).length
   ·have Zy:=(DD (cx.mks.sound.rd _ (Y.o.st.rch _ (χ hk)))).2.1;have Jq:=KY v1 hk;have Zt:=RZ v1 (AQ v1 rs k) (k+1);have Jc:=ι (ZQS Y.o.cat cx fo Y.o.st hk);have HK:=ι hk;have Jz:Hid (AI v1 ((AQ v1 rs k).take k)+1<=AI v1 ((AQ v1 rs k).take (k+1))):=⟨by omega⟩;obtain⟨aa,Yt⟩:∃aa:Nat,(aa:Int)=c.to+AI v1 ((AQ v1 rs k).take k):=⟨((c.to:Int)+AI v1 ((AQ v1 rs k).take k)).toNat,by omega⟩;obtain⟨tt,Xl⟩:∃tt:Nat,(tt:Int)=c.to+AI v1 (AQ v1 rs k):=⟨((c.to:Int)+AI v1 (AQ v1 rs k)).toNat,by omega⟩;have Jw:=ι Yt;rw[<-Yt]at Jc⊢;rw[<-Xl]at c2;have e0:decide ((aa:Int)<(tt:Int))=true:=θ Ω;have e1:decide (aa<tt)=true:=θ Ω;have HB:=ι (ϑ Zt Ya);clear hk Zy Jq Zt Yt Xl cx fo O Ya Zi Zj Xo Zn;go_wp2_with(go_at_call 125;refine Jc.o.mono ?_;rintro e w5 ⟨v3,rfl,Xw,Zv,Zz⟩;have Xm:=ι Xw;have Jh:=ι Zv;have Jt:=ι Zz;clear Xw Zv Zz);go_round
    case rel=>
     have Zk:=YnT HK.o;refine⟨k+1,v3,plus Zx wr,⟨⟨λb hb=>?_,by rw[Zk];exact Jh.o,by rw[Zk];exact Jt.o,?_,?_,?_⟩⟩,?_⟩
     ·have:=Y.o.t.size;rcases hb with h|h
      ·exact Y.o.sub b h
      ·right;omega
     ·rw[Y.o.oe];obtain⟨X,hX⟩:=UT v1 rs k;have Zh:∀a∈AQ v1 rs k++X,Rch v1 rs a:=λa ha=>Z5 Xq.o.1 (k+1) a (by rw[hX];exact ha);rw[hX]
      exact(XeB Xq.o.1 Zh (λa ha=>by
       by_cases h0:a=0
       ·exact .inl h0
       ·exact .inr (Zqu v1 rs k a ha h0))).symm
     ·refine Y.o.t.trans' Xm.o (λb hb h=>?_);rcases h with h|h
      ·exact .inr (.inl h)
      ·exact(Y.o.sub b h).elim (λh=>.inr (.inr h)) (λh=>by omega)
     ·refine Y.o.rt.touch Xm.o (λh=>?_) (λh=>?_)
      ·rcases h with(h|h)|h
       ·exact U.o.rK h
       ·exact U.o.rM h
       ·exact(Y.o.sub _ h).elim U.o.rS (λh=>by have:=U.o.r3;omega)
      ·rcases h with(h|h)|h
       ·exact U.o.gK h
       ·exact U.o.gM h
       ·exact(Y.o.sub _ h).elim U.o.gS (λh=>by have:=U.o.g3;omega)
     ·rw[VQN v1 rs k (by have:=HK.o;omega)]
    case measure=>
     have h1:=Jz.o;have h2:=HB.o;have h3:=Jw.o;simp only[intOf];omega
   ·have Ye:k=(AQ v1 rs k).length:=by
     rcases O with h|h
     ·exact absurd h hk
     ·exact h.1
    have Zq:=(cx.done Ye).2;rw[ψk (Nat.le_of_eq Ye.symm)];obtain⟨tt,Xl⟩:∃tt:Nat,(tt:Int)=c.to+AI v1 (AQ v1 rs k):=⟨((c.to:Int)+AI v1 (AQ v1 rs k)).toNat,by omega⟩;have Zg:tt=c.to+sizes L:=Ω
    rw[<-Xl]at c2⊢;have e0:decide ((tt:Int)<(tt:Int))=false:=φ Ω;have Xx:Xk.pl.pg=v.pl.pg:=Y.o.st.cp.sm.pg.trans Ze.o.pg;have Ys:=ι (λ(W:World) (g':Gr wr W)=>IY (Y.o.cat.vm.gr g'));rw[Xx]at Ys;have Zu:=ι (ϑ Ye (ϑ Zq Zg));have Jl:Hid (Rec wr (M+1) 206 [pP q,.map (some M),iI tt]):=⟨by have:=Y.o.cat.rc;rw[<-Xl]at this;exact this⟩;obtain⟨pg,Xg⟩:∃pg,pg=v.pl.pg:=⟨_,rfl⟩;have Xs:=ι Xg;have Zp:=Yq.af;have htp:=Yq.tp;have htpn:=Yq.tn;rw[<-Xg]at Ys Ji Zp Jx;obtain⟨q0,Xu⟩:∃q0,q0=c.fr/pg:=⟨_,rfl⟩
    have Yp:q0*pg=c.fr:=by
     have:=ζy c.fr pg;rw[Zp,ζR]at this;rw[Xu];omega
    have Yz:=ι Xu;have g1:((c.fr:Int).tdiv (pg:Int))=(q0:Int):=by rw[Xu];rfl
    have g2:((c.fr:Int)/(pg:Int))=(q0:Int):=by rw[Xu];rfl
    have hpg0:(pg:Int)≠0:=Ω
    have hq0n:q0<=524288:=by have:=ζ2 c.fr pg;omega
    have Jp:=ι Yp;have V:=Yu.o _ _ Y.o.t (Gr.refl _);obtain⟨u0,u1,ul⟩:=V.k2;have Je:Hid (UmI W3 wr (AE (plus (AE S w) w1) w2) (M+1) M q r g Xk Yv tt q0 0 pg c.tp):=⟨Y.o.t,⟨Zx,Y.o.sub,Y.o.cat.vm,Y.o.cat.nK⟩,Jl.o,Y.o.rt,λi hi=>absurd hi (ζI _)⟩;have HHK:=ι hk;have Jr:Hid (Xk.pl.pg=pg):=⟨by rw[Xx,Xg]⟩;clear V cx fo O Ya Zi Zj Xo Zn hk Ye Zq Xl Zg Xg Xu Xx Yp Jm Yn;go_upto_region 12 with(fail);obtain⟨Sx,J⟩:∃Sx:World->Prop,Sx=λW'=>W'.cell? ⟨w.heap.size,0,none⟩=some (iI c.fr):=⟨_,rfl⟩;have x1:∀p':AA Sx,p'.w.cell? ⟨w.heap.size,0,none⟩=some (iI c.fr):=λp=>AA.get J p;have Z:Sx wr.drew:=by rw[J];exact u0
    have Jn:=ι J;have I:Inhabited (AA Sx):=⟨⟨_,Z⟩⟩;clear J;refine AR Sx 6 [([0,1,2],3)] [4,5] (by kernel_rfl) (by kernel_rfl) Z ?_;refine AG ?_;simp only[AC,ζ,ξ]
    repeat(go_big_quiet_step (fail))
    refine ψ ?_;go_wp2_with(go_at_call 126;refine(Ys.o _ (Gr.refl wr).drew).mono ?_;rintro e w5 ⟨rfl,rfl⟩);refine⟨.inr (AA.of Z),?_⟩;refine AS ?_;simp only[AC,ζ,ξ]
    repeat(go_big_quiet_step (fail))
    refine ψ ?_;refine τ ?_;clear x1 Z I;clear Jn Sx;go_wp2
    go_loopw [13] (λs13 wx=>∃j:Nat,Hid (UmI W3 wx (AE (plus (AE S w) w1) w2) (M+1) M q r g Xk Yv tt q0 j pg c.tp)/\s13=iI ((q0+j:Nat):Int)) (λs13 _=>c.tp-(intOf s13).toNat*pg)
    case atStart=>exact⟨0,⟨Je.o.gr (Gr.refl wr).drew⟩,rfl⟩
    case round=>
     obtain⟨j,HU,rfl⟩:=hrel;clear u0 u1 ul c2;obtain⟨Sj,Zr,Zb,Zl⟩:=HU.o.vm;have V:=Yu.o _ _ HU.o.t (Gr.refl _);have u1:=V.cc 1;have Yx:=IY (Zb.gr (Gr.refl wr).drew);rw[(LU Xk q0 j).2.1,Jr.o]at Yx;have Ym:=ι Yx;have Zm:=ι Zb;have Xe:=ι (ϑ Zr Zl);obtain⟨qq,Xr⟩:∃qq,qq=q0+j:=⟨_,rfl⟩;obtain⟨pp,Xj⟩:∃pp,pp=qq*pg:=⟨_,rfl⟩
     have hppb:pp<=1048576:=by
      rcases ζB j with h0|h0
      ·rw[Xj,Xr,h0,ξn,Jp.o];omega
      ·have:=HU.o.q1 (j-1) Ω;have e:pp=(q0+(j-1))*pg+pg:=by rw[Xj,Xr,show q0+j=(q0+(j-1))+1 by omega,ξj,ξF]
       omega
     have hqb:qq<=pp:=by rw[Xj];exact ξ3 _ Ω
     have hmul:((qq:Int)*(pg:Int))=(pp:Int):=by rw[Xj];push_cast;rfl
     have Xf:=ι (ϑ Xr Xj);rw[<-Xr];clear V Yx Zb Zr Zl Xr Xj;by_cases O:pp<c.tp
     ·have e1:decide ((pp:Int)<(c.tp:Int))=true:=θ Ω;have e2:decide (pp<c.tp)=true:=θ O;have Yf:=ι O;have Jg:=ι (λ(W:World) (g':Gr wr W)=>NB (Zm.o.gr g') (qq:Int));clear O;go_upto_region 13 with(fail);obtain⟨Sx,J⟩:∃Sx:World->Prop,Sx=λW'=>W'.cell? ⟨w.heap.size,1,none⟩=some (iI c.tp):=⟨_,rfl⟩;have x1:∀p':AA Sx,p'.w.cell? ⟨w.heap.size,1,none⟩=some (iI c.tp):=λp=>AA.get J p;have Z:Sx wr.drew:=by rw[J];exact u1
      have I:Inhabited (AA Sx):=⟨⟨_,Z⟩⟩;clear J;refine AR Sx 7 [([0,1,4,5],2)] [3,6] (by kernel_rfl) (by kernel_rfl) Z ?_;refine AG ?_;simp only[AC,ζ,ξ]
      repeat(go_big_quiet_step (fail))
      refine ψ ?_;go_wp2_with(go_at_call 126;refine Ym.o.mono ?_;rintro e w5 ⟨rfl,rfl⟩);refine⟨.inr (AA.of Z),?_⟩;refine AS ?_;simp only[AC,ζ,ξ]
      repeat(go_big_quiet_step (fail))
      refine ψ ?_;refine τ ?_;clear x1 Z I;clear Sx;go_wp2_with(go_at_call 127;refine(Jg.o _ (Gr.refl wr).drew).mono ?_;rintro e w5 ⟨rfl,Xw,Zf⟩;have Xm:=ι Xw;have Jj:=ι Zf;clear Xw Zf);go_round
      case rel=>
       have Ju:=HU.o.t.size;refine⟨j+1,⟨⟨?_,⟨plus Sj wr.drew,λb hb=>?_,?_,λh=>?_⟩,?_,?_,λi hi=>?_⟩⟩,?_⟩
       ·refine(HU.o.t.trans ((Gr.refl wr).drew.touch _)).trans' Xm.o (λb hb h=>?_);exact(Xe.o.1 b h).elim (λh=>.inr (.inr h)) (λh=>by omega)
       ·rcases hb with h|h
        ·exact Xe.o.1 b h
        ·right;exact ζa Ju h
       ·have:=Jj.o;rw[Xf.o.1]at this;exact this
       ·rcases h with h|h
        ·exact Xe.o.2 h
        ·have:=HU.o.rc.lt;exact absurd this (ξh h)
       ·exact(HU.o.rc.gr (Gr.refl wr).drew).touch Xm.o Xe.o.2
       ·refine(HU.o.rt.gr (Gr.refl wr).drew).touch Xm.o (λh=>?_) (λh=>?_)
        ·exact(Xe.o.1 _ h).elim U.o.rS (λh=>by have:=U.o.r3;omega)
        ·exact(Xe.o.1 _ h).elim U.o.gS (λh=>by have:=U.o.g3;omega)
       ·rcases ω i j with h|h
        ·exact HU.o.q1 i h
        ·obtain rfl:i=j:=Ω
         rw[<-Xf.o.1,<-Xf.o.2];exact Yf.o
       ·rw[show q0+(j+1)=qq+1 by rw[Xf.o.1];omega]
        go_num
      case measure=>
       have h1:=Yf.o;have h2:=Xf.o.2;simp only[intOf];rw[show ((qq:Int)+1).toNat=qq+1 by omega,η,ξj,ξF,<-h2];omega
     ·have e1:decide ((pp:Int)<(c.tp:Int))=false:=φ Ω;have e2:decide (pp<c.tp)=false:=φ O;have Yf:=ι O;have c2:=HU.o.rc.cc 2;have c2l:=HU.o.rc.lt;clear O;go_upto_region 13 with(fail);obtain⟨Sx,J⟩:∃Sx:World->Prop,Sx=λW'=>W'.cell? ⟨w.heap.size,1,none⟩=some (iI c.tp):=⟨_,rfl⟩;have x1:∀p':AA Sx,p'.w.cell? ⟨w.heap.size,1,none⟩=some (iI c.tp):=λp=>AA.get J p;have Z:Sx wr.drew:=by rw[J];exact u1
      have I:Inhabited (AA Sx):=⟨⟨_,Z⟩⟩;clear J;refine AR Sx 7 [([0,1,4,5],2)] [3,6] (by kernel_rfl) (by kernel_rfl) Z ?_;refine AG ?_;simp only[AC,ζ,ξ]
      repeat(go_big_quiet_step (fail))
      refine ψ ?_;go_wp2_with(go_at_call 126;refine Ym.o.mono ?_;rintro e w5 ⟨rfl,rfl⟩);refine⟨.inr (AA.of Z),?_⟩;refine AS ?_;simp only[AC,ζ,ξ]
      repeat(go_big_quiet_step (fail))
      refine ψ ?_;refine τ ?_;clear x1 Z I;clear Sx;go_wp2;go_ret2;have hz3:=Yg.o.size;have Jy:AB (λb=>b=g\/S b) w W3:=(((Xa.touch _).trans (Yk.mono (λi _ h=>.inr h.1))).trans (Xy.o.mono (λi _ h=>.inr h.1))).trans (Yg.o.touch _);have hE:=HE.o;rw[Yb.o]at hE;refine⟨L,Yh,?_,.inr ⟨hE.symm,?_,v1,Xk,k,j,⟨Ze.o,Xq.o.1,Xq.o.2,Zu.o.1,Y.o.st,?_,?_⟩,?_,?_⟩⟩
      ·refine(Jy.trans' HU.o.t (λb hb h=>?_)).trans ((Gr.refl wr).drew.touch _);rcases h with h|h|h
       ·exact .inl h
       ·omega
       ·exact(Zo.o b h).1.elim .inr (λh=>by omega)
      ·rw[<-Zu.o.2.2];exact BI rfl rfl
      ·intro i hi;rw[<-Xs.o,<-Yz.o];exact HU.o.q1 i hi
      ·rw[<-Xs.o,<-Yz.o,<-Xf.o.1,<-Xf.o.2];have:=Yf.o;omega
      ·rw[<-Xs.o,<-Yz.o];refine(Zm.o.gr (Gr.refl wr).drew).mono (λb hb=>?_);exact(Xe.o.1 b hb).elim (λh=>(Zo.o b h).1) (λh=>.inr Ω)
      ·rw[<-Y.o.oe];exact HU.o.rt.gr (Gr.refl wr).drew
 ·have d0:(E !=0)=true:=by simpa using Yd
  go_wp2_with(go_at_call 122;refine Za.o.mono ?_;rintro e w2 ⟨rfl,B,Yc⟩;have Xy:=ι B;have Yr:=ι Yc;clear B Yc);go_ret2;refine⟨L,Yh,?_,.inl ⟨?_,?_,?_,?_⟩⟩
  ·exact(((Xa.touch _).trans (Yk.mono (λi _ h=>.inr h.1))).trans (Xy.o.mono (λi _ h=>.inr h.1)))
  ·rw[<-Yb.o,<-HE.o];exact Yd
  ·rw[<-Yb.o,<-HE.o];exact BI rfl rfl
  ·have hF:BT v c.to ((c.to+nn:Nat):Int)=[]:=by unfold BT;rw[κ (λh=>Yd (HE.o.trans h.1))]
   obtain⟨v',hg,hv⟩:=Yr.o;rw[hF]at hg;have:=Yk.size;exact⟨v',hg,hv.mono (λb hb=>hb.elim (λh=>.inl h.1) (λh=>.inr Ω))⟩
  ·exact Zc.o.touch Xy.o (λh=>D.2.1 h.1) (λh=>D.2.2 h.1)
end
end Go.Proofs.YteihjlcmjecmfaaGreatDoor
