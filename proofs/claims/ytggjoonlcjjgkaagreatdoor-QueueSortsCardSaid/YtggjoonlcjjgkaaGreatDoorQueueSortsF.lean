/- Part 6 of what QueueSorts leans on: my own lemmas, merged by shake.py. -/
import Derived.Test.YtggjoonlcjjgkaaGreatDoorQueueSortsE
import Derived.Deep.LoopGhost
namespace Go.Proofs.YtggjoonlcjjgkaaGreatDoor
open _root_.Go.Proofs.Tryz
set_option maxHeartbeats 6400000
set_option maxRecDepth 100000
open Go.RowKit
variable{lb:Array Value}{b lost':Bool}{a r vi:Int}{X:Int->Prop}{O l rs st':List Int}{L:List Ob}{s:MkS}{K M R b12 b5 cp f g j k m n q to:Nat}{G S S3 SV SW:Nat->Prop}{A:Option Addr}{z:Sp}{α σ:Type}{u u':Value}{v v1:Vm}{w w' w3:World}
section
variable{F:Fence}{P:Program}
def UW(K:Nat)(F:Fence)(n:Nat)(P:Program)(g:Nat)(lb:Array Value)(encs:α->Array Value)(Inv:σ->World->Prop)(gives:σ->α->Prop)(next:σ->α->σ->Prop)(fin:σ->Prop)(s0:σ)(w:World):Prop:=
 ∀(l:Nat) (J:σ->World->Prop) (Jx:World->Prop) (W:World),Gr w W->(∀s A B,J s A->AB (λk=>W.heap.size<=k/\k<W.heap.size+K) A B->J s B)->(∀A B,Jx A->AB (λk=>W.heap.size<=k/\k<W.heap.size+K) A B->Jx B)->(∀s A,J s A->Inv s A) →
  (∀s x W1,J s W1->W.heap.size+K<=W1.heap.size->gives s x->YieldAt F (n-1) P l (encs x) W1 λe W'=>((e=.returned (.bool true)/\∃s',next s x s'/\J s' W')\/(e=.returned (.bool false)/\Jx W'))/\AB (λk=>k<W.heap.size\/W.heap.size+K<=k) W1 W') →
  J s0 W->CallsIn F n P g (#[.func (.yield l) #[] #[]]++lb) W λe W'=>(∃v,e=.returned v)/\((∃s,fin s/\J s W')\/Jx W')
def Y3E(B K:Nat)(I:σ->World->Prop)(Ix:Code->World->Prop)(next:σ->α->σ->Prop)(s:σ)(x:α)(W:World):Exit->Act->World->Prop
 | .normal,_,W'=>AB (λk=>k<B\/B+K<=k) W W'/\∃s',next s x s'/\I s' W'
 | .ret,_,W'=>AB (λk=>k<B\/B+K<=k) W W'/\Ix .ret W'
 | .exit id,_,W'=>AB (λk=>k<B\/B+K<=k) W W'/\Ix (.exit id) W'
 | .goto t,_,W'=>AB (λk=>k<B\/B+K<=k) W W'/\Ix (.goto t) W'
 | _,_,_=>False
theorem MQ.toU{encs:α->Array Value}{Inv:σ->World->Prop}{gives:σ->α->Prop}{next:σ->α->σ->Prop}{fin:σ->Prop}{s0:σ}(h:MQ F n P g lb encs Inv gives next fin s0 w):UW 0 F n P g lb encs Inv gives next fin s0 w:=by
 intro l J Jx W hg hJ U hI hY h0;refine h l (λs A=>J s A/\W.heap.size<=A.heap.size) Jx W hg (λs A B hs hAB=>⟨hJ s A B hs.1 (hAB.touch _),χ hs.2 hAB.size⟩) (λA B hs hAB=>U A B hs (hAB.touch _)) (λs A hs=>hI s A hs.1) ?_ ⟨h0,ϑ _⟩ |>.mono ?_
 ·rintro s x W1 ⟨hs,Y⟩ hx;refine(hY s x W1 hs Y hx).mono ?_;rintro e W' ⟨⟨he,s',hn,Z⟩|⟨he,hx'⟩,ht⟩
  ·exact .inl ⟨he,s',hn,Z,χ Y ht.size⟩
  simp_all
 grind
theorem LQ{g:Operand}{ps:Array Tmp}{assign body:Code}{Q:Exit->Act->World->Prop}{a:Act}
  (hro:F.round=none) (h1:1<=n) {gf:Nat}  (hg:a.eval g=.func (.func gf) #[] lb) (hFg:F.fn gf) (eg:∀args w,(callFunc gf args).run P w=.ok (.enter gf args) w)
  {encs:α->Array Value} {Inv:σ->World->Prop} {gives:σ->α->Prop} {next:σ->α->σ->Prop} {fin:σ->Prop} {s0:σ}  (hseq:UW K F (n-1) P gf lb encs Inv gives next fin s0 w)
  (hps:∀x,(encs x).size=ps.size)
  (I:σ->World->Prop) (Ix:Code->World->Prop) (hI:∀s A B,I s A->AB (λk=>w.heap.size<=k/\k<w.heap.size+2+K) A B->I s B) (hIx:∀c A B,Ix c A->AB (λk=>w.heap.size<=k/\k<w.heap.size+2+K) A B->Ix c B)
  (hInv:∀s A,I s A->Inv s A) (h0:I s0 w)
  (hround:∀(l:Nat) (s:σ) (x:α) (W:World),w.heap.size+2+K<=W.heap.size->I s W->gives s x →
   assign.wpIn (F.inRound l) (n-1-1) P (Exit.then (λa' Wa=>Gr W Wa/\∀W2,AB (λk=>k=w.heap.size+1) Wa W2->I s W2->body.wpIn (F.inRound l) (n-1-1) P (Y3E w.heap.size (2+K) I Ix next s x W2) a' W2) (λ_ _ _=>False))
    {tmps:=(ps.zip (encs x)).foldl (λt (p,v)=>t.setIfInBounds p v) a.tmps,defers:=[]} W)
  (hdone:∀(D:Nat) (s:σ) (W:World),D=w.heap.size->fin s->I s W->W.heap[D]?=some (.deferred (some []))->Q .normal {a with defers:={target:=.collected D,args:=#[]} :: a.defers} W)
  (hstop:∀(D:Nat) (c:Code) (W:World),D=w.heap.size->Ix c W->W.heap[D]?=some (.deferred (some []))->c.wpIn F n P Q {a with defers:={target:=.collected D,args:=#[]} :: a.defers} W):
  (Code.rangeFunc g ps assign body).wpIn F n P Q a w:=by
 refine wpIn_rangeFunc ?_;intro fn Xl;rw[hro];obtain⟨Z,U⟩:∃Z:LoopState->Option Code->Loop,Z=λst pe=>{state:=st,pending:=pe,fn,tmps:=a.tmps,params:=ps,assign,body,defers:=w.heap.size}:=⟨_,rfl⟩;obtain⟨W1,Xc⟩:∃W1,(w.alloc (.deferred (some []))).alloc (.loop (Z .ready none))=W1:=⟨_,rfl⟩
 have Xn:W1.heap[w.heap.size+1]?=some (.loop (Z .ready none)):=by
  rw[<-Xc];have:=ξF (w.alloc (.deferred (some []))) (.loop (Z .ready none));rwa [γ]at this
 have Xo:W1.heap[w.heap.size]?=some (.deferred (some [])):=by
  rw[<-Xc];exact(Below.heap_alloc _ _ _ (by simp)).trans (ξF w _)
 have Xg:Gr w W1:=by rw[<-Xc];exact((Gr.refl w).alloc _).alloc _
 have tt:∀{A B:World},Gr A B->AB (λk=>w.heap.size<=k/\k<w.heap.size+2+K) A B:=λh=>h.touch _;have Y:∀{A:World} {k:Nat} {o:Obj},A.heap[k]?=some o->k<A.heap.size:=λh=>(ζn.1 h).1
 refine⟨w.heap.size+1,[{target:=.collected w.heap.size,args:=#[]}],W1,{target:=.fn (.func gf) lb,args:=#[.func (.yield (w.heap.size+1)) #[] #[]]},W1,gf,
  #[.func (.yield (w.heap.size + 1)) #[] #[]] ++ lb, W1, ?_, ?_, ?_, ?_, λ_ => h1, ?_⟩
 ·rw[<-Xc,U];exact run_enterLoop_outer _ _ _ _ _
 ·simp only[resolve,hg];simp[go_sem]
 ·intro f' Xi;simp[Target.leads]at Xi;subst Xi;exact hFg
 ·simp[invoke,go_sem,eg]
 ·have hs1:W1.heap.size=w.heap.size+2:=by rw[<-Xc];simp
  refine(hseq (w.heap.size+1)
   (λs W=>I s W/\W.heap[w.heap.size+1]?=some (.loop (Z .ready none))/\W.heap[w.heap.size]?=some (.deferred (some [])))
   (λW=>∃c,Ix c W/\W.heap[w.heap.size+1]?=some (.loop (Z .done (some c)))/\W.heap[w.heap.size]?=some (.deferred (some [])))
   W1 Xg
   (λs A B hs ht=>⟨hI s A B hs.1 (ht.mono (λk _ h=>by omega)),(ht.block _ (Y hs.2.1) Ω).trans hs.2.1,(ht.block _ (Y hs.2.2) Ω).trans hs.2.2⟩)
   (λA B hs ht=>by
    obtain⟨c,hc,hl,hk⟩:=hs
    exact⟨c,hIx c A B hc (ht.mono (λk _ h=>by omega)),(ht.block _ (Y hl) Ω).trans hl,(ht.block _ (Y hk) Ω).trans hk⟩)
   (λs A hs=>hInv s A hs.1) ?_ ⟨hI _ _ _ h0 (tt Xg),Xn,Xo⟩).mono ?_
  ·rintro s x W ⟨hi,hl,hk⟩ hszW Xm;have Xe:w.heap.size+1<W.heap.size:=Y hl;have hy:=run_yield (P:=P) (args:=encs x) hl (by rw[U];exact hps x);rw[U]at hy;refine⟨fn,_,assign,body,hy,roundIn_of_wpIn Xl (wpIn_mono (hround _ s x W Ω hi Xm) ?_)⟩;rintro e a' Wa hp;cases e with
   | normal=>?_
   | _=>exact False.elim hp
   obtain⟨Xb,V⟩:=hp
   replace hl:=(Xb.block Xe).trans hl
   replace hk:=(Xb.block Ω).trans hk
   replace Xe:=Y hl
   replace hi:=hI _ _ _ hi (tt Xb)
   revert V Xb;generalize W=W0;intro Xb V;obtain⟨W,rfl⟩:∃W,W=Wa:=⟨_,rfl⟩;refine⟨_,run_beginRound hl (by rw[U]),?_⟩;have Xf:(W.putObj (w.heap.size+1) (.loop {Z .ready none with state:=.busy})).heap[w.heap.size+1]?=some (.loop {Z .ready none with state:=.busy}):=ξy Xe;have Xj:(W.putObj (w.heap.size+1) (.loop {Z .ready none with state:=.busy})).heap[w.heap.size]?=some (.deferred (some [])):=(ζm Ω).trans hk;refine wpIn_mono (V _ ⟨rfl,rfl,rfl,by simp,λk _ hn=>ζm hn⟩ (hI _ _ _ hi ((DP W (w.heap.size+1) _).mono (λk _ h=>by omega)))) ?_
   have fin:∀(jump:Option Code) (W3:World),AB (λk=>k<w.heap.size\/w.heap.size+(2+K)<=k) (W.putObj (w.heap.size+1) (.loop {Z .ready none with state:=.busy})) W3 →
     (Instr.endRound (w.heap.size+1) jump).run P W3=.ok (.bool jump.isNone) (W3.putObj (w.heap.size+1) (.loop (Z (if jump.isNone then .ready else .done) jump))) ∧
     (W3.putObj (w.heap.size+1) (.loop (Z (if jump.isNone then .ready else .done) jump))).heap[w.heap.size+1]?=some (.loop (Z (if jump.isNone then .ready else .done) jump)) ∧
     (W3.putObj (w.heap.size+1) (.loop (Z (if jump.isNone then .ready else .done) jump))).heap[w.heap.size]?=some (.deferred (some [])):=λjump W3 J=>by
    have Xh:=(J.block _ (Y Xf) Ω).trans Xf;have:=run_endRound (P:=P) jump Xh;rw[U]at this⊢;exact⟨this,ξy (Y Xh),(ζm Ω).trans ((J.block _ (Y Xj) Ω).trans Xj)⟩
   have Xd:∀(o:Obj) (W3:World),AB (λk=>k<w.heap.size\/w.heap.size+(2+K)<=k) (W.putObj (w.heap.size+1) (.loop {Z .ready none with state:=.busy})) W3->AB (λk=>k<W1.heap.size\/W1.heap.size+K<=k) W0 (W3.putObj (w.heap.size+1) o):=λo W3 h3=>
    (((Xb.touch _).trans ((DP W (w.heap.size+1) _).mono (λk _ h=>by omega))).trans (h3.mono (λk _ h=>by omega))).trans ((DP W3 (w.heap.size+1) o).mono (λk _ h=>by omega))
   rintro e a3 W3 hp;cases e with
   | normal=>
    obtain⟨J,s',Xk,E⟩:=hp;obtain⟨hr,O,Xa⟩:=fin none W3 J;exact⟨_,_,hr,.inl ⟨rfl,s',Xk,hI _ _ _ E ((DP W3 (w.heap.size+1) _).mono (λk _ h=>by omega)),O,Xa⟩,Xd _ _ J⟩
   | ret=>
    obtain⟨J,E⟩:=hp;obtain⟨hr,O,Xa⟩:=fin (some .ret) W3 J;exact⟨_,_,hr,.inr ⟨rfl,.ret,hIx _ _ _ E ((DP W3 (w.heap.size+1) _).mono (λk _ h=>by omega)),O,Xa⟩,Xd _ _ J⟩
   | exit id=>
    obtain⟨J,E⟩:=hp;obtain⟨hr,O,Xa⟩:=fin (some (.exit id)) W3 J;exact⟨_,_,hr,.inr ⟨rfl,.exit id,hIx _ _ _ E ((DP W3 (w.heap.size+1) _).mono (λk _ h=>by omega)),O,Xa⟩,Xd _ _ J⟩
   | goto t=>
    obtain⟨J,E⟩:=hp;obtain⟨hr,O,Xa⟩:=fin (some (.goto t)) W3 J;exact⟨_,_,hr,.inr ⟨rfl,.goto t,hIx _ _ _ E ((DP W3 (w.heap.size+1) _).mono (λk _ h=>by omega)),O,Xa⟩,Xd _ _ J⟩
   | panic ch=>exact hp.elim
   | outgrown=>exact hp.elim
  ·rintro e W2 ⟨⟨v,rfl⟩,(⟨s,hS,hi,hl,hk⟩|⟨c,hi,hl,hk⟩)⟩
   ·exact⟨none,_,by have:=run_endLoop (P:=P) hl (by rw[U];simp);rw[U]at this;exact this,hdone _ s _ rfl hS (hI _ _ _ hi ((DP W2 (w.heap.size+1) _).mono (λk _ h=>by omega))) ((ζm Ω).trans hk)⟩
   ·exact⟨some c,_,by have:=run_endLoop (P:=P) hl (by rw[U];simp);rw[U]at this;exact this,hstop _ c _ rfl (hIx _ _ _ hi ((DP W2 (w.heap.size+1) _).mono (λk _ h=>by omega))) ((ζm Ω).trans hk)⟩
end
open Go.Shelf Word
section
attribute [local go_sem] Oper.semAt_some
theorem OO(n':Nat)(box m p1 b1 p2 b2 n:Nat)(L:List Ob)(w:World):
  UW 4 Fence.wide n' prog 187 #[pP box] GJ (Zxj box m p1 b1 p2 b2 n L) (EJ L) (λj _ j'=>j'=j+1) (λj=>j=L.length) 0 w:=by
 intro l J Jx W hg hJ Xr hI hY h0;refine τ.2 ((τ (n:=5)).1 ?_);refine callsIn_of_wp_marks func187 rfl trivial ?_ rfl;have I:=hI _ _ h0;have c0:=I.2.2.1;have k0:=I.1.c0;have Xs:=h0;have Xp:=hI;simp only[ntmps187,ζS,ζw,ζ7,Nat.reduceAdd,Nat.reduceSub,ζJ,ζI,ζY,ζN,ζV,ζq];have hbox:box<W.heap.size:=AT c0;have hmw:=I.1.hm
 gi_wp2_with(first
  | (refine⟨trivial,?_⟩;gi_at_call 122;refine(τ.2 (DM (I.1.gr ((Gr.refl W).alloc _)))).mono ?_;rintro e w1 ⟨rfl,rfl⟩)
  | (refine⟨trivial,?_⟩;gi_at_call 188;refine(τ.2 (Xig (some ⟨p1,0,none⟩))).mono ?_;rintro e w1 ⟨rfl,rfl⟩))
 obtain⟨W0,E⟩:∃W0,W0=(W.alloc (.cells #[.func (.yield l) #[] #[]] 118)).alloc (.cells #[.pointer (some ⟨p1,0,none⟩)] 150):=⟨_,rfl⟩;have Xu:Gr W W0:=by rw[E];exact((Gr.refl W).alloc _).alloc _
 have hsz0:W0.heap.size=W.heap.size+2:=by rw[E];simp
 have bY:W0.cell? ⟨W.heap.size,0,none⟩=some (.func (.yield l) #[] #[]):=by rw[E];exact((Boxed.new W _ _).alloc _).cell
 have bV:W0.cell? ⟨W.heap.size+1,0,none⟩=some (pP p1):=by
  rw[E];have:=Boxed.new (W.alloc (.cells #[.func (.yield l) #[] #[]] 118)) 150 (pP p1);rw[γ]at this;exact this.cell
 rw[<-E];have Y:=I.1.good;have hnb:=I.1.nb;have Xh:J 0 W0:=hJ _ _ _ Xs (Xu.touch _);have Xz:A6 L ((0:Nat):Int)=0:=L3 (ζe _) (λi hi h=>by omega) (λh=>by omega)
 have tI:∀s A B,L9 n L J W.heap.size (W.heap.size+1) p1 (.func (.yield l) #[] #[]) s A->AB (λk=>W0.heap.size<=k/\k<W0.heap.size+2+0) A B->L9 n L J W.heap.size (W.heap.size+1) p1 (.func (.yield l) #[] #[]) s B:=λs A B h t=>
  ⟨h.st,h.ps,by obtain⟨j,hj,e⟩:=h.j;exact⟨j,hJ _ _ _ hj (t.mono (λk _ h=>by omega)),e⟩,(t.cell (AT h.y) (by show ¬(W0.heap.size<=W.heap.size/\_);omega) 0).trans h.y,(t.cell (AT h.v) (by show ¬(W0.heap.size<=W.heap.size+1/\_);omega) 0).trans h.v⟩
 refine LQ (K:=0) (s0:=(BV n L,0)) rfl Ω (gf:=217) (lb:=#[pP (W.heap.size+1)]) rfl trivial (enters_of func217 (by kernel_rfl) rfl)
  (ZNp _ (W.heap.size+1) p1 b1 n (BV n L) _).toU (λ_=>rfl)
  (L9 n L J W.heap.size (W.heap.size+1) p1 (.func (.yield l) #[] #[])) (λc A=>c=.ret/\Jx A) tI (λc A B h t=>⟨h.1,Xr _ _ h.2 (t.mono (λk _ h=>by omega))⟩)
  (λs A h=>by
   obtain⟨j,hj,-⟩:=h.j;have hi:=Xp _ _ hj
   exact⟨by rw[h.st];exact hi.1.v1,by rw[h.st,IF],hi.2.1,h.v,h.ps⟩)
  ⟨rfl,ζe _,⟨0,Xh,Xz⟩,bY,bV⟩ ?round ?done ?stop
 case round=>
  intro lp s x W3 hsz3 Xg Xy;gi_wp2;refine⟨Gr.refl _,λW4 ht4 hI4=>?_⟩;obtain⟨O,Xj,⟨j,hj,U⟩,hy,hv⟩:=hI4;obtain⟨hx,Xn⟩:=Xy;have Xb:=Xp _ _ hj;rw[O]at hx Xn
  have Z:j<L.length:=by
   rcases υ j L.length with h|h
   ·exact h
   ·have:=V7 Y (a:=(s.2:Int)) (by rw[U];omega);omega
  have Xt:x=L[j].1:=by
   have:=(M7 Y (a:=(s.2:Int)) (by rw[U];exact Z)).1;rw[hx,this];congr 2
  subst Xt;have Xw:J j W4.drew:=hJ _ _ _ hj ((Gr.refl W4).drew.touch _);have Xk:W.heap.size+4<=W4.drew.heap.size:=by have:=ht4.size;show W.heap.size+4<=W4.heap.size;omega
  obtain⟨fn,tmps,assign,body,Ya,hR⟩:=ZVe (m':=2) (l2:=lp) (hY j L[j] W4.drew Xw Xk (η Z));have HZ:=(QC (Xb.1.gr (Gr.refl W4).drew) ((Gr.refl W4).drew.tab Xb.2.1.lt Xb.2.1) Z);have cbx:=Xb.2.2.1;have HS:=(ξ O (ξ U Z));clear O U hj Xb hx Xn Xg;dsimp only[GJ]at Ya
  have Xq:=hR.mono (R':=λe W'=>∃bb:Bool,e=.returned (.bool bb)/\((bb=true/\J (j+1) W')\/(bb=false/\Jx W'))/\AB (λk=>k<W.heap.size\/W.heap.size+4<=k) W4.drew W') (by
   rintro e W' ⟨⟨he,s',rfl,Xx⟩|⟨he,hx⟩,ht⟩
   ·exact⟨true,he,.inl ⟨rfl,Xx⟩,ht⟩
   ·exact⟨false,he,.inr ⟨rfl,hx⟩,ht⟩)
  clear hR;gi_wp2;obtain⟨Sx,Xc⟩:∃S:World->Prop,S=λA=>A.cell? ⟨W.heap.size,0,none⟩=some (.func (.yield l) #[] #[]):=⟨_,rfl⟩;have x1:∀p:AA Sx,p.w.cell? ⟨W.heap.size,0,none⟩=some (.func (.yield l) #[] #[]):=λp=>AA.get Xc p;have Xa:Sx W4.drew:=by rw[Xc];exact hy
  have Xm:=ι Xc;clear Xc;have Xi:Inhabited (AA Sx):=⟨⟨_,Xa⟩⟩;refine F9 Sx 7 [([0,1,3],2),([],4),([],5)] [6] (λ_=>trivial) Xa ?_;refine DO ?_;gi_wp2;refine⟨.inr (AA.of Xa),?_⟩;refine NI ?_;simp only[AF,ν,π];refine ζb ?_;gi_wp2_with(refine⟨trivial,?_⟩;gi_at_call 189;refine(CallsIn.inRound lp (τ.2 HZ)).mono ?_;rintro e w' ⟨rfl,rfl⟩);refine⟨.inr (AA.of Xa),?_⟩;refine NI ?_;simp only[AF,ν,π];refine ζb ?_;gi_wp2;refine Xq.mono ?_;rintro e W5 ⟨bb,rfl,Xe,Xd⟩;have Xl:=(Xd.cell (AT hy) (by show ¬(W.heap.size<W.heap.size\/W.heap.size+4<=W.heap.size);omega) 0).trans hy;have Yb:=(Xd.cell (AT hv) (by show ¬(W.heap.size+1<W.heap.size\/W.heap.size+4<=W.heap.size+1);omega) 0).trans hv;gi_wp2;refine⟨.inr (AA.of (by rw[Xm.o];exact Xl)),?_⟩;refine F4 ?_;have T5:=(((Gr.refl W4).drew.touch (λk=>k<W0.heap.size\/W0.heap.size+(2+0)<=k)).trans (Xd.mono (λk _ h=>by omega)));have Xv:=(Y.sz _ (μ Z));clear x1 Xa Xm Xi Xq Xd;clear Sx;cases bb with
  | true=>
   have Xf:J (j+1) W5:=by
    rcases Xe with⟨_,h⟩|⟨h,_⟩
    ·exact h
    ·cases h
   clear Xe;gi_wp2;exact⟨T5,(BV n L,L[j].1+1),rfl,rfl,by have:=Xv;show L[j].1+1<=n;omega,⟨j+1,Xf,by have:=ZjB Y Z;push_cast;exact this⟩,Xl,Yb⟩
  | false=>
   have Xf:Jx W5:=by
    rcases Xe with⟨h,_⟩|⟨_,h⟩
    ·cases h
    ·exact h
   clear Xe;gi_wp2;exact⟨T5,rfl,Xf⟩
 case done=>
  rintro D s W3 hD V Xg hK;obtain⟨O,Xj,⟨j,hj,U⟩,hy,hv⟩:=Xg
  have Z:¬j<L.length:=λh=>by
   have:=M7 Y (a:=(s.2:Int)) (by rw[U];exact h);unfold UG at V;rw[O]at V;exact V this.2
  have Xo:j=L.length:=by have:=N4 L (s.2:Int);omega
  have HE:=(ξ Xo hj);have HD:=hD;clear O Xj U hy hv V Xo hj hD Z;gi_wp2;refine⟨by simp,.inl ⟨_,_,rfl,run_takeDeferred hK,?_⟩⟩;refine⟨.tuple #[],ζl rfl _ _ _,⟨_,rfl⟩,.inl ⟨j,HE.1,hJ _ _ _ HE.2 ((DP W3 D _).mono (λk _ h=>by have:=HD;omega))⟩⟩
 case stop=>
  rintro D c W3 hD ⟨rfl,hx⟩ hK;have hK:=hK;have HD:=hD;clear hK hD;gi_wp2;refine⟨by simp,.inl ⟨_,_,rfl,run_takeDeferred hK,?_⟩⟩;refine⟨.tuple #[],ζl rfl _ _ _,⟨_,rfl⟩,.inr (Xr _ _ hx ((DP W3 D _).mono (λk _ h=>by have:=HD;omega)))⟩
end
structure MkC where
 k:Nat
 z:Sp
 m:Nat
 p1:Nat
 b1:Nat
 p2:Nat
 b2:Nat
 n:Nat
 g:Nat
 R:Nat
 wk:Nat
 B:Nat
variable{c:MkC}
def MkC.T(c:MkC)(G:Nat->Prop)(i:Nat):Prop:=i=c.k\/AN c.m c.b1 c.b2 i\/G i
structure DD(c:MkC)(SV G SW:Nat->Prop):Prop where
 sv':∀i,SV i->i<c.B/\¬c.T G i
 sw':∀i,SW i->i<c.B/\¬c.T G i
 tab':1<c.B/\¬c.T G 1
 p1':c.p1<c.B/\¬c.T G c.p1
 p2':c.p2<c.B/\¬c.T G c.p2
 k1:¬AN c.m c.b1 c.b2 c.k
 k2:¬G c.k
 kB:c.k<c.B
 mg:∀i,AN c.m c.b1 c.b2 i->¬G i
 mB:∀i,AN c.m c.b1 c.b2 i->i<c.B
 sd':∀i,c.z.D i->i<c.B/\¬c.T G i
theorem DD.sv(h:DD c SV G SW):∀i,SV i->¬c.T G i:=λi hi=>(h.sv' i hi).2
theorem DD.sw(h:DD c SV G SW):∀i,SW i->¬c.T G i:=λi hi=>(h.sw' i hi).2
theorem DD.sd(h:DD c SV G SW):∀i,c.z.D i->¬c.T G i:=λi hi=>(h.sd' i hi).2
theorem MkC.vm(hz:c.z.Ok)(hs:DD c SV G SW){T':Nat->Prop}(h:c.z.I v SV w)(t:AB T' w w')(hT:∀i,T' i->c.T G i):c.z.I v SV w':=hz.fr h t (λk _ hk=>⟨λh=>hs.sv k h (hT k hk),λh=>hs.sd k h (hT k hk)⟩) (λ_ h=>h)
theorem DD.tab(h:DD c SV G SW):¬c.T G 1:=h.tab'.2
theorem DD.p1(h:DD c SV G SW):¬c.T G c.p1:=h.p1'.2
theorem DD.p2(h:DD c SV G SW):¬c.T G c.p2:=h.p2'.2
theorem DD.plus(h:DD c SV G SW){w:World}(hw:c.B<=w.heap.size):DD c SV (plus G w) SW:=by
 have Y:∀i,i<c.B/\¬c.T G i->i<c.B/\¬c.T (Go.Proofs.YtggjoonlcjjgkaaGreatDoor.plus G w) i:=λi hi=>⟨hi.1,λht=>by
  rcases ht with h1|h1|h1|h1
  ·exact hi.2 (.inl h1)
  ·exact hi.2 (.inr (.inl h1))
  ·exact hi.2 (.inr (.inr h1))
  ·omega⟩
 exact⟨λi hi=>Y i (h.sv' i hi),λi hi=>Y i (h.sw' i hi),Y _ h.tab',Y _ h.p1',Y _ h.p2',h.k1,λh1=>h1.elim h.k2 (λh2=>by have:=h.kB;omega),h.kB,λi hi h1=>h1.elim (h.mg i hi) (λh2=>by have:=h.mB i hi;omega),h.mB,λi hi=>Y i (h.sd' i hi)⟩
def I3(c:MkC)(L:List Ob)(r vi:Int):List Value:=[c.z.v,pP c.m,pP c.g,pP c.wk,iI (L.length:Nat),iI (sizes L:Nat),iI r,iI vi]
structure A2(w:World)(SV G SW:Nat->Prop)(c:MkC)(v:Vm)(s:MkS)(r vi:Int):Prop where
 vm:c.z.I v SV w
 ext:Ext w c.m c.p1 c.b1 c.p2 c.b2 c.n s.L
 stk:BY w G c.g s.st c.R s.lost
 wk:CR w SW c.wk c.z.v []
 row:Rec w c.k 161 (I3 c s.L r vi)
 tab:AQ w
 sep:DD c SV G SW
 bB:c.B<=w.heap.size
 zk:c.z.Ok/\¬c.z.M
theorem A2.gr(h:A2 w SV G SW c v s r vi)(g:Gr w w'):A2 w' SV G SW c v s r vi:=
 ⟨h.zk.1.gr h.vm g,h.ext.gr g,h.stk.gr g,h.wk.gr g,h.row.gr g,g.tab h.tab.lt h.tab,h.sep,χ h.bB g.size,h.zk⟩
theorem A2.set(h:A2 w SV G SW c v s r vi){r' vi':Int}(hj:(I3 c s.L r vi).set j u=I3 c s.L r' vi'):A2 (w.setCell ⟨c.k,j,none⟩ u) SV G SW c v s r' vi':=by
 have t:AB (λi=>i=c.k) w (w.setCell ⟨c.k,j,none⟩ u):=(AB.refl (λi=>i=c.k) w).setCell (a:=⟨c.k,j,none⟩) (λ_=>rfl) u;have hs:=h.sep;refine⟨MkC.vm h.zk.1 hs h.vm t (λi e=>.inl e),?_,h.stk.touch t (λi hi _ e=>hs.k2 (e▸hi)),h.wk.touch t (λi hi _ e=>hs.sw i hi (.inl e)),hj▸h.row.set j u,t.tab h.tab.lt (λe=>hs.tab (.inl e)) h.tab,hs,χ h.bB t.size,h.zk⟩;exact h.ext.touch t (λe=>hs.k1 (e▸.inl rfl)) (λe=>hs.p1 (.inl e)) (λe=>hs.k1 (e▸.inr (.inl rfl))) (λe=>hs.p2 (.inl e)) (λe=>hs.k1 (e▸.inr (.inr rfl)))
theorem OP(j:Nat)(u:Value):AB (c.T G) w (w.setCell ⟨c.k,j,none⟩ u):=(AB.refl _ w).setCell (a:=⟨c.k,j,none⟩) (λ_=>.inl rfl) u
def CO(w:World)(SV G SW:Nat->Prop)(c:MkC)(v:Vm)(P:MkS->Int->Int->Prop)(N:Prop)(e:Ending)(w':World):Prop:=
 AB (c.T G) w w'/\((e=.returned (.tuple #[])/\∃s r vi,A2 w' SV (plus G w) SW c v s r vi/\P s r vi)\/(e=.panicked [{v:=G3 25 0,recovered:=false}]/\N/\∃s r vi,A2 w' SV (plus G w) SW c v s r vi))
section
variable{P:MkS->Int->Int->Prop}{N:Prop}
theorem A2.sub{G':Nat->Prop}(h:A2 w SV G SW c v s r vi)(hg:∀i,G i->G' i)(hs:DD c SV G' SW):A2 w SV G' SW c v s r vi:=⟨h.vm,h.ext,h.stk.mono hg,h.wk,h.row,h.tab,hs,h.bB,h.zk⟩
theorem A2.up(h:A2 w' SV G SW c v s r vi)(hw:c.B<=w.heap.size):A2 w' SV (plus G w) SW c v s r vi:=h.sub (λ_ h=>.inl h) (h.sep.plus hw)
theorem A2.back{w0:World}(h:A2 w' SV (plus (plus G w0) w) SW c v s r vi)(hz:w0.heap.size<=w.heap.size)(hs:DD c SV G SW)(hw:c.B<=w0.heap.size):A2 w' SV (plus G w0) SW c v s r vi:=
 h.sub (λ_ h=>h.elim id (λh=>.inr (χ hz h))) (hs.plus hw)
theorem IL{a b d:World}(h:AB (c.T G) a b)(k:AB (c.T (plus G a)) b d):AB (c.T G) a d:=
 h.trans' k (λi hi ht=>by
  rcases ht with h1|h1|h1|h1
  ·exact .inl h1
  ·exact .inr (.inl h1)
  ·exact .inr (.inr h1)
  ·omega)
theorem CO.ok(t:AB (c.T G) w w')(h:A2 w' SV (plus G w) SW c v s r vi)(p:P s r vi):CO w SV G SW c v P N (.returned (.tuple #[])) w':=⟨t,.inl ⟨rfl,s,r,vi,h,p⟩⟩
theorem CO.no(t:AB (c.T G) w w')(h:A2 w' SV (plus G w) SW c v s r vi)(n:N):CO w SV G SW c v P N (.panicked [{v:=G3 25 0,recovered:=false}]) w':=⟨t,.inr ⟨rfl,n,s,r,vi,h⟩⟩
end
theorem VEk(L:List Ob)(o:Ob):sizes (DC L o)=sizes L+o.2:=by
 induction L with
 | nil=>simp[DC,sizes]
 | cons q t ih=>
  unfold DC
  split
  ·simp only[sizes];omega
  ·simp only[sizes,ih];omega
theorem Jqz(h:AP n L)(ha:Hs L a):A1 L a<L.length/\obS L (A1 L a)=a:=by
 obtain⟨o,ho,rfl⟩:=ha;obtain⟨j,hj,rfl⟩:=ζo ho;have hz:=(h.sz _ ho).1;rw[OE h hj (ψv _) Ω]
 grind [JN]
theorem Z8n(hn:¬Hs L a)(hf:A1 L a<L.length):obS L (A1 L a)≠a:=by
 rw[(JN hf).1];exact λe=>hn ⟨_,μ hf,e⟩
theorem BY.set2{i:Nat}(h:BY w G g l R b)(hk:¬G k):BY ((w.setCell ⟨k,i,none⟩ u).setCell ⟨k,j,none⟩ u') G g l R b:=
 (h.touch ((AB.refl (λx=>x=k) w).setCell (a:=⟨k,i,none⟩) (λ_=>rfl) u) (λ_ hx _ e=>hk (e▸hx))).touch ((AB.refl (λx=>x=k) _).setCell (a:=⟨k,j,none⟩) (λ_=>rfl) u') (λ_ hx _ e=>hk (e▸hx))
theorem VNW{z:Int}(he:C5 L c.n a z=0):((I3 c L r vi).set 4 (iI ((L.length:Nat)+1))).set 5 (iI ((sizes L:Nat)+z))=I3 c (CX L c.n a z) r vi:=by
 have hz:=(YLm he).1;have h1:=ZoS he;have h2:sizes (CX L c.n a z)=sizes L+z.toNat:=by unfold CX;rw[θ he,VEk]
 unfold I3
 grind
theorem A2.pushed{w4 w5:World}(h:A2 w SV G SW c v s r vi){L':List Ob}(t4:AB (AN c.m c.b1 c.b2) w w4)(x4:Ext w4 c.m c.p1 c.b1 c.p2 c.b2 c.n L')
  (t5:AB G ((w4.setCell ⟨c.k,4,none⟩ u).setCell ⟨c.k,5,none⟩ u') w5) (s5:BY w5 (plus G ((w4.setCell ⟨c.k,4,none⟩ u).setCell ⟨c.k,5,none⟩ u')) c.g st' c.R lost') (hm:((I3 c s.L r vi).set 4 u).set 5 u'=I3 c L' r vi):
  A2 w5 SV (plus G w) SW c v ⟨L',st',lost'⟩ r vi/\AB (c.T G) w w5:=by
 have hs:=h.sep
 have tk:AB (λi=>i=c.k) w4 ((w4.setCell ⟨c.k,4,none⟩ u).setCell ⟨c.k,5,none⟩ u'):=
  ((AB.refl (λi=>i=c.k) w4).setCell (a:=⟨c.k,4,none⟩) (λ_=>rfl) u).setCell (a:=⟨c.k,5,none⟩) (λ_=>rfl) u'
 have hz:w.heap.size<=((w4.setCell ⟨c.k,4,none⟩ u).setCell ⟨c.k,5,none⟩ u').heap.size:=χ t4.size tk.size;have Y:¬G c.k:=hs.k2
 refine⟨⟨MkC.vm h.zk.1 hs (MkC.vm h.zk.1 hs (MkC.vm h.zk.1 hs h.vm t4 (λi e=>.inr (.inl e))) tk (λi e=>.inl e)) t5 (λi e=>.inr (.inr e)),?_,s5.mono (λi hi=>hi.imp id (λh'=>χ hz h')),((h.wk.touch t4 (λi hi _ e=>hs.sw i hi (.inr (.inl e)))).touch tk (λi hi _ e=>hs.sw i hi (.inl e))).touch t5 (λi hi _ e=>hs.sw i hi (.inr (.inr e))),
   (hm▸((h.row.touch t4 hs.k1).set 4 u).set 5 u').touch t5 Y,?_,hs.plus h.bB,χ h.bB (χ hz t5.size),h.zk⟩,?_⟩
 ·have e1:=x4.touch tk (λe=>hs.k1 (e▸.inl rfl)) (λe=>hs.p1 (.inl e)) (λe=>hs.k1 (e▸.inr (.inl rfl))) (λe=>hs.p2 (.inl e)) (λe=>hs.k1 (e▸.inr (.inr rfl)));exact e1.touch t5 (hs.mg _ (.inl rfl)) (λe=>hs.p1 (.inr (.inr e))) (hs.mg _ (.inr (.inl rfl))) (λe=>hs.p2 (.inr (.inr e))) (hs.mg _ (.inr (.inr rfl)))
 ·have a1:=t4.tab h.tab.lt (λe=>hs.tab (.inr (.inl e))) h.tab;have a2:=tk.tab a1.lt (λe=>hs.tab (.inl e)) a1;exact t5.tab a2.lt (λe=>hs.tab (.inr (.inr e))) a2
 ·exact((t4.mono (λi _ hi=>.inr (.inl hi))).trans (tk.mono (λi _ hi=>.inl hi))).trans (t5.mono (λi _ hi=>.inr (.inr hi)))
theorem Q0(w:World)(k:Nat):cQ 176 #[pP k,.bool true] w (.tuple #[]):=by
 go_enter func176,ntmps176;go_wp2;refine ζz (ζl rfl _ _ _) rfl ?_
 simp_all
theorem WC(h:A2 w SV G SW c v s r vi):Calls prog 176 #[pP c.k,.bool false] w λe w'=>e=.panicked [{v:=G3 25 0,recovered:=false}]/\w=w':=by
 have c3:=h.row.cc 3;have HF:=(YJ h.zk.1.nn h.wk 25 0);go_enter func176,ntmps176;go_wp2_with(go_at_call 154;refine HF.mono ?_;rintro e w1 ⟨rfl,rfl⟩);exact⟨rfl,rfl,rfl⟩
def Sp.Rd(z:Sp)(v:Vm)(a:Int):Prop:=(0<a->z.P a)/\∀i:Int,v.plE a i 1=0->z.P (a+1+i)
def XLt(s:MkS)(v:Vm)(rs:List Int)(c:MkC)(X:Int->Prop)(a r vi:Int)(s':MkS)(r' vi':Int):Prop:=B8 v rs c.n c.R X s'/\DG s s'/\(a≠0->Hs s'.L a)/\r'=r/\vi'=vi
theorem VVL(h:A2 w SV G SW c v s r vi)(hp:∀a,Rch v rs a->c.z.Rd v a)(hi:B8 v rs c.n c.R X s)(ha:a≠0->Rch v rs a):Calls prog 126 #[pP c.k,iI a] w (CO w SV G SW c v (XLt s v rs c X a r vi) (¬CC v rs c.n)):=by
 have H:=h;have HI:=hi;by_cases h0:a=0
 ·subst h0;clear h hi ha hp;go_enter func126,ntmps126;go_wp2;refine ζz (ζl rfl _ _ _) rfl ?_;exact CO.ok (AB.refl _ _) (H.up H.bB) ⟨HI,DG.refl _,λh=>absurd rfl h,rfl,rfl⟩
 ·have hR:=ha h0;have HR:=hR;have d0:(a==0)=false:=by simpa using h0
  have c0:=h.row.cc 0;have c1:=h.row.cc 1;unfold Sp.v at c0;have Xa:=(J7 h.ext h.tab a);unfold GB at Xa;have B:=hi.mkd.good;by_cases hs:Hs s.L a
  ·obtain⟨f1,f2⟩:=Jqz B hs;rw[f2,φ f1]at Xa;have HS:=hs;clear h hi ha hp h0 hR hs B f1 f2;go_enter func126,ntmps126;go_wp2_with(go_at_call 168;refine Xa.mono ?_;rintro e w1 ⟨rfl,rfl⟩);refine ζz (ζl rfl _ _ _) rfl ?_;exact CO.ok (AB.refl _ _) (H.up H.bB) ⟨HI,DG.refl _,λ_=>HS,rfl,rfl⟩
  ·have Xi:=(λhf=>Z8n hs hf);have Ya:=hs;obtain⟨st,Xg⟩:∃st,st=obS s.L (A1 s.L a):=⟨_,rfl⟩;obtain⟨sz,Xl⟩:∃sz,sz=obZ s.L (A1 s.L a):=⟨_,rfl⟩;obtain⟨fb,Xh⟩:∃fb,fb=decide (A1 s.L a<s.L.length):=⟨_,rfl⟩;rw[<-Xg,<-Xl,<-Xh]at Xa;rw[<-Xg]at Xi;have Xk:=Xh
   have Xn:fb=false\/(fb=true/\(st==a)=false):=by
    cases hb:fb with
    | false=>exact .inl rfl
    | true=>exact .inr ⟨rfl,by have:=Xi (of_decide_eq_true (Xk.symm.trans hb));simpa using this⟩
   have U:=(λW (g:Gr w W)=>(M4 h.zk.1 (h.zk.1.gr h.vm g) a (hp a hR).1).mono λ_ _ hh=>ξ hh.1 (hh.2.ro h.zk.2));unfold Sp.v at U;have Xz:s.L.length<=1048576:=χ B.len h.ext.nb.2;have Yd:sizes s.L<=1048576:=χ (FO B) h.ext.nb.2;by_cases hE:v.rdE a=0
   ·have HE:=hE;obtain⟨-,-,p,f,k,hh,Xu⟩:=FW hE;have Xc:=DB hE;have Xf:=(λW=>LH ⟨p,f,k⟩ W);have ho:v.osz a=B9 ⟨p,f,k⟩:=by unfold Vm.osz;rw[hh]
    rw[<-ho]at Xf;rw[hE,hh]at U;unfold AK at U Xf;obtain⟨z,hz⟩:∃z,z=v.osz a:=⟨_,rfl⟩;rw[<-hz]at Xf Xc;have HZ:=ι hz;have Xm:=ι (λW (g:Gr w W)=>Zc1 (h.ext.gr g) (g.tab h.tab.lt h.tab) a z);unfold UY at Xm;have Y:=h.sep;have Yf:=ι (λ(W W':World) (g:Gr w W) (t:AB (AN c.m c.b1 c.b2) W W') (x:Ext W' c.m c.p1 c.b1 c.p2 c.b2 c.n s.L)=>(⟨MkC.vm h.zk.1 Y (h.zk.1.gr h.vm g) t (λi e=>.inr (.inl e)),x,(h.stk.gr g).touch t (λi hi _ e=>Y.mg i e hi),(h.wk.gr g).touch t (λi hi _ e=>Y.sw i hi (.inr (.inl e))),(h.row.gr g).touch t Y.k1,t.tab (g.tab h.tab.lt h.tab).lt (λe=>Y.tab (.inr (.inl e))) (g.tab h.tab.lt h.tab),Y,χ h.bB (χ g.size t.size),h.zk⟩:A2 W' SV G SW c v s r vi));by_cases hA:C5 s.L c.n a z=0
    ·have HA:=ι hA;rw[hA]at Xm;have Xo:=ι (VNW (c:=c) (r:=r) (vi:=vi) hA);have Xx:=h.sep.k2;have Yg:=ι Xx;have Xy:=ι (hi.push hR hE (by rw[<-hz];exact hA));rw[<-hz]at Xy;have hz1:1<=z:=Xc.2.1;have hz2:z<=256:=Xc.2.2;obtain⟨LN,Xq⟩:∃LN:Nat,LN=s.L.length:=⟨_,rfl⟩;obtain⟨SN,Xp⟩:∃SN:Nat,SN=sizes s.L:=⟨_,rfl⟩;rw[<-Xq]at Xz Xo;rw[<-Xp]at Yd Xo;have Z:=ι (ξ Xq Xp);clear h hi ha hp h0 hR hs B Xg Xl Xh hE Xi Xk hh Xu ho hz hA Y Xx Xc Xq Xp;rcases Xn with rfl|⟨rfl,d3⟩
     all_goals
      go_enter func126,ntmps126
      go_wp2_with(first
       | (go_at_call 168;refine Xa.mono ?_;rintro e w1 ⟨rfl,rfl⟩)
       | (go_at_call 104;refine(U _ (Gr.refl _)).mono ?_;rintro e w1 ⟨rfl,V⟩;have J:=ι (V.alloc (.cells #[.int .i64 p,.int .i64 f,.int .i64 k] 72));clear V)
       | (go_at_call 176;(with_reducible refine(Q0 _ _).mono ?_);rintro e w2 ⟨rfl,rfl⟩)
       | (go_at_call 69;refine(Xf _).mono ?_;rintro e w3 ⟨rfl,E⟩;have I:=ι (J.o.trans E);have Yc:=(H.gr (J.o.trans E)).row.cell (j:=1) rfl;clear E)
       | (go_at_call 177;refine(Xm.o _ I.o).mono ?_;rintro e w4 ⟨rfl,O,Xd⟩;have Yb:=ι Xd;have Xr:=ι O;have Xe:=ι (H.gr I.o);have Xj:=ι (Xe.o.row.touch O Xe.o.sep.k1);have y2:=Xj.o.cc 2;have y4:=Xj.o.cc 4;have y5:=Xj.o.cc 5;have yf:=Xj.o.free;have Yh:=ι (Xe.o.stk.touch O (λi hi _ e=>Xe.o.sep.mg i e hi));rw[<-Z.o.1]at y4;rw[<-Z.o.2]at y5;clear O Xd)
       | (go_at_call 178;refine(Y4L (Yh.o.set2 Yg.o) a).mono ?_;intro e w5 hp;have Ye:(∃b,e=.returned (.bool b)):=by {rcases hp with⟨_,rfl,_⟩|⟨_,rfl,_⟩ <;> exact⟨_,rfl⟩};have HP:=ι hp;obtain⟨pb,rfl⟩:=Ye;clear hp))
      refine ζz (ζl rfl _ _ _) rfl ?_;have Xv:=Xo.o;rw[Z.o.1,Z.o.2]at Xv
      have Xs:∀st' lost',s.push c.R (CX s.L c.n a z) a=⟨CX s.L c.n a z,st',lost'⟩->AB G ((w4.setCell ⟨c.k,4,none⟩ (.int .i64 ((s.L.length:Nat)+1))).setCell ⟨c.k,5,none⟩ (.int .i64 ((sizes s.L:Nat)+z))) w5/\BY w5 (plus G ((w4.setCell ⟨c.k,4,none⟩ (.int .i64 ((s.L.length:Nat)+1))).setCell ⟨c.k,5,none⟩ (.int .i64 ((sizes s.L:Nat)+z)))) c.g st' c.R lost'->CO w SV G SW c v (XLt s v rs c X a r vi) (¬CC v rs c.n) (.returned (.tuple #[])) w5:=λst' lost' hpe ⟨D,Xb⟩=>by
       obtain⟨q1,q2,q3⟩:=Xy.o;rw[hpe]at q1 q2 q3;obtain⟨m5,t5⟩:=Xe.o.pushed Xr.o Yb.o D Xb Xv;exact CO.ok ((I.o.touch _).trans t5) (m5.sub (λi hi=>hi.imp id (λh'=>χ I.o.size h')) (H.sep.plus H.bB)) ⟨q1,q2,λ_=>q3,rfl,rfl⟩
      rcases HP.o with⟨hf,-,D,Xb⟩|⟨hf,-,D,Xb⟩
      ·refine Xs s.st true (ψ Ω) ⟨?_,?_⟩
       ·rw[Z.o.1,Z.o.2]at D;exact D
       ·rw[Z.o.1,Z.o.2]at Xb;exact Xb
      ·refine Xs (s.st++[a]) s.lost (θ hf) ⟨?_,?_⟩
       ·rw[Z.o.1,Z.o.2]at D;exact D
       ·rw[Z.o.1,Z.o.2]at Xb;exact Xb
    ·obtain⟨y,hy⟩:∃y,y=C5 s.L c.n a z:=⟨_,rfl⟩;have d2:(y==0)=false:=by rw[hy];simpa using hA
     have Xw:=ι hA;have HY:=ι hy;clear h hi ha hp h0 hR hs B Xg Xl Xh hE Xi Xk hh Xu ho hz hA hy Y;rcases Xn with rfl|⟨rfl,d3⟩
     all_goals
      go_enter func126,ntmps126
      go_wp2_with(first
       | (go_at_call 168;refine Xa.mono ?_;rintro e w1 ⟨rfl,rfl⟩)
       | (go_at_call 104;refine(U _ (Gr.refl _)).mono ?_;rintro e w1 ⟨rfl,V⟩;have J:=ι (V.alloc (.cells #[.int .i64 p,.int .i64 f,.int .i64 k] 72));clear V)
       | (go_at_call 176;(with_reducible refine(WC Xt.o).mono ?_);rintro e w2 ⟨rfl,rfl⟩)
       | (go_at_call 176;(with_reducible refine(Q0 _ _).mono ?_);rintro e w2 ⟨rfl,rfl⟩)
       | (go_at_call 69;refine(Xf _).mono ?_;rintro e w3 ⟨rfl,E⟩;have I:=ι (J.o.trans E);have Yc:=(H.gr (J.o.trans E)).row.cell (j:=1) rfl;clear E)
       | (go_at_call 177;refine(Xm.o _ I.o).mono ?_;rintro e w4 ⟨rfl,O,Xd⟩;rw[<-HY.o];have Xr:=ι ((I.o.touch (c.T G)).trans (O.mono (λi _ hi=>.inr (.inl hi))));have Xt:=ι (Yf.o _ _ I.o O (by rw[show CX s.L c.n a z=s.L from ψ Xw.o]at Xd;exact Xd));clear O Xd))
      exact⟨rfl,CO.no Xr.o (Xt.o.up H.bB) (HI.mkd.fail HR Ya (by rw[<-HZ.o];exact Xw.o))⟩
   ·have HE:=hE;obtain⟨y,hy⟩:∃y,y=v.rdE a:=⟨_,rfl⟩;have d2:(y==0)=false:=by rw[hy];simpa using hE
    rw[<-hy]at U;unfold AK at U;clear h hi ha hp h0 hR hs B Xg Xl Xh hE hy Xi Xk;rcases Xn with rfl|⟨rfl,d3⟩
    all_goals
     go_enter func126,ntmps126
     go_wp2_with(first
      | (go_at_call 168;refine Xa.mono ?_;rintro e w1 ⟨rfl,rfl⟩)
      | (go_at_call 104;refine(U _ (Gr.refl _)).mono ?_;rintro e w1 ⟨rfl,V⟩;have J:=ι V;clear V)
      | (go_at_call 176;refine(WC (H.gr (J.o.alloc _))).mono ?_;rintro e w2 ⟨rfl,rfl⟩))
     exact⟨rfl,CO.no ((J.o.alloc _).touch _) ((H.gr (J.o.alloc _)).up H.bB) (ZFY HR HE)⟩
def Yr9(s:MkS)(v:Vm)(rs:List Int)(c:MkC)(X:Int->Prop)(a r:Int)(s':MkS)(r' _vi':Int):Prop:=B8 v rs c.n c.R X s'/\DG s s'/\Cl v s'.L a/\r'=r
theorem ZUP(h:A2 w SV G SW c v s r vi)(hp:∀a,Rch v rs a->c.z.Rd v a)(hi:B8 v rs c.n c.R X s)(ha:Hs s.L a):Calls prog 131 #[pP c.k,iI a] w (CO w SV G SW c v (Yr9 s v rs c X a r) (¬CC v rs c.n)):=by
 have H:=h;have HI:=hi;obtain⟨hR,hE⟩:=hi.mkd.hs ha;obtain⟨-,-,p,f,k,hh,hsm⟩:=FW hE;have HR:=(ξ hR (ξ hE hh));have Xf:=(hp a hR);have E:=(λW (g:Gr w W)=>(M4 h.zk.1 (h.zk.1.gr h.vm g) a (hp a hR).1).mono λ_ _ hh=>ξ hh.1 (hh.2.ro h.zk.2));have HP:=hp;rw[hE,hh]at E;unfold Sp.v AK at E;have c0:=h.row.cc 0;unfold Sp.v at c0;have HN:=(Rec.new w 72 [iI p,iI f,iI k]);clear h hi ha hp hR hE hh;go_enter func131,ntmps131
 go_wp2_with(first
  | (go_at_call 104;refine(E _ (Gr.refl _)).mono ?_;rintro e w1 ⟨rfl,Xb⟩;have Xc:=(Xb.alloc (.cells #[.int .i64 p,.int .i64 f,.int .i64 k] 72));clear Xb)
  | (go_at_call 176;(with_reducible refine(Q0 _ _).mono ?_);rintro e w2 ⟨rfl,rfl⟩))
 go_loopw [24] (λs24 wr=>∃(j:Nat) (s':MkS) (r' vi':Int),j<=p/\Hid (A2 wr SV (plus G w) SW c v s' r' vi')/\Hid (AB (c.T G) w wr)/\Hid (B8 v rs c.n c.R X s'/\DG s s'/\ClN v s'.L a j/\r'=r)/\s24=iI j) (λs24 _=>p-(intOf s24).toNat)
 case atStart=>exact⟨0,s,r,vi,by omega,⟨(H.gr Xc).up H.bB⟩,⟨Xc.touch _⟩,⟨HI,DG.refl _,λi hi=>by omega,rfl⟩,rfl⟩
 case round=>
  obtain⟨j,s',r',vi',hj,HM,HT,HJ,rfl⟩:=hrel;have k0:=HM.o.row.cc 0;have k7:=HM.o.row.cc 7;have kf:=HM.o.row.free 7;unfold Sp.v at k0;clear c0;by_cases Y:j=p
  ·subst Y;go_wp2;refine ζz (ζl rfl _ _ _) rfl ?_;obtain⟨q1,q2,q3,q4⟩:=HJ.o;exact CO.ok (HT.o.trans (OP 7 _)) (HM.o.set (r':=r') (vi':=wrap64 (vi' + 1)) rfl) ⟨q1,q2,q3.cl (by rw[HR.2.2];exact ψv _),q4⟩
  ·have Xi:(j:Int)<(p:Int):=Ω
   have U:=((XI HM.o.zk.1 HM.o.vm a (j:Int) Xf.1 (Xf.2 _)).mono λ_ _ hh=>ξ hh.1 (hh.2.ro HM.o.zk.2));unfold Sp.v at U;have Xe:Hid (v.ptE a j=0->((v.ptV a j:Nat):Int)≠0->Rch v rs (v.ptV a j:Nat)):=⟨λh1 h2=>HR.1.step ⟨HR.2.1,j,by rw[HR.2.2];exact Xi,h1,by omega,rfl⟩⟩;have Xg:=(ξ hj Y);clear hj Y;by_cases J:v.ptE a j=0
   ·have I:=J;rw[J]at U;obtain⟨x,hx⟩:∃x,x=v.ptV a j:=⟨_,rfl⟩;rw[<-hx]at U Xe;have Xl:=ι hx;clear J hx
    go_wp2_with(first
     | (go_at_call 57;refine U.mono ?_;rintro e w2 ⟨rfl,Z⟩;have V:=ι (HM.o.gr Z);have O:=ι (HT.o.trans (Z.touch _));clear Z)
     | (go_at_call 176;(with_reducible refine(Q0 _ _).mono ?_);rintro e w3 ⟨rfl,rfl⟩)
     | (go_at_call 126;refine(VVL V.o HP HJ.o.1 (Xe.o I)).mono ?_;rintro e w4 ⟨Xk,(⟨rfl,s4,r4,Xa,D,B⟩|⟨rfl,B,s4,r4,Xa,D⟩)⟩ <;> (have Xj:=ι (IL O.o Xk);have Xd:=ι (D.back O.o.size H.sep H.bB);have Xh:=ι B;clear Xk D B)))
    ·go_round
     case rel=>
      obtain⟨q1,q2,q3,q4⟩:=HJ.o;obtain⟨p1,p2,p3,p4,p5⟩:=Xh.o;refine⟨j+1,s4,r4,Xa,by have:=Xg;omega,Xd,Xj,⟨p1,q2.trans p2,(q3.mono p2.sub).succ I (λh0=>?_),p4.trans q4⟩,by go_num⟩;rw[<-Xl.o]at h0⊢;exact p3 Ω
     case measure=>have:=Xg;simp[intOf];omega
    ·exact⟨rfl,CO.no Xj.o Xd.o Xh.o⟩
   ·have I:=J;obtain⟨y,hy⟩:∃y,y=v.ptE a j:=⟨_,rfl⟩;have d2:(y==0)=false:=by rw[hy];simpa using J
    rw[<-hy]at U;clear J hy
    go_wp2_with(first
     | (go_at_call 57;refine U.mono ?_;rintro e w2 ⟨rfl,Z⟩;have V:=ι (HM.o.gr Z);have O:=ι (HT.o.trans (Z.touch _));clear Z)
     | (go_at_call 176;(with_reducible refine(WC V.o).mono ?_);rintro e w3 ⟨rfl,rfl⟩))
    exact⟨rfl,CO.no O.o V.o (J7J HR.1 (by rw[HR.2.2];exact Xi) I)⟩
section
attribute [local go_sem] Oper.semAt_some
def KK(L:List Ob)(j:Nat):List Value:=zs ((L.take j).map λo=>(o.1:Int))
theorem QZB(h:j<L.length):KK L (j+1)=KK L j++[iI (L[j].1:Nat)]:=by
 unfold KK zs
 grind [ζX]
theorem Z3{b b' E size:Nat}{v:Value}{xs:List Value}(h:w.ownsRow b E size v n xs)(hb:b'<=b):w.ownsRow b' E size v n xs:=by
 obtain⟨h1,h2⟩:=h;refine⟨h1,h2.imp id ?_⟩;rintro⟨g,Z,Y,e1,e2,e3⟩;exact⟨g,Z,Y,e1,χ hb e2,e3⟩
structure StI(W0:World)(B:Nat)(L:List Ob)(j:Nat)(A:World):Prop where
 t:AB (λi=>i=B\/W0.heap.size<=i) W0 A
 jl:j<=L.length
 f0:A.frozen? ⟨B,0,none⟩=false
 row:∃vL,A.cell? ⟨B,0,none⟩=some vL/\A.ownsRow (W0.heap.size+6) 3 1 vL j (KK L j)
def JLP(w:World)(L:List Ob)(e:Ending)(w':World):Prop:=∃vL,e=.returned vL/\Gr w w'/\w'.ownsRow w.heap.size 3 1 vL L.length (KK L L.length)
theorem Yde{p1 b1 p2 b2:Nat}(hE:Ext w m p1 b1 p2 b2 n L)(hT:AQ w)(c1:w.cell? ⟨k,1,none⟩=some (pP m)):
  Calls prog 130 #[pP k] w (JLP w L):=by
 have HE:=hE;have HT:=hT;have hkl:=AT c1;refine(τ (n:=5)).1 ?_;refine callsIn_of_wp_marks func130 rfl trivial ?_ rfl;simp only[ntmps130,ζS,ζw,ζ7,Nat.reduceAdd,Nat.reduceSub,ζJ,ζI,ζY,ζN,ζV,ζq];gi_wp2_with(refine⟨trivial,?_⟩;gi_at_call 144;refine(τ.2 (JZ (some ⟨m,0,none⟩))).mono ?_;rintro e w1 ⟨rfl,rfl⟩);obtain⟨W2,O⟩:∃W2,W2=w.alloc (.cells #[.slice none 0 0] 61):=⟨_,rfl⟩;have Xn:Boxed W2 w.heap.size 61 (.slice none 0 0):=by rw[O];exact Boxed.new w _ _
 have Xi:Gr w W2:=by rw[O];exact(Gr.refl w).alloc _
 have Xf:W2.heap.size=w.heap.size+1:=by rw[O];simp
 rw[<-O];obtain⟨W0,J⟩:∃W0,W0=W2.alloc (.cells #[.pointer (some ⟨m,0,none⟩)] 93):=⟨_,rfl⟩;have I:Gr w W0:=by rw[J];exact Xi.alloc _
 have hsz:W0.heap.size=w.heap.size+2:=by rw[J];simp;omega
 have k1:Boxed W0 w.heap.size 61 (.slice none 0 0):=by rw[J];exact Xn.alloc _
 have k4:W0.cell? ⟨w.heap.size+1,0,none⟩=some (pP m):=by
  rw[J];have:=(Boxed.new W2 93 (pP m)).cell
  rwa [Xf]at this
 rw[<-J];have Y:=HE;have o1:=Y.hm;have o2:=Y.v1.hp;have o3:=Y.v1.hb;have o4:=Y.v2.hp;have o5:=Y.v2.hb;have o6:=HT.lt;have hnb:=Y.nb;have Xa:=Y.good;have hlen:=Xa.len;obtain⟨ii,Xg,Xp,Xr,Xj⟩:=info_parts O6
 have tI:∀j A B,StI W0 w.heap.size L j A->AB (λi=>W0.heap.size<=i/\i<W0.heap.size+2+4) A B->StI W0 w.heap.size L j B:=λj A B h t=>by
  have ht:=h.t.size;obtain⟨vL,hc,ho⟩:=h.row;exact⟨h.t.trans (t.mono (λi _ h=>.inr h.1)),h.jl,(t.frozen Ω (by show ¬(W0.heap.size<=w.heap.size/\_);omega) 0).trans h.f0,vL,(t.cell Ω (by show ¬(W0.heap.size<=w.heap.size/\_);omega) 0).trans hc,BX ho t (λg hg h=>by have:=(BB ho hg).1;omega)⟩
 refine LQ (K:=4) (s0:=0) rfl Ω (gf:=187) (lb:=#[pP (w.heap.size+1)]) rfl trivial (enters_of func187 (by kernel_rfl) rfl)
  (OO _ (w.heap.size+1) m p1 b1 p2 b2 n L _) (λ_=>rfl)
  (StI W0 w.heap.size L) (λ_ _=>False) tI (λ_ _ _ h _=>h)
  (λj A h=>⟨(HE.gr I).touch h.t Ω Ω Ω Ω Ω,(I.tab o6 HT).touch' h.t Ω,(h.t.cell Ω Ω 0).trans k4,h.jl⟩)
  ⟨AB.refl _ _,ζe _,k1.frozen,_,k1.cell,G5 _ _ _ _⟩ ?round ?done ?stop
 case round=>
  intro lp j x W3 hsz3 V Z;dsimp only[GJ];gi_wp2;refine⟨Gr.refl _,λW4 ht4 hI4=>?_⟩
  have Xb:j<L.length:=by
   rcases υ j L.length with h|h
   ·exact h
   ·unfold EJ at Z;rw[ζH h]at Z;cases Z
  obtain rfl:x=L[j]:=by unfold EJ at Z;rw[η Xb]at Z;exact(Option.some.inj Z).symm
  have E:=QZB Xb;obtain⟨y,hy⟩:∃y,y=L[j].1:=⟨_,rfl⟩;rw[<-hy]at E⊢;obtain⟨vL,hc,ho⟩:=hI4.row;have Xm:=hI4.f0;have hsz4:W0.heap.size+6<=W4.heap.size:=by have:=ht4.size;omega
  have Xl:=hI4;have HO:=ho;have Xk:=E;clear V hI4 E hy ho Z ht4;gi_wp2_with(gi_at_builtin;refine wpListIn_append_own _ rfl _ _ 61 rfl (W0.heap.size+6) 3 ii _ 1 8 underlying61 Xg Xp Xr Xj rfl (by decide) _ _ _ rfl (HO.alloc _) ⟨W4.heap.size,0,none⟩ 1 1 [iI (y:Nat)] rfl rfl (cell_one_new _ _ _) (by simp[Value.oneCell']) (by unfold maxLen;omega) Ω (by simp;omega) ?_;intro v' w5 U Xc _;obtain⟨A5,c5,rfl,-,-⟩:=FE U;have t5:AB (λi=>W0.heap.size+6<=i) W4 w5:=((((Gr.refl W4).alloc _).touch _)).trans (ER Xc _ (λi e _=>(BB HO e).1));have Xh:=(t5.cell (b:=w.heap.size) Ω Ω 0).trans hc;have Xq:=(t5.frozen (b:=w.heap.size) Ω Ω 0).trans Xm;have Xd:=U;have Xe:=t5);have tt:AB (λi=>i=w.heap.size\/W0.heap.size+6<=i) W4 (w5.setCell ⟨w.heap.size,0,none⟩ (.slice A5 (j+1) c5)):=(Xe.mono (λi _ h=>.inr h)).setCell (a:=⟨w.heap.size,0,none⟩) (λ_=>.inl rfl) _;refine⟨tt.mono (λi _ h=>by omega),j+1,rfl,⟨Xl.t.trans (tt.mono (λi _ h=>h.imp id (λh=>by omega))),Xb,by rw[ξa];exact Xq,_,World.cell?_setCell_same' w5 ⟨w.heap.size,0,none⟩ _ (by rw[Xh];rfl),?_⟩⟩;rw[Xk];exact AV Xd _ (λg hg=>by have:=(BB Xd hg).1;omega)
 case done=>
  rintro D j W3 hD rfl V hK;obtain⟨vL,hc,ho⟩:=V.row;have HO:=ho;have HK:=hK;have HD:=hD;have Xo:=V;have hs3:=V.t.size;gi_wp2;refine⟨by simp,.inl ⟨_,_,rfl,run_takeDeferred HK,?_⟩⟩;refine⟨_,results_tmp rfl _ _ _,vL,rfl,(((I.touch (λ_=>False)).trans' Xo.t (λi hi h=>by omega)).trans' (DP W3 D _) (λi hi h=>by have:=HD;omega)).gr,?_⟩;exact Z3 (BX HO (DP W3 D _) (λg hg h=>by have:=(BB HO hg).1;have:=HD;omega)) Ω
 simp_all
end
def MA(s:MkS)(r vi:Int):Prop:=s.L=[]->r=1/\vi=0
theorem A2.popped{st:List Int}{lost:Bool}(h:A2 w SV G SW c v ⟨L,st,lost⟩ r vi)(t:AB G w w')(s':BY w' G c.g st' c.R lost'):A2 w' SV G SW c v ⟨L,st',lost'⟩ r vi:=by
 have hs:=h.sep;have Y:¬G c.k:=hs.k2;exact⟨MkC.vm h.zk.1 hs h.vm t (λi e=>.inr (.inr e)),h.ext.touch t (hs.mg _ (.inl rfl)) (λe=>hs.p1 (.inr (.inr e))) (hs.mg _ (.inr (.inl rfl))) (λe=>hs.p2 (.inr (.inr e))) (hs.mg _ (.inr (.inr rfl))),s',h.wk.touch t (λi hi _ e=>hs.sw i hi (.inr (.inr e))),h.row.touch t Y,t.tab h.tab.lt (λe=>hs.tab (.inr (.inr e))) h.tab,hs,χ h.bB t.size,h.zk⟩
def SI(st st':List Int)(a:Int)(b:Bool):Prop:=(b=true/\st=st'++[a])\/(b=false/\st=[]/\st'=[])
def VSm(w:World)(SV G SW:Nat->Prop)(c:MkC)(v:Vm)(s:MkS)(r vi:Int)(e:Ending)(w':World):Prop:=∃a b st',e=.returned (.tuple #[iI a,.bool b])/\AB (c.T G) w w'/\A2 w' SV G SW c v ⟨s.L,st',s.lost⟩ r vi/\SI s.st st' a b
theorem VPs(h:A2 w SV G SW c v s r vi):Calls prog 179 #[pP c.g] w (VSm w SV G SW c v s r vi):=by
 refine(ZtN h.stk).mono ?_;rintro e w' (⟨h0,rfl,rfl⟩|⟨l',a,h0,rfl,ht,hs⟩)
 ·refine⟨0,false,[],rfl,AB.refl _ _,?_,.inr ⟨rfl,h0,rfl⟩⟩;rw[<-h0];exact h
 ·exact⟨a,true,l',rfl,ht.mono (λi _ hi=>.inr (.inr hi)),A2.popped (L:=s.L) (st:=s.st) (lost:=s.lost) h ht hs,.inl ⟨rfl,h0⟩⟩
def DrS(v:Vm)(rs:List Int)(c:MkC)(X:Int->Prop)(s:MkS)(a:Int)(b:Bool)(k:Nat):Prop:=
 ((b=false/\s.st=[]/\B8 v rs c.n c.R X s)\/(b=true/\Hs s.L a/\B8 v rs c.n c.R (λx=>X x\/x=a) s))/\2*c.n+s.st.length+(if b then 1 else 0)<=2*s.L.length+k
theorem DrS.of(h:B8 v rs c.n c.R X s)(hp:SI s.st st' a b)(hk:2*c.n+s.st.length<=2*s.L.length+k):DrS v rs c X ⟨s.L,st',s.lost⟩ a b k:=by
 rcases hp with⟨rfl,h1⟩|⟨rfl,h1,rfl⟩
 ·have h':B8 v rs c.n c.R X ⟨s.L,st'++[a],s.lost⟩:=by rw[<-h1];exact h
  refine⟨.inr ⟨rfl,h'.pop.2,h'.pop.1⟩,?_⟩
  grind
 ·refine⟨.inl ⟨rfl,rfl,by rw[<-h1];exact h⟩,?_⟩
  simp_all
def VA5(s:MkS)(v:Vm)(rs:List Int)(c:MkC)(X:Int->Prop)(r vi:Int)(s':MkS)(r' vi':Int):Prop:=B8 v rs c.n c.R X s'/\DG s s'/\s'.st=[]/\(MA s r vi->MA s' r' vi')
theorem YG{t:MkS}(h:DG s t)(hp:SI t.st st' a b):DG s ⟨t.L,st',t.lost⟩:=by
 refine⟨h.sub,h.len,h.los,?_⟩;have:=h.mea;rcases hp with⟨-,h1⟩|⟨-,h1,rfl⟩
 ·grind
 simp_all
theorem ZI(h:Hs L a):L≠[]:=by
 rintro rfl;obtain⟨o,ho,-⟩:=h;cases ho
theorem VAa(h:A2 w SV G SW c v s r vi)(hp:∀a,Rch v rs a->c.z.Rd v a)(hi:B8 v rs c.n c.R X s):Calls prog 127 #[pP c.k] w (CO w SV G SW c v (VA5 s v rs c X r vi) (¬CC v rs c.n)):=by
 have H:=h;have HI:=hi;have c2:=h.row.cc 2;have HP:=hp;go_enter func127,ntmps127;go_wp2_with(go_at_call 179;refine(VPs H).mono ?_;rintro e w1 ⟨a0,b0,st0,rfl,Xd,Xi,Xe⟩;have Xh:=ι Xd;have Xg:=ι (Xi.up (w:=w) H.bB);have V:=Xe)
 go_loopg [2,3] (2*c.n+s.st.length) (λk s2 s3 wr=>∃(a:Int) (b:Bool) (s':MkS) (r' Z:Int),s2=iI a/\s3=.bool b/\Hid (A2 wr SV (plus G w) SW c v s' r' Z)/\Hid (AB (c.T G) w wr)/\Hid (DG s s'/\(MA s r vi->MA s' r' Z)/\DrS v rs c X s' a b k))
 case atStart=>
  refine⟨a0,b0,_,r,vi,rfl,rfl,Xg,Xh,⟨YG (DG.refl _) V,λh=>h,DrS.of HI V Ω⟩⟩
 case round=>
  obtain⟨a,b,s',r',Z,rfl,rfl,HM,HT,HJ⟩:=hrel;have k2:=HM.o.row.cc 2;cases b with
  | false=>
   go_wp2;refine ζz (ζl rfl _ _ _) rfl ?_;obtain⟨q1,q2,q3,-⟩:=HJ.o;rcases q3 with⟨-,h1,h2⟩|⟨h1,-⟩
   ·exact CO.ok HT.o HM.o ⟨h2,q1,h1,q2⟩
   ·cases h1
  | true=>
   have HA:Hid (Hs s'.L a/\B8 v rs c.n c.R (λx=>X x\/x=a) s'/\2*c.n+s'.st.length+1<=2*s'.L.length+gk):=⟨by
    obtain⟨q1,q2,q3,q4⟩:=HJ.o;rcases q3 with⟨h1,-⟩|⟨-,h1,h2⟩
    ·cases h1
    ·exact⟨h1,h2,q4⟩⟩
   go_wp2_with(first
    | (go_at_call 131;refine(ZUP HM.o HP HA.o.2.1 HA.o.1).mono ?_;rintro e w4 ⟨B,(⟨rfl,s4,r4,U,Y,J⟩|⟨rfl,J,s4,r4,U,Y⟩)⟩ <;> (have E:=(IL HT.o B);have O:=(Y.back HT.o.size H.sep H.bB);have I:=ι J;have k4:=Y.row.cc 2;clear B Y J))
    | (go_at_call 179;refine(VPs O).mono ?_;rintro e w5 ⟨a5,b5,st5,rfl,Xj,Xf,Xc⟩;have Xb:=ι (IL E Xj);have Xa:=ι Xf;have D:=Xc))
   ·have hgk:1<=gk:=by
     have:=HA.o.2.2;have:=HA.o.2.1.mkd.good.len;omega
    go_roundg (gk-1)
    case measure=>omega
    case rel=>
     obtain⟨q1,q2,-⟩:=HJ.o;obtain⟨p1,p2,p3,p4⟩:=I.o;have hme:=HA.o.2.2;have Y:=p2.mea;refine⟨a5,b5,_,r4,U,rfl,rfl,Xa,Xb,⟨YG (q1.trans p2) D,λ_ h0=>absurd h0 (ZI (p2.sub a HA.o.1)),DrS.of (p1.done p3 (λx hx=>hx)) D Ω⟩⟩
   ·exact⟨rfl,CO.no E O I.o⟩
theorem A2.cut(h:A2 w SV G SW c v s r vi):A2 w SV (AD G w) SW c v s r vi:=by
 have hs:=h.sep;have Y:∀i,i<c.B/\¬c.T G i->i<c.B/\¬c.T (AD G w) i:=λi hi=>⟨hi.1,λht=>hi.2 (ht.imp id (λh=>h.imp id (λh=>h.1)))⟩
 exact⟨h.vm,h.ext,h.stk.cut,h.wk,h.row,h.tab,⟨λi hi=>Y i (hs.sv' i hi),λi hi=>Y i (hs.sw' i hi),Y _ hs.tab',Y _ hs.p1',Y _ hs.p2',hs.k1,λh=>hs.k2 h.1,hs.kB,λi hi h=>hs.mg i hi h.1,hs.mB,λi hi=>Y i (hs.sd' i hi)⟩,h.bB,h.zk⟩
def KD(L:List Ob)(j:Nat)(a:Int):Prop:=∃o∈L.drop j,(o.1:Int)=a
theorem JmM(h:Hs L a):KD L 0 a:=h
theorem J6E(h:j<L.length)(ha:KD L j a):KD L (j+1) a\/a=(L[j].1:Int):=by
 obtain⟨o,ho,rfl⟩:=ha;rw[ξD h]at ho;rcases ζB.1 ho with rfl|ho
 ·omega
 ·exact .inl ⟨o,ho,rfl⟩
theorem Jdx(a:Int):¬KD L L.length a:=by
 rintro⟨o,ho,-⟩
 simp_all
theorem B8.found(h:B8 v rs n R X s):B8 v rs n R (KD s.L 0) ⟨s.L,s.st,false⟩:=⟨h.mkd,h.st,h.r,λ_ ha=>.inr (.inr (.inr (JmM ha)))⟩
def s0:MkS:=⟨[],[],false⟩
def S9(v:Vm)(rs:List Int)(c:MkC)(j:Nat)(s:MkS)(r vi:Int):Prop:=B8 v rs c.n c.R (λ_=>False) s/\s.st=[]/\(∀x∈rs.take j,x≠0->Hs s.L x)/\MA s r vi/\(s.lost=true->s.L≠[])
def NT(v:Vm)(rs:List Int)(c:MkC)(s:MkS)(r vi:Int):Prop:=BF v rs c.n s.L/\MA s r vi
theorem YXl(h:A2 w SV G SW c v s0 0 0)(hp:∀a,Rch v rs a->c.z.Rd v a)(hA:FC (c.T G) w A rs)(hlen:rs.length<=maxLen):
  Calls prog 89 #[pP c.k,.slice A rs.length cp] w (CO w SV G SW c v (NT v rs c) (¬CC v rs c.n)):=by
 have H:=h;have HA:=hA;have HP:=hp;have c6:=h.row.cc 6;have kf:=h.row.free 6;obtain⟨N,hN⟩:∃N,N=rs.length:=⟨_,rfl⟩;rw[<-hN]at hlen⊢;have HN:=ι hN;unfold maxLen at hlen;clear h hA hN hp;go_enter func89,ntmps89;go_wp2;have Yf:Hid (A2 (w.setCell ⟨c.k,6,none⟩ (.int .i64 1)) SV (plus G w) SW c v s0 1 0):=⟨(H.set (r':=1) (vi':=0) rfl).up H.bB⟩;have Yk:Hid (AB (c.T G) w (w.setCell ⟨c.k,6,none⟩ (.int .i64 1))):=⟨OP 6 _⟩;obtain⟨w1,Yl⟩:∃w1,w1=w.setCell ⟨c.k,6,none⟩ (.int .i64 1):=⟨_,rfl⟩;rw[<-Yl]at Yf Yk⊢;clear c6 kf Yl
 go_loopw [14] (λs14 wr=>∃(j:Nat) (s:MkS) (r vi:Int),j<=N/\Hid (A2 wr SV (plus G w) SW c v s r vi)/\Hid (AB (c.T G) w wr)/\Hid (S9 v rs c j s r vi)/\s14=iI j) (λs14 _=>N-(intOf s14).toNat)
 case atStart=>exact⟨0,s0,1,0,ζe _,Yf,Yk,⟨⟨Mk.nil _ _ _,(λ_ h=>by cases h),ζe _,(λa ha=>absurd rfl (ZI ha))⟩,rfl,(λx hx=>by cases hx),(λ_=>⟨rfl,rfl⟩),(λh=>by cases h)⟩,rfl⟩
 case round=>
  obtain⟨j,s,r,vi,hj,HM,HT,HJ,rfl⟩:=hrel;by_cases Z:j=N
  ·subst Z;have Yn:Hid (S9 v rs c rs.length s r vi):=⟨by have:=HJ.o;rwa [HN.o]at this⟩;clear HJ hj;go_wp2
   go_loopg [] (c.n+1) (λk wr=>∃(s:MkS) (r vi:Int),Hid (A2 wr SV (plus G w) SW c v s r vi)/\Hid (AB (c.T G) w wr)/\Hid (S9 v rs c rs.length s r vi)/\Hid (s.lost=true->c.n+1<=s.L.length+k))
   case atStart=>exact⟨s,r,vi,HM,HT,Yn,⟨λ_=>by omega⟩⟩
   case round=>
    clear HM HT Yn;clear s r vi;obtain⟨wo,rfl⟩:∃wo:World,wo=wr:=⟨_,rfl⟩;obtain⟨s,r,vi,HM,HT,HJ,HK⟩:=hrel;have k2:=HM.o.row.cc 2;obtain⟨L,st,lost⟩:=s;have Yd:=(XPh HM.o.stk);cases lost with
    | false=>
     go_wp2_with(go_at_call 128;refine Yd.mono ?_;rintro e w2 ⟨rfl,rfl⟩);refine ζz (ζl rfl _ _ _) rfl ?_;obtain⟨q1,q2,q3,q4,q5⟩:=HJ.o;exact CO.ok HT.o HM.o ⟨q1.marks (λ_ h=>h) q2 rfl (λx hx h0=>q3 x (by rw[ζ8];exact hx) h0),q4⟩
    | true=>
     have Yx:st=[]:=HJ.o.2.1;subst Yx;have Xu:=HM.o.cut;obtain⟨G1,Xy⟩:∃G1,G1=AD (plus G w) wo:=⟨_,rfl⟩;rw[<-Xy]at Xu;have Xj:Hid (∀i,G1 i->plus G w i/\i<wo.heap.size):=⟨λi hi=>by rw[Xy]at hi;exact hi⟩;have Yt:=HJ.o.2.2.2.2 rfl;have Yg:=HJ.o.1.mkd.good;have Ys:L.length<=1048576:=χ Yg.len HM.o.ext.nb.2;obtain⟨LN,Xz⟩:∃LN,LN=L.length:=⟨_,rfl⟩;have Xe:=ι Xz;rw[<-Xz]at Ys;clear Xy Yg Xz
     go_wp2_with(first
      | (go_at_call 128;refine Yd.mono ?_;rintro e w2 ⟨rfl,rfl⟩)
      | (go_at_call 129;refine(Qf8 Xu.stk).mono ?_;rintro e w2 ⟨rfl,Xr,Ya⟩;have Xm:=(A2.popped (L:=L) (st:=[]) (lost:=true) Xu Xr Ya);have k6:=Xm.row.cc 6;have k1:=Xm.row.cc 1;have kf:=Xm.row.free 6;have Yc:=Xr;clear Xr Ya)
      | (go_at_call 130;have Xo:=(λx:Int=>Xm.set (j:=6) (u:=iI x) (r':=x) (vi':=vi) rfl);refine(Yde (Xo _).ext (Xo _).tab ((Xo _).row.cell (j:=1) rfl)).mono ?_;rintro e w3 ⟨vL,rfl,Xq,Xv⟩;have Xi:=((Xo _).gr Xq);have Yq:=ι Xq;obtain⟨A3,Yj,rfl,Yv,h32⟩:=FE Xv;have Xt:=ι Xv;rw[<-Xe.o]at Xt;rw[<-Xe.o]at Yv;clear Xq Xv))
     have hz2:wo.heap.size<=w2.heap.size:=Yc.size;have hz3:w2.heap.size<=w3.heap.size:=by simpa using Yq.o.size
     have hzw:w.heap.size<=wo.heap.size:=HT.o.size;have hBw:c.B<=w.heap.size:=H.bB
     have Yh:Hid (∀g,(Value.slice A3 LN Yj).ownBlock=some g->¬c.T (plus G1 w3) g):=⟨λg hg ht=>by
      obtain⟨a1,a2⟩:=BB Xt.o hg;have a1:w2.heap.size<=g:=by simpa using a1
      rcases ht with h1|h1|h1|h1
      ·have:=H.sep.kB;omega
      ·have:=H.sep.mB g h1;omega
      ·have:=(Xj.o g h1).2;omega
      ·omega⟩
     have Ye:Hid (DD c SV G1 SW):=⟨Xi.sep⟩;have Yo:Hid (AB (c.T G1) wo w3):=⟨((Yc.mono (λi _ h=>.inr (.inr h))).trans (OP 6 _)).trans (Yq.o.touch _)⟩;clear k1 k2 k6 kf;rw[<-Xe.o]
     go_loopw [46] (λs46 wy=>∃(j:Nat) (s':MkS) (r' vi':Int),j<=LN/\Hid (A2 wy SV (plus G1 w3) SW c v s' r' vi')/\Hid (AB (c.T G1) w3 wy)/\Hid (wy.ownsRow 0 3 1 (.slice A3 LN Yj) LN (KK L LN))/\Hid (B8 v rs c.n c.R (KD L j) s'/\DG ⟨L,[],false⟩ s'/\s'.st=[])/\s46=iI j) (λs46 _=>LN-(intOf s46).toNat)
     case atStart=>
      exact⟨0,⟨L,[],false⟩,_,vi,ζe _,⟨Xi.up (w:=w3) Xi.bB⟩,⟨AB.refl _ _⟩,⟨Z3 Xt.o (ζe _)⟩,⟨HJ.o.1.found,DG.refl _,rfl⟩,rfl⟩
     case round=>
      obtain⟨j,s',r',vi',hj,Yi,Xx,Xw,Xp,rfl⟩:=hrel;by_cases Z:j=LN
      ·subst Z;go_wp2
       have hgk:1<=gk:=by
        have:=HK.o (by simp);have h2:=HJ.o.1.mkd.good.len;have h2:L.length<=c.n:=h2;have h3:c.n+1<=L.length+gk:=this;omega
       go_roundg (gk-1)
       case measure=>omega
       case rel=>
        obtain⟨q1,q2,q3⟩:=Xp.o;have Xa:=q2.len;have Xa:L.length<=s'.L.length:=Xa;have Yy:AB (c.T (plus G w)) wo wr:=(Yo.o.trans Xx.o).mono (λi _ h=>h.imp id (λh=>h.imp id (λh=>(Xj.o i h).1)));have Ym:s'.L≠[]:=λe=>by have h1:=Xa;rw[e]at h1;exact Yt (ζv (Nat.le_zero.1 h1))
        refine⟨s',r',vi',⟨Yi.o.sub (λi h=>h.elim (λh=>(Xj.o i h).1) (λh=>.inr Ω)) (H.sep.plus H.bB)⟩,⟨IL HT.o Yy⟩,⟨q1.weak (λa h=>absurd h (by rw[Xe.o];exact Jdx a)),q3,λx hx h0=>q2.sub _ (HJ.o.2.2.1 x hx h0),λh=>absurd h Ym,λ_=>Ym⟩,⟨λhl=>?_⟩⟩;have h5:=HK.o (by simp);have h5:c.n+1<=L.length+gk:=h5;rcases q2.los hl with h|h
        ·cases h
        ·have h:L.length<s'.L.length:=h;omega
      ·have J:j<L.length:=by have:=Xe.o;omega
       have Yz:(j:Int)<(LN:Int):=Ω
       obtain⟨g,cc',ea,-,-,-,-⟩:=EX Xw.o Ω;simp only[Value.slice.injEq]at ea;obtain⟨rfl,-,rfl⟩:=ea;obtain⟨a,ha⟩:∃a:Int,a=(L[j].1:Nat):=⟨_,rfl⟩;have kc:=BP Xw.o (j:=j) (u:=iI a) (by rw[ha];unfold KK zs;rw[Xe.o,ζ8];simp[J]);have Yb:Hid (Hs L a/\a=(L[j].1:Nat)):=⟨⟨L[j],μ J,ha.symm⟩,ha⟩;have Xf:=ι (ξ hj (ξ Z J));have Xn:Hid (∀(W:World) (t:MkS) (x y:Int),A2 W SV (plus G1 w3) SW c v t x y->AB (c.T G1) w3 W->A2 W SV (plus G w) SW c v t x y/\AB (c.T G) w W):=⟨λW t x y hm ht=>⟨hm.sub (λi h=>h.elim (λh=>(Xj.o i h).1) (λh=>.inr Ω)) (H.sep.plus H.bB),IL HT.o ((Yo.o.trans ht).mono (λi _ h=>h.imp id (λh=>h.imp id (λh=>(Xj.o i h).1))))⟩⟩;clear hj Z ha
       go_wp2_with(first
        | (go_at_call 131;refine(ZUP Yi.o HP Xp.o.1 (Xp.o.2.1.sub a Yb.o.1)).mono ?_;rintro e w4 ⟨Xg,(⟨rfl,s4,r4,Xs,E,D⟩|⟨rfl,D,s4,r4,Xs,E⟩)⟩ <;> (have Yu:=ι (BX Xw.o Xg Yh.o);have V:=ι (IL Xx.o Xg);have Xd:=ι (E.back Xx.o.size Ye.o Xi.bB);have U:=ι D;clear Xg E D))
        | (go_at_call 127;refine(VAa Xd.o HP (U.o.1.done U.o.2.2.1 (Y:=KD L (j+1)) (λx hx=>by rw[Yb.o.2];exact J6E Xf.o.2.2 hx))).mono ?_;rintro e w5 ⟨Xh,(⟨rfl,s5,r5,Xk,I,O⟩|⟨rfl,O,s5,r5,Xk,I⟩)⟩ <;> (have Za:=ι (BX Yu.o Xh Yh.o);have Xc:=ι (IL V.o Xh);have Xb:=ι (I.back V.o.size Ye.o Xi.bB);have Xl:=ι O;clear Xh I O)))
       ·go_round
        case rel=>
         obtain⟨p1,p2,p3,p4⟩:=U.o;obtain⟨t1,t2,t3,t4⟩:=Xl.o;refine⟨j+1,s5,r5,Xk,by have:=Xf.o;omega,Xb,Xc,Za,⟨t1,(Xp.o.2.1.trans p2).trans t2,t3⟩,by go_num⟩
        case measure=>have:=Xf.o;simp[intOf];omega
       ·exact⟨rfl,CO.no (Xn.o _ _ _ _ Xb.o Xc.o).2 (Xn.o _ _ _ _ Xb.o Xc.o).1 Xl.o⟩
       ·exact⟨rfl,CO.no (Xn.o _ _ _ _ Xd.o V.o).2 (Xn.o _ _ _ _ Xd.o V.o).1 U.o⟩
  ·have Yz:(j:Int)<(N:Int):=Ω
   have J:j<rs.length:=by have:=HN.o;omega
   obtain⟨b,o,rfl,hb,Yp,e0⟩:=HA j J;have i0:=(HT.o.cell hb Yp (o+j)).trans e0;obtain⟨a,ha⟩:∃a,a=rs[j]:=⟨_,rfl⟩;rw[<-ha]at i0 e0;have Yr:Hid (a≠0->Rch v rs a):=⟨λh0=>Rch.root (by rw[ha];exact μ J) h0⟩
   have Yw:Hid (∀x,x∈rs.take (j+1)->x∈rs.take j\/x=a):=⟨λx hx=>by
    rw[ζX J]at hx
    exact(ζg.1 hx).imp id (λh=>by rw[ha];exact ζL.1 h)⟩
   have Xf:=ι (ξ hj Z);clear hj Z J ha e0 Yp
   go_wp2_with(first
    | (go_at_call 126;refine(VVL HM.o HP HJ.o.1 Yr.o).mono ?_;rintro e w4 ⟨Xg,(⟨rfl,s4,r4,Xs,E,D⟩|⟨rfl,D,s4,r4,Xs,E⟩)⟩ <;> (have V:=ι (IL HT.o Xg);have Xd:=ι (E.back HT.o.size H.sep H.bB);have U:=ι D;clear Xg E D))
    | (go_at_call 127;refine(VAa Xd.o HP U.o.1).mono ?_;rintro e w5 ⟨Xh,(⟨rfl,s5,r5,Xk,I,O⟩|⟨rfl,O,s5,r5,Xk,I⟩)⟩ <;> (have Xc:=ι (IL V.o Xh);have Xb:=ι (I.back V.o.size H.sep H.bB);have Xl:=ι O;clear Xh I O)))
   ·go_round
    case rel=>
     obtain⟨q1,q2,q3,q4,q5⟩:=HJ.o;obtain⟨p1,p2,p3,rfl,rfl⟩:=U.o;obtain⟨t1,t2,t3,t4⟩:=Xl.o;have Xa:=p2.trans t2;refine⟨j+1,s5,r5,Xk,by have:=Xf.o;omega,Xb,Xc,⟨t1,t3,λx hx h0=>?_,t4 (λh=>q4 ?_),λhl=>?_⟩,by go_num⟩
     ·rcases Yw.o x hx with h|rfl
      ·exact Xa.sub _ (q3 x h h0)
      ·exact t2.sub _ (p3 h0)
     ·have:=p2.len;rw[h]at this;exact ζv (by simpa using this)
     ·have h5:=Xa.len;rcases Xa.los hl with h|h
      ·exact λe=>q5 h (ζv (by rw[e]at h5;simpa using h5))
      ·intro e;rw[e]at h;simp at h
    case measure=>have:=Xf.o;simp[intOf];omega
   ·exact⟨rfl,CO.no Xc.o Xb.o Xl.o⟩
   ·exact⟨rfl,CO.no V.o Xd.o U.o⟩
theorem VUu(args:Array Value)(W:World):(callFunc 88 args).run prog W=.ok (.enter 88 args) W:=by kernel_rfl
def VP(z:Sp)(m g:Nat)(wk:Value)(L:List Ob)(r vi:Int):List Value:=[z.v,pP m,pP g,wk,iI (L.length:Nat),iI (sizes L:Nat),iI r,iI vi]
theorem QNt(hrow:Rec w c.k 161 (VP c.z c.m c.g (.pointer none) [] 0 0))(hp:∀a,Rch v rs a->c.z.Rd v a)(h:A2 (w.setCell ⟨c.k,3,none⟩ (.pointer (some ⟨c.wk,0,none⟩))) SV G SW c v s0 0 0)
  (c12:w.cell? ⟨b12,0,none⟩=some (pP c.k)) (c5:w.cell? ⟨b5,0,none⟩=some (.slice A rs.length cp)) (n12:b12≠c.k) (n5:b5≠c.k) (hA:FC (c.T G) w A rs) (hlen:rs.length<=maxLen):
  Calls prog 88 #[pP c.wk,pP b12,pP b5] w (CO w SV G SW c v (NT v rs c) (¬CC v rs c.n)):=by
 have k3:=hrow.cc 3;have kf:=hrow.free 3;have V:(w.setCell ⟨c.k,3,none⟩ (.pointer (some ⟨c.wk,0,none⟩))).heap.size=w.heap.size:=World.size_setCell ..;have J:=hA.touch (OP (w:=w) (c:=c) (G:=G) 3 (pP c.wk)) (λ_ _ h=>h);have Y:=(YXl (cp:=cp) h hp J hlen)
 have U:Hid (∀e w',CO (w.setCell ⟨c.k,3,none⟩ (.pointer (some ⟨c.wk,0,none⟩))) SV G SW c v (NT v rs c) (¬CC v rs c.n) e w'->CO w SV G SW c v (NT v rs c) (¬CC v rs c.n) e w'):=⟨λe w' he=>by
  obtain⟨ht,he⟩:=he;unfold plus at he;rw[V]at he
  exact⟨(OP 3 _).trans ht,he⟩⟩
 have tk:=(AB.refl (λi=>i=c.k) w).setCell (a:=⟨c.k,3,none⟩) (λ_=>rfl) (pP c.wk);have x5:=(tk.cell (AT c5) n5 0).trans c5;have x12:=(tk.cell (AT c12) n12 0).trans c12;go_enter func88,ntmps88;go_wp2_with(go_at_call 89;refine Y.mono ?_;intro e w1 he;have he:=U.o _ _ he;rcases he with⟨Z,(⟨rfl,h1⟩|⟨rfl,h1⟩)⟩)
 ·refine ζz (ζl rfl _ _ _) rfl ?_;exact⟨Z,.inl ⟨rfl,h1⟩⟩
 ·obtain⟨-,h2⟩:=h1;exact⟨rfl,Z,.inr ⟨rfl,trivial,h2⟩⟩
structure JJ(w:World)(SV:Nat->Prop)(z:Sp)(k m p1 b1 p2 b2 n g:Nat)(v:Vm)(L:List Ob)(r vi:Int):Prop where
 zk:z.Ok
 vm:z.I v SV w
 ext:Ext w m p1 b1 p2 b2 n L
 tab:AQ w
 row:∃wk,Rec w k 161 (VP z m g wk L r vi)
theorem JJ.touch{p1 b1 p2 b2:Nat}(h:JJ w SV z k m p1 b1 p2 b2 n g v L r vi)(t:AB S w w')(hv:∀i,SV i->¬S i)(hm:∀i,AN m b1 b2 i->¬S i)(h1:¬S p1)(h2:¬S p2)(ht:¬S 1)(hk:¬S k)(hd:∀i,z.D i->¬S i):JJ w' SV z k m p1 b1 p2 b2 n g v L r vi:=
 ⟨h.zk,h.zk.fr h.vm t (λi _ hi=>⟨λh=>hv i h hi,λh=>hd i h hi⟩) (λ_ h=>h),h.ext.touch t (hm _ (.inl rfl)) h1 (hm _ (.inr (.inl rfl))) h2 (hm _ (.inr (.inr rfl))),t.tab h.tab.lt ht h.tab,by obtain⟨wk,hr⟩:=h.row;exact⟨wk,hr.touch t hk⟩⟩
def XT9(w:World)(SV SG:Nat->Prop)(z:Sp)(k m p1 b1 p2 b2 n g:Nat)(v:Vm)(rs:List Int)(e:Ending)(w':World):Prop:=
 AB (λi=>i=k\/AN m b1 b2 i\/SG i\/SV i) w w'/\∃x y L r vi,e=.returned (.agg #[iI x,iI y])/\JJ w' SV z k m p1 b1 p2 b2 n g v L r vi ∧
  ((x=0/\BF v rs n L/\(L=[]->r=1/\vi=0))\/(x=25/\¬CC v rs n))
theorem Q3I{SG:Nat->Prop}{p1 b1 p2 b2:Nat}(hz:z.Ok/\¬z.M)(hfail:CC v rs n\/∃q,z=spM q)(hp:∀a,Rch v rs a->z.Rd v a)(hD:∀i,z.D i->i<w.heap.size/\¬(i=k\/AN m b1 b2 i\/SG i))(hV:z.I v SV w)(hE:Ext w m p1 b1 p2 b2 n [])(hS:BY w SG g [] R false)(hR:Rec w k 161 (VP z m g (.pointer none) [] 0 0))(hT:AQ w)
  (c12:w.cell? ⟨b12,0,none⟩=some (pP k)) (c5:w.cell? ⟨b5,0,none⟩=some (.slice A rs.length cp)) (n12:b12≠k) (n5:b5≠k) (hA:FC (λi=>i=k\/AN m b1 b2 i\/SG i) w A rs) (hlen:rs.length<=maxLen)
  (hSV:∀i,SV i->i<w.heap.size/\¬(i=k\/AN m b1 b2 i\/SG i)) (hSG:∀i,SG i->i<w.heap.size) (hp1:¬(p1=k\/AN m b1 b2 p1\/SG p1)) (hp2:¬(p2=k\/AN m b1 b2 p2\/SG p2)) (htb:¬(1=k\/AN m b1 b2 1\/SG 1))
  (hv1:¬SV p1) (hv2:¬SV p2) (hvt:¬SV 1) (hkm:¬AN m b1 b2 k) (hkg:¬SG k) (hmg:∀i,AN m b1 b2 i->¬SG i):
  Calls prog 87 #[z.v,.func (.func 88) #[] #[pP b12,pP b5]] w (XT9 w SV SG z k m p1 b1 p2 b2 n g v rs):=by
 have Xg:(AL w z.v).heap.size=w.heap.size+2:=by unfold AL;rw[γ,γ]
 obtain⟨q0,Xq⟩:∃q0,∀q,z=spM q->q0=q:=by
  by_cases h:∃q,z=spM q
  ·obtain⟨q,rfl⟩:=h;exact⟨q,λq' h=>by have:=congrArg Sp.rv h;simp[spM]at this;exact this⟩
  ·exact⟨0,λq h'=>absurd ⟨q,h'⟩ h⟩
 obtain⟨W0,J⟩:∃W0,W0=EQ (AL w z.v) (w.heap.size+1):=⟨_,rfl⟩;have Xk:W0.heap.size=w.heap.size+5:=by rw[J];unfold EQ;rw[γ,γ,γ,Xg]
 have g1:Gr w (AL w z.v):=((Gr.refl w).alloc _).alloc _;have g2:Gr (AL w z.v) W0:=by rw[J];exact(((Gr.refl _).alloc _).alloc _).alloc _
 have g0:Gr w W0:=g1.trans g2;have Xs:=hR.lt
 have Z:∀i,AN m b1 b2 i->i<w.heap.size:=λi hi=>by
  rcases hi with rfl|rfl|rfl
  ·exact hE.hm
  ·exact hE.v1.hb
  ·exact hE.v2.hb
 have Xh:p1<w.heap.size:=hE.v1.hp;have Xf:p2<w.heap.size:=hE.v2.hp;have Xu:=hT.lt;obtain⟨c,hc⟩:∃c:MkC,c=⟨k,z,m,p1,b1,p2,b2,n,g,R,w.heap.size+1,w.heap.size+5⟩:=⟨_,rfl⟩
 have Xc:∀i,c.T SG i->i<w.heap.size:=λi hi=>by
  rw[hc]at hi;rcases hi with rfl|hi|hi
  ·exact Xs
  ·exact Z i hi
  ·exact hSG i hi
 have O:DD c SV SG (λi=>i=w.heap.size+1):=by
  have B:=Xc;rw[hc]at B⊢;exact⟨λi hi=>⟨by have:=(hSV i hi).1;show i<w.heap.size+5;omega,(hSV i hi).2⟩,λi hi=>⟨by show i<w.heap.size+5;omega,λh=>by have:=B i h;omega⟩,⟨by show _<w.heap.size+5;omega,htb⟩,⟨by show p1<w.heap.size+5;omega,hp1⟩,⟨by show p2<w.heap.size+5;omega,hp2⟩,hkm,hkg,by show k<w.heap.size+5;omega,hmg,λi hi=>by have:=Z i hi;show i<w.heap.size+5;omega,λi hi=>⟨by have:=(hD i hi).1;show i<w.heap.size+5;omega,(hD i hi).2⟩⟩
 have Xv:A2 (W0.setCell ⟨c.k,3,none⟩ (.pointer (some ⟨c.wk,0,none⟩))) SV SG (λi=>i=w.heap.size+1) c v s0 0 0:=by
  have tk:AB (λi=>i=c.k) W0 (W0.setCell ⟨c.k,3,none⟩ (.pointer (some ⟨c.wk,0,none⟩))):=(AB.refl (λi=>i=c.k) _).setCell (a:=⟨c.k,3,none⟩) (λ_=>rfl) _;have hw:=(QE w z.v).gr g2;rw[hc]at tk O⊢;refine⟨hz.1.fr (hz.1.gr hV g0) tk (λi _ e=>⟨λh=>(hSV i h).2 (.inl e),λh=>(hD i h).2 (.inl e)⟩) (λ_ h=>h),(hE.gr g0).touch tk (λe=>hkm (.inl e.symm)) (λe=>hp1 (.inl e)) (λe=>hkm (.inr (.inl e.symm))) (λe=>hp2 (.inl e)) (λe=>hkm (.inr (.inr e.symm))),(hS.gr g0).touch tk (λi hi _ e=>hkg (by subst e;exact hi)),hw.touch tk (λi hi _ e=>by have e:i=k:=e;omega),(hR.gr g0).set 3 (pP (w.heap.size+1)),tk.tab (g0.tab hT.lt hT).lt (λe=>htb (.inl e)) (g0.tab hT.lt hT),O,?_,hz⟩
  show w.heap.size+5<=_
  rw[World.size_setCell,Xk];exact ϑ _
 have Xb:=QNt (w:=W0) (b12:=b12) (b5:=b5) (cp:=cp) (A:=A) (rs:=rs) (by rw[hc];exact hR.gr g0) (by rw[hc];exact hp) Xv (by rw[hc];exact(g0.cell (AT c12) 0).trans c12) ((g0.cell (AT c5) 0).trans c5) (by rw[hc];exact n12) (by rw[hc];exact n5)
  (by rw[hc];exact hA.gr g0) hlen
 have U:Calls prog 88 (#[pP (w.heap.size+1)]++#[pP b12,pP b5]) W0
   (OL q0 (w.heap.size+1) (w.heap.size+3) (c.T SG) W0 (λw1=>∃s r vi,A2 w1 SV (plus SG W0) (λi=>i=w.heap.size+1) c v s r vi/\NT v rs c s r vi)
    (λXd _ v' l S S2 w1=>Xd=25/\v'=v/\l=[]/\S=(λi=>i=w.heap.size+1)/\S2=SV/\¬CC v rs c.n/\∃s r vi,A2 w1 SV (plus SG W0) (λi=>i=w.heap.size+1) c v s r vi)):=by
  have hb:=Xb;rw[show c.wk=w.heap.size+1 by rw[hc]]at hb;refine hb.mono ?_;rintro e w1 ⟨ht,(⟨rfl,s,r,vi,hm,hp⟩|⟨rfl,hn,s,r,vi,hm⟩)⟩
  ·exact⟨ht,.inl ⟨rfl,s,r,vi,hm,hp⟩⟩
  ·obtain⟨q,hq⟩:=hfail.resolve_left (by have:=hn;rwa [show c.n=n by rw[hc]]at this);obtain rfl:=Xq q hq;have Xp:=hm.wk;have Xn:=hm.vm;rw[show c.wk=w.heap.size+1 by rw[hc],show c.z=spM q0 by rw[hc];exact hq]at Xp;rw[show c.z=spM q0 by rw[hc];exact hq]at Xn;exact⟨ht,.inr ⟨25,0,v,[],_,_,rfl,Xp,Xn,λi hi h=>by have:=(hSV i h).1;omega,by omega,λh=>by have:=(hSV _ h).1;omega,rfl,rfl,rfl,rfl,rfl,hn,s,r,vi,hm⟩⟩
 have Xm:=XE (w:=w) (sp:=z.v) (q:=q0) (F:=88) (caps:=#[pP b12,pP b5]) ⟨_,_,rfl⟩ VUu (by rw[<-J];exact U)
  (λi h1 h2 h=>by have:=Xc i h;omega) (λh=>by have:=Xc _ h;omega) (λXd a' v' l S' S2 w1 h=>by
   obtain⟨-,-,-,rfl,rfl,-⟩:=h
   exact⟨by omega,λh=>by have:=(hSV _ h).1;omega⟩)
 refine Xm.mono ?_;rintro e w' ⟨w2,fx,fy,⟨w1,Xi,hp⟩,rfl,rfl⟩;rw[<-J]at Xi;rw[Xg]at hp;subst hc;have T1:AB (λi=>i=k\/AN m b1 b2 i\/SG i\/SV i) w w1:=(g0.touch _).trans' Xi (λi hi h=>h.imp id (λh=>h.imp id .inl));have Xj:∀s r vi,A2 w1 SV (plus SG W0) (λi=>i=w.heap.size+1) ⟨k,z,m,p1,b1,p2,b2,n,g,R,w.heap.size+1,w.heap.size+5⟩ v s r vi->JJ w1 SV z k m p1 b1 p2 b2 n g v s.L r vi:=λs r vi hm=>⟨hz.1,hm.vm,hm.ext,hm.tab,_,hm.row⟩
 have E:∀(W1 W2:World) (L:List Ob) (r vi:Int),JJ W1 SV z k m p1 b1 p2 b2 n g v L r vi->AB (λi=>w.heap.size<=i) W1 W2->JJ W2 SV z k m p1 b1 p2 b2 n g v L r vi:=λW1 W2 L r vi h t=>
  h.touch t (λi hi h=>by have:=(hSV i hi).1;omega) (λi hi h=>by have:=Z i hi;omega) Ω Ω Ω Ω (λi hi h=>by have:=(hD i hi).1;omega)
 have Xa:∀(W:World) (z1 z2:Value),AB (λi=>w.heap.size<=i) W ((W.setCell ⟨w.heap.size,0,none⟩ z1).setCell ⟨w.heap.size,1,none⟩ z2):=λW z1 z2=>
  ((AB.refl (λi=>w.heap.size<=i) W).setCell (a:=⟨w.heap.size,0,none⟩) (λ_=>ϑ _) z1).setCell (a:=⟨w.heap.size,1,none⟩) (λ_=>ϑ _) z2
 rcases hp with⟨⟨s,r,vi,hm,Xr,Xo⟩,he,rfl⟩|⟨Xd,a',v',l,S',S2,⟨rfl,rfl,rfl,rfl,rfl,hn,s,r,vi,hm⟩,he,Xw⟩
 ·have Xe:fx=0/\fy=0:=by simpa using he
  obtain⟨rfl,rfl⟩:=Xe;have Xt:=((AB.refl (λi=>w.heap.size<=i) w1).setCell (a:=⟨w.heap.size+2+1,0,none⟩) (λ_=>by show w.heap.size<=w.heap.size+2+1;omega) (iI 0)).setCell (a:=⟨w.heap.size+2+1,1,none⟩) (λ_=>by show w.heap.size<=w.heap.size+2+1;omega) (iI 0);have Xl:=Xt.trans (Xa _ (iI 0) (iI 0));exact⟨T1.trans' Xl (λi hi h=>by omega),0,0,s.L,r,vi,rfl,E _ _ _ _ _ (Xj s r vi hm) Xl,.inl ⟨rfl,Xr,Xo⟩⟩
 ·have Xe:fx=25/\fy=a':=by simpa using he
  obtain⟨rfl,rfl⟩:=Xe;obtain⟨q1,q2,q3,q4⟩:=Xw;obtain⟨q,hq⟩:=hfail.resolve_left hn;obtain rfl:=Xq q hq;subst hq
  have Y:∀i,i<w.heap.size->¬S2 i->¬(i=w.heap.size+1\/S2 i\/i=w.heap.size+2+1):=λi hi hs h=>by
   rcases h with h|h|h
   ·omega
   ·exact hs h
   ·omega
  have V:=Xj s r vi hm
  have Xx:JJ w2 S2 (spM q0) k m p1 b1 p2 b2 n g v' s.L r vi:=⟨hz.1,q2,V.ext.touch q1 (Y _ (Z _ (.inl rfl)) (λh=>(hSV _ h).2 (.inr (.inl (.inl rfl))))) (Y _ Xh hv1) (Y _ (Z _ (.inr (.inl rfl))) (λh=>(hSV _ h).2 (.inr (.inl (.inr (.inl rfl)))))) (Y _ Xf hv2) (Y _ (Z _ (.inr (.inr rfl))) (λh=>(hSV _ h).2 (.inr (.inl (.inr (.inr rfl)))))),
   q1.tab V.tab.lt (Y _ Xu hvt) V.tab,by obtain⟨wk,hr⟩:=V.row;exact⟨wk,hr.touch q1 (Y _ Xs (λh=>(hSV _ h).2 (.inl rfl)))⟩⟩
  refine⟨(T1.trans' q1 (λi hi h=>?_)).trans' (Xa _ _ _) (λi hi h=>by omega),25,fy,s.L,r,vi,rfl,E _ _ _ _ _ Xx (Xa _ _ _),.inr ⟨rfl,hn⟩⟩;rcases h with h|h|h
  ·omega
  ·exact .inr (.inr (.inr h))
  ·omega
def LZ(a b c d:Int):Value:=.agg #[iI a,iI b,iI c,iI d]
theorem UF(W:World)(blk off:Nat)(p q r s:Value)(h0:W.cell? ⟨blk,off,none⟩=some p)(h1:W.cell? ⟨blk,off+1,none⟩=some q)(h2:W.cell? ⟨blk,off+2,none⟩=some r)(h3:W.cell? ⟨blk,off+3,none⟩=some s):(loadVar 97 ⟨blk,off,none⟩).run prog W=.ok (.agg #[p,q,r,s]) W:=by
 have a1:(isAgg 97).run prog W=.ok true W:=by kernel_rfl
 have a2:(sizeOf 97).run prog W=.ok 4 W:=by kernel_rfl
 simp[loadVar,Sem.run_bind,a1,a2,Result.andThen,loadCells,go_sem,h0,h1,h2,h3]
def VA2(w:World)(SV:Nat->Prop)(z:Sp)(m p1 b1 p2 b2 n:Nat)(v:Vm)(rs:List Int)(room:Int)(e:Ending)(w':World):Prop:=
 ((room<1\/4096<room)/\e=.returned (.tuple #[LZ 0 0 0 0,iI 5])/\Gr w w') ∨
 (1<=room/\room<=4096/\AB (λi=>AN m b1 b2 i\/SV i) w w'/\z.I v SV w' ∧
  ((∃L r vi,e=.returned (.tuple #[LZ (L.length:Nat) (sizes L:Nat) r vi,iI 0])/\Ext w' m p1 b1 p2 b2 n L/\BF v rs n L/\(L=[]->r=1/\vi=0)) ∨
   (e=.returned (.tuple #[LZ 0 0 0 0,iI 25])/\Ext w' m p1 b1 p2 b2 n []/\¬CC v rs n)))
section
variable{p1 b1 p2 b2:Nat}{L0:List Ob}
theorem KR(w:World)(o:Obj)(T:Nat)(xs:List Value):Rec ((w.alloc o).alloc (.cells xs.toArray T)) (w.heap.size+1) T xs:=by
 have:=Rec.new (w.alloc o) T xs
 simp_all
theorem YE(w:World)(o o':Obj)(T:Nat)(xs:List Value):Rec ((w.alloc o).alloc (.cells xs.toArray T)) (w.heap.size+1) T xs/\Rec (((w.alloc (.cells xs.toArray T)).alloc o')) w.heap.size T xs:=by
 have:=Rec.new (w.alloc o) T xs;rw[γ]at this;exact⟨this,(Rec.new w T xs).gr ((Gr.refl _).alloc _)⟩
theorem MJ(W:World)(b:Nat)(z0 z1 z2 z3:Value):AB (λi=>i=b) W ((((W.setCell ⟨b,0,none⟩ z0).setCell ⟨b,1,none⟩ z1).setCell ⟨b,2,none⟩ z2).setCell ⟨b,3,none⟩ z3):=
 ((((AB.refl (λi=>i=b) W).setCell (a:=⟨b,0,none⟩) (λ_=>rfl) z0).setCell (a:=⟨b,1,none⟩) (λ_=>rfl) z1).setCell (a:=⟨b,2,none⟩) (λ_=>rfl) z2).setCell (a:=⟨b,3,none⟩) (λ_=>rfl) z3
theorem ZDS{W:World}{z0 z1 z2 z3:Value}(h:AB S w W):AB S w ((((W.setCell ⟨w.heap.size+1,0,none⟩ z0).setCell ⟨w.heap.size+1,1,none⟩ z1).setCell ⟨w.heap.size+1,2,none⟩ z2).setCell ⟨w.heap.size+1,3,none⟩ z3):=by
 have hx:∀j:Nat,(⟨w.heap.size+1,j,none⟩:Addr).block<w.heap.size->S (⟨w.heap.size+1,j,none⟩:Addr).block:=λj h=>absurd h (by grind);exact(((h.setCell (hx 0) z0).setCell (hx 1) z1).setCell (hx 2) z2).setCell (hx 3) z3
theorem Xbg(hz:z.Ok/\¬z.M)(hfail:CC v rs n\/∃q,z=spM q)(hp:∀a,Rch v rs a->z.Rd v a)(hD:∀i,z.D i->i<w.heap.size/\¬AN m b1 b2 i)(hV:z.I v SV w)(hE:Ext w m p1 b1 p2 b2 n L0)(hT:AQ w)(hA:FC (AN m b1 b2) w A rs)(hlen:rs.length<=maxLen)
  (hvm:∀i,SV i->¬AN m b1 b2 i) (hv1:¬SV p1) (hv2:¬SV p2) (hvt:¬SV 1) (htm:¬AN m b1 b2 1) (room:Int):
  Calls prog 48 #[z.v,.slice A rs.length cp,pP m,iI room] w (VA2 w SV z m p1 b1 p2 b2 n v rs room):=by
 have HE:=hE;have HV:=(hz.1.ct hV);have HZ:=hz;have HF:=hfail;have HP:=hp;have HD:=hD;have HT:=hT;have HA:=hA;have hn1:=hE.nb.1;have dn:((n:Int)==0)=false:=by simp;omega
 have Yb:∀i,AN m b1 b2 i->i<w.heap.size:=λi hi=>by
  rcases hi with rfl|rfl|rfl
  ·exact hE.hm
  ·exact hE.v1.hb
  ·exact hE.v2.hb
 have Xe:p1<w.heap.size:=hE.v1.hp;have Xc:p2<w.heap.size:=hE.v2.hp;have Yx:=hT.lt
 have Xj:¬AN m b1 b2 p1:=λh=>by
  rcases h with h|h|h
  ·exact hE.am.1 h.symm
  ·exact hE.v1.ne h
  ·exact hE.ab.1 h
 have Xd:¬AN m b1 b2 p2:=λh=>by
  rcases h with h|h|h
  ·exact hE.am.2.2.1 h.symm
  ·exact hE.ab.2.1 h
  ·exact hE.v2.ne h
 have V:=Yb;obtain⟨N,hN⟩:∃N,N=rs.length:=⟨_,rfl⟩;have HN:=ι hN;rw[<-hN]at hlen⊢;have h5:=(YE w (.cells #[.slice A N cp] 61) (.cells #[.int .i64 0,.int .i64 0,.int .i64 0,.int .i64 0] 97) 61 [.slice A N cp]).2;have h8:=(YE w (.cells #[.slice A N cp] 61) (.cells #[] 61) 97 [iI 0,iI 0,iI 0,iI 0]).1;have Yh:=h5;have J:=h8;have Xk:Gr w ((w.alloc (.cells #[.slice A N cp] 61)).alloc (.cells #[.int .i64 0,.int .i64 0,.int .i64 0,.int .i64 0] 97)):=((Gr.refl w).alloc _).alloc _;have Ys:((w.alloc (.cells #[.slice A N cp] 61)).alloc (.cells #[.int .i64 0,.int .i64 0,.int .i64 0,.int .i64 0] 97)).heap.size=w.heap.size+2:=by rw[γ,γ]
 obtain⟨wa,Xf⟩:∃wa,wa=((w.alloc (.cells #[.slice A N cp] 61)).alloc (.cells #[.int .i64 0,.int .i64 0,.int .i64 0,.int .i64 0] 97)):=⟨_,rfl⟩;rw[show (w.alloc (.cells ([.slice A N cp]:List Value).toArray 61)).alloc (.cells #[.int .i64 0,.int .i64 0,.int .i64 0,.int .i64 0] 97)=wa from Xf.symm]at Yh;rw[show (w.alloc (.cells #[.slice A N cp] 61)).alloc (.cells ([.int .i64 0,.int .i64 0,.int .i64 0,.int .i64 0]:List Value).toArray 97)=wa from Xf.symm]at J;rw[<-Xf]at Xk Ys;have Yf:=Xk;have Yn:=ι Xf;have Xq:=(HE.gr Xk);have Xw:Hid (∀i,AD SV w i->i<w.heap.size/\¬AN m b1 b2 i):=⟨λi hi=>⟨hi.2,hvm i hi.1⟩⟩;have Yj:=(ξ hv1 (ξ hv2 (ξ hvt (ξ htm (ξ Xj Xd)))));clear hV hz hfail hp hD hE hT hA h5 h8 Xf Xk hvm hv1 hv2 hvt htm Xj Xd Yb hN;by_cases Xs:room<1\/4096<room
 ·have Xu:Hid (∀W,cQ 85 #[iI room] W (.tuple #[.pointer none,iI 5])):=⟨λW=>(VgV room W).mono λe w' h=>by
   rcases h with⟨-,h1,h2⟩|⟨h1,h2,-⟩
   ·exact⟨h1,h2⟩
   ·omega⟩
  have Xb:=Xs;unfold Sp.v;go_enter func48,ntmps48;go_upto_region 1 with(fail);rw[<-Yn.o];have y0:=J.cc 0;have y1:=J.cc 1;have y2:=J.cc 2;have y3:=J.cc 3;have yf:=J.free
  go_wp2_with(first
   | (go_at_call 84;refine(EN Xq).mono ?_;rintro e w1 ⟨rfl,rfl⟩)
   | (go_at_call 85;refine(Xu.o _).mono ?_;rintro e w1 ⟨rfl,rfl⟩))
  have R:=((((J.set 0 (iI 0)).set 1 (iI 0)).set 2 (iI 0)).set 3 (iI 0));have hl:=UF _ _ 0 _ _ _ _ (R.cc 0) (R.cc 1) (R.cc 2) (R.cc 3);refine ζO (v:=.tuple #[.agg #[iI 0,iI 0,iI 0,iI 0],iI 5]) ?_ rfl (.inl ⟨Xb,rfl,?_⟩)
  ·rw[results_cell_tmp rfl];simp[asAddr,Result.andThen,hl]
  ·exact(ZDS (Yf.touch _)).gr
 ·have Xm:1<=room/\room<=4096:=Ω
  have Xu:Hid (∀W,Calls prog 85 #[iI room] W λe w'=>e=.returned (.tuple #[pP W.heap.size,iI 0])/\Gr W w'/\BY w' (λk=>W.heap.size<=k) W.heap.size [] room.toNat false):=⟨λW=>(VgV room W).mono λe w' h=>by
   rcases h with⟨h1,-⟩|⟨-,-,h1,h2,h3⟩
   ·omega
   ·exact⟨h1,h2,h3⟩⟩
  have Xb:=Xm;unfold Sp.v;go_enter func48,ntmps48;go_upto_region 1 with(fail);rw[<-Yn.o];obtain⟨gs,Ya⟩:∃gs,gs=wa.heap.size:=⟨_,rfl⟩;have Yy:=Ya
  go_upto_region 8 with(first
   | (go_at_call 84;refine(EN Xq).mono ?_;rintro e w1 ⟨rfl,rfl⟩)
   | (go_at_call 85;refine(Xu.o _).mono ?_;rintro e ws ⟨rfl,Yl,Yg⟩;have U:=Yl;have Yq:=Yg.cut)
   | (go_at_call 86;refine(Zca (Xq.gr U)).mono ?_;rintro e w3 ⟨rfl,Yz,Za⟩;have Xh:=Yz;have Zc:=Za))
  have Ym:Hid (BY ws (AD (λk=>w.heap.size+2<=k) ws) (w.heap.size+2) [] room.toNat false):=⟨by have:=Yq;rw[Ys]at this;exact this⟩;have Yv:=U.size;have hz3:=Xh.size;have Yw:w.heap.size+2<=w3.heap.size:=Ω
  have B:∀i,AN m b1 b2 i->i<w.heap.size:=V;obtain⟨hv1,hv2,hvt,htm,Xj,Xd⟩:=Yj;have g2:Gr w3 ((w3.alloc (.cells #[.iface z.T z.rv,.pointer (some ⟨m,0,none⟩),.pointer (some ⟨w.heap.size+2,0,none⟩),.pointer none,.int .i64 0,.int .i64 0,.int .i64 0,.int .i64 0] 161)).alloc (.cells #[.pointer (some ⟨w3.heap.size,0,none⟩)] 158)):=((Gr.refl w3).alloc _).alloc _;have Xg:((w3.alloc (.cells #[.iface z.T z.rv,.pointer (some ⟨m,0,none⟩),.pointer (some ⟨w.heap.size+2,0,none⟩),.pointer none,.int .i64 0,.int .i64 0,.int .i64 0,.int .i64 0] 161)).alloc (.cells #[.pointer (some ⟨w3.heap.size,0,none⟩)] 158)).heap.size=w3.heap.size+2:=by rw[γ,γ]
  have Xn:=KR w3 (.cells #[.iface z.T z.rv,.pointer (some ⟨m,0,none⟩),.pointer (some ⟨w.heap.size+2,0,none⟩),.pointer none,.int .i64 0,.int .i64 0,.int .i64 0,.int .i64 0] 161) 158 [pP w3.heap.size];have rk:=(Rec.new w3 161 [.iface z.T z.rv,pP m,pP (w.heap.size+2),.pointer none,iI 0,iI 0,iI 0,iI 0]).gr ((Gr.refl _).alloc (.cells #[.pointer (some ⟨w3.heap.size,0,none⟩)] 158));obtain⟨W,hW⟩:∃W,W=((w3.alloc (.cells #[.iface z.T z.rv,.pointer (some ⟨m,0,none⟩),.pointer (some ⟨w.heap.size+2,0,none⟩),.pointer none,.int .i64 0,.int .i64 0,.int .i64 0,.int .i64 0] 161)).alloc (.cells #[.pointer (some ⟨w3.heap.size,0,none⟩)] 158)):=⟨_,rfl⟩;rw[<-hW]at g2 Xg⊢;rw[show (w3.alloc (.cells #[.iface z.T z.rv,.pointer (some ⟨m,0,none⟩),.pointer (some ⟨w.heap.size+2,0,none⟩),.pointer none,.int .i64 0,.int .i64 0,.int .i64 0,.int .i64 0] 161)).alloc (.cells ([.pointer (some ⟨w3.heap.size,0,none⟩)]:List Value).toArray 158)=W from hW.symm]at Xn;rw[show (w3.alloc (.cells ([.iface z.T z.rv,.pointer (some ⟨m,0,none⟩),.pointer (some ⟨w.heap.size+2,0,none⟩),.pointer none,.int .i64 0,.int .i64 0,.int .i64 0,.int .i64 0]:List Value).toArray 161)).alloc (.cells #[.pointer (some ⟨w3.heap.size,0,none⟩)] 158)=W from hW.symm]at rk;have tW:AB (AN m b1 b2) w W:=((Yf.trans U).touch _ |>.trans Xh).trans (g2.touch _)
  have Z:∀i,i<w.heap.size->¬AN m b1 b2 i->¬(i=w3.heap.size\/AN m b1 b2 i\/AD (λk=>w.heap.size+2<=k) ws i):=λi hi hn h=>by
   rcases h with h|h|h
   ·omega
   ·exact hn h
   ·have:=h.1;omega
  have Xi:=Q3I (w:=W) (SV:=AD SV w) (SG:=AD (λk=>w.heap.size+2<=k) ws) (z:=z) (k:=w3.heap.size) (m:=m) (g:=w.heap.size+2) (R:=room.toNat) (b12:=w3.heap.size+1) (b5:=w.heap.size) (cp:=cp) (v:=v) (rs:=rs) (A:=A)
   HZ HF HP (λi hi=>⟨by have:=(HD i hi).1;omega,Z i (HD i hi).1 (HD i hi).2⟩) (HZ.1.fr HV tW (λi _ h=>⟨λhi=>(Xw.o i hi).2 h,λhi=>(HD i hi).2 h⟩) (λ_ h=>h)) (Zc.gr g2) ((Ym.o.touch Xh (λi hi _ h=>by have:=B i h;have:=hi.1;omega)).gr g2) rk (tW.tab HT.lt htm HT)
   (Xn.cc 0) (by rw[<-HN.o];exact(((Yh.gr U).touch Xh (λh=>by have:=B _ h;omega)).gr g2).cell (j:=0) rfl) Ω Ω
   ((HA.mono (T':=λi=>i=w3.heap.size\/AN m b1 b2 i\/AD (λk=>w.heap.size+2<=k) ws i) (λb hb h=>by
    rcases h with h|h|h
    ·omega
    ·exact h
    ·have:=h.1;omega)).touch tW (λ_ _ h=>.inr (.inl h))) (by rw[<-HN.o];exact hlen)
   (λi hi=>⟨by have:=hi.2;omega,λh=>by
    rcases h with h|h|h
    ·have:=hi.2;omega
    ·exact(Xw.o i hi).2 h
    ·have:=hi.2;have:=h.1;omega⟩) (λi hi=>by have:=hi.2;omega) (Z _ Xe Xj) (Z _ Xc Xd) (Z _ Yx htm) (λh=>hv1 h.1) (λh=>hv2 h.1) (λh=>hvt h.1) (λh=>by have:=B _ h;omega) (λh=>by have:=h.2;omega) (λi hi h=>by have:=B i hi;have:=h.1;omega)
  have Xo:=Xi;have Yo:=tW;have Ye:=Xn;have Yi:=(((J.gr U).touch Xh (λh=>by have:=B _ h;omega)).gr g2);have Xr:=(ξ Yw (ξ Xg Yv))
  have Xx:Hid (∀i,w.heap.size<=i->i<w.heap.size+2\/i=w3.heap.size+1->¬(i=w3.heap.size\/AN m b1 b2 i\/AD (λk=>w.heap.size+2<=k) ws i\/AD SV w i)):=⟨λi h1 h2 h=>by
   rcases h with h|h|h|h
   ·omega
   ·have:=B i h;omega
   ·have:=h.1;have:=h.2;omega
   ·have:=h.2;omega⟩
  unfold Sp.v at Xo;clear Xi tW Xn rk hW g2 Z Xg B Xj Xd hv1 hv2 hvt htm Ya Yy;have hcf:=VUu;have hmf:∀(fn:Fn) (first cap:Array Value) (w:World),(Instr.makeFunc fn first cap).run prog w=.ok (.func fn first cap) w:=λ_ _ _ _=>rfl
  go_wp2_with(first
   | (go_at_call 87;refine Xo.mono ?_;rintro e w5 ⟨Xv,x,y,L,r,vi,rfl,Yd,(⟨rfl,Yu,Yp⟩|⟨rfl,Zb⟩)⟩ <;> (have Xz:=Xv;have Xl:=Yd;have Xy:=Ye.touch Xv (Xx.o _ (by have:=Xr.1;omega) (.inr rfl));have R8:=Yi.touch Xv (Xx.o _ Ω (.inl Ω));have x12:=Xy.cc 0;have l12:=Xy.lt;have l8:=R8.lt;have e0:=R8.cc 0;have e1:=R8.cc 1;have e2:=R8.cc 2;have e3:=R8.cc 3;have ef:=R8.free;obtain⟨wk,O⟩:=Yd.row;have k4:=O.cc 4;have k5:=O.cc 5;have k6:=O.cc 6;have k7:=O.cc 7;have lk:=O.lt;have Xp:=R8))
   | (go_at_call 86;refine(Zca (Xl.ext.gr ((Gr.refl _).alloc _))).mono ?_;rintro e w6 ⟨rfl,Yr,Yt⟩;have Xa:=(Xp.gr ((Gr.refl _).alloc (.cells #[.int .i64 25,.int .i64 y] 163))).touch Yr (λh=>by have:=V _ h;omega);have f0:=Xa.cc 0;have f1:=Xa.cc 1;have f2:=Xa.cc 2;have f3:=Xa.cc 3;have ff:=Xa.free;have Yc:=Xa;have Yk:=Yr;have Zd:=Yt))
  ·have E:=λW=>(Gr.refl W).alloc (.cells #[.int .i64 0,.int .i64 y] 163);have R:=(((((Xp).set 0 (iI (L.length:Nat))).set 1 (iI (sizes L:Nat))).set 2 (iI r)).set 3 (iI vi)).gr (E _);have hl:=UF _ _ 0 _ _ _ _ (R.cc 0) (R.cc 1) (R.cc 2) (R.cc 3);have tf:=MJ w5 (w.heap.size+1) (iI (L.length:Nat)) (iI (sizes L:Nat)) (iI r) (iI vi)
   have hT:AB (λi=>AN m b1 b2 i\/SV i) w w5:=(Yo.mono (λi _ h=>.inl h)).trans' Xz (λi hi h=>by
    rcases h with h|h|h|h
    ·have:=Xr.1;omega
    ·exact .inl h
    ·have:=h.1;omega
    ·exact .inr h.1)
   have Xt:=(hT.trans' tf (λi hi h=>by omega)).trans ((E _).touch _);refine ζO (v:=.tuple #[.agg #[iI (L.length:Nat),iI (sizes L:Nat),iI r,iI vi],iI 0]) ?_ rfl (.inr ⟨Xb.1,Xb.2,Xt,?_,.inl ⟨L,r,vi,rfl,?_,Yu,Yp⟩⟩)
   ·rw[results_cell_tmp rfl];simp[asAddr,Result.andThen,hl]
   ·exact HZ.1.mono (HZ.1.gr (HZ.1.fr Xl.vm tf (λi _ h=>⟨λhi=>by have:=hi.2;omega,λhi=>by have:=(HD i hi).1;omega⟩) (λ_ h=>h)) (E _)) (λi hi=>hi.1)
   ·have Y:∀i,i<w.heap.size->i≠w.heap.size+1:=λi h=>by omega
    exact(Xl.ext.touch tf (Y _ (V _ (.inl rfl))) (Y _ Xe) (Y _ (V _ (.inr (.inl rfl)))) (Y _ Xc) (Y _ (V _ (.inr (.inr rfl))))).gr (E _)
  ·have E:=(Gr.refl w5).alloc (.cells #[.int .i64 25,.int .i64 y] 163);have R:=(((((Yc).set 0 (iI 0)).set 1 (iI 0)).set 2 (iI 0)).set 3 (iI 0));have hl:=UF _ _ 0 _ _ _ _ (R.cc 0) (R.cc 1) (R.cc 2) (R.cc 3);have tf:=MJ w6 (w.heap.size+1) (iI 0) (iI 0) (iI 0) (iI 0)
   have hT:AB (λi=>AN m b1 b2 i\/SV i) w w5:=(Yo.mono (λi _ h=>.inl h)).trans' Xz (λi hi h=>by
    rcases h with h|h|h|h
    ·have:=Xr.1;omega
    ·exact .inl h
    ·have:=h.1;omega
    ·exact .inr h.1)
   have Xt:=((hT.trans (E.touch _)).trans (Yk.mono (λi _ h=>.inl h))).trans' tf (λi hi h=>by omega);refine ζO (v:=.tuple #[.agg #[iI 0,iI 0,iI 0,iI 0],iI 25]) ?_ rfl (.inr ⟨Xb.1,Xb.2,Xt,?_,.inr ⟨rfl,?_,Zb⟩⟩)
   ·rw[results_cell_tmp rfl];simp[asAddr,Result.andThen,hl]
   ·exact HZ.1.mono (HZ.1.fr (HZ.1.fr (HZ.1.gr Xl.vm E) Yk (λi _ h=>⟨λhi=>(Xw.o i hi).2 h,λhi=>(HD i hi).2 h⟩) (λ_ h=>h)) tf (λi _ h=>⟨λhi=>by have:=hi.2;omega,λhi=>by have:=(HD i hi).1;omega⟩) (λ_ h=>h)) (λi hi=>hi.1)
   ·have Y:∀i,i<w.heap.size->i≠w.heap.size+1:=λi h=>by omega
    exact Zd.touch tf (Y _ (V _ (.inl rfl))) (Y _ Xe) (Y _ (V _ (.inr (.inl rfl)))) (Y _ Xc) (Y _ (V _ (.inr (.inr rfl))))
def J6M(w:World)(SV:Nat->Prop)(q m p1 b1 p2 b2 n:Nat)(v:Vm)(rs:List Int)(room:Int)(e:Ending)(w':World):Prop:=
 ((room<1\/4096<room)/\e=.returned (.tuple #[LZ 0 0 0 0,iI 5])/\Gr w w') ∨
 (1<=room/\room<=4096/\AB (λi=>AN m b1 b2 i\/SV i) w w'/\AC w' SV q v ∧
  ((∃L r vi,e=.returned (.tuple #[LZ (L.length:Nat) (sizes L:Nat) r vi,iI 0])/\Ext w' m p1 b1 p2 b2 n L/\BF v rs n L/\(L=[]->r=1/\vi=0)) ∨
   (e=.returned (.tuple #[LZ 0 0 0 0,iI 25])/\Ext w' m p1 b1 p2 b2 n []/\¬CC v rs n)))
theorem VL(hV:AC w SV q v)(hE:Ext w m p1 b1 p2 b2 n L0)(hT:AQ w)(hA:FC (AN m b1 b2) w A rs)(hlen:rs.length<=maxLen)
  (hvm:∀i,SV i->¬AN m b1 b2 i) (hv1:¬SV p1) (hv2:¬SV p2) (hvt:¬SV 1) (htm:¬AN m b1 b2 1) (room:Int):
  Calls prog 48 #[spV q,.slice A rs.length cp,pP m,iI room] w (J6M w SV q m p1 b1 p2 b2 n v rs room):=
 Xbg (z:=spM q) ⟨Q7 q,λh=>h⟩ (.inr ⟨q,rfl⟩) (λ_ _=>⟨λ_=>trivial,λ_ _=>trivial⟩) (λ_ h=>h.elim) hV hE hT hA hlen hvm hv1 hv2 hvt htm room
end
section
attribute [local go_sem] Oper.semAt_some
structure PF(v:Vm)(rs:List Int)(c:Cf):Prop where
 cf:G4 v.pl.pg v.n c
 sd:CC v rs v.n
 inn:∀L,BF v rs v.n L->(∀o∈L,c.fr<=o.1/\o.1+o.2<=c.tp)/\c.to+sizes L<=c.lm
def V1i(w:World)(S:Nat->Prop)(q:Nat)(v:Vm)(rs:List Int)(e:Ending)(w':World):Prop:=
 ∃L,BF v rs v.n L/\e=.returned (.tuple #[iI (sizes L:Nat),iI 0])/\AB S w w'/\AC w' (AD S w) q v
structure YF(w wx:World)(S:Nat->Prop)(q m p1 b1 p2 b2 b11:Nat)(v:Vm)(rs:List Int)(c:Cf)(L:List Ob)(r vi:Int):Prop where
 t:AB S w wx
 vm:AC wx (AD S w) q v
 ex:Ext wx m p1 b1 p2 b2 v.n L
 mks:BF v rs v.n L
 st:Rec wx b11 97 [iI (L.length:Nat),iI (sizes L:Nat),iI r,iI vi]
 bx:Rec wx w.heap.size 143 [iI c.fr,iI c.tp,iI c.to,iI c.lm,iI c.bk,iI c.st,iI c.ah]
 r6:Rec wx (w.heap.size+1) 3 [iI 0]
 r7:Rec wx (w.heap.size+2) 27 [iI 0]
 lm:w.heap.size+3<=m
 l1:w.heap.size+3<=p1
 l2:w.heap.size+3<=b1
 l3:w.heap.size+3<=p2
 l4:w.heap.size+3<=b2
 l5:w.heap.size+3<=b11
section
variable{r:Nat}{c:Cf}
theorem Qwc(hV:AC w S q v)(hR:AS w r g rs)(hT:AQ w)(htS:¬S 1)(hc:PF v rs c):
  Calls prog 134 #[pP q,pP r,cfV c] w (V1i w S q v rs):=by
 have HV:=hV.cut;have HR:=hR;have HT:=hT;have Zr:=htS;have HC:=hc;have Jc:=hT.lt;have Xs:=hc.cf;have Jg:1<=v.n:=by have:=Xs.fr;have:=Xs.tp;have:=Xs.tn;have:=hV.ok.page.1;omega
 have hn2:=hV.ok.n2;have Ja:rs.length≠0:=λe=>hR.ne (ζv e);have Jh:=hR.le;have HX:=(λW=>N7 v.n Jg Ω W);have Jn:=(ξ Xs.st.1 Xs.st.2);obtain⟨n,Yd⟩:∃n,n=rs.length:=⟨_,rfl⟩;have HN:=ι Yd;rw[<-Yd]at Ja Jh;have d0:((n:Int)==0)=false:=by simp;omega
 have g1:Gr w (((w.alloc (.cells #[.int .i64 c.fr,.int .i64 c.tp,.int .i64 c.to,.int .i64 c.lm,.int .i64 c.bk,.int .i64 c.st,.int .i64 c.ah] 143)).alloc (.cells #[.int .i64 0] 3)).alloc (.cells #[.int .i64 0] 27)):=(((Gr.refl w).alloc _).alloc _).alloc _;have Zk:=g1;clear hV hR hT htS hc Xs Yd g1;refine(τ (n:=5)).1 ?_;refine callsIn_of_wp_marks func134 rfl trivial ?_ rfl;simp only[ntmps134,ζS,ζw,ζ7,Nat.reduceAdd,Nat.reduceSub,ζJ,ζI,ζY,ζN,ζV,ζq];unfold cfV;gi_upto_region 1 with(fail);obtain⟨W0,Xp⟩:∃W0,W0=(((w.alloc (.cells #[.int .i64 c.fr,.int .i64 c.tp,.int .i64 c.to,.int .i64 c.lm,.int .i64 c.bk,.int .i64 c.st,.int .i64 c.ah] 143)).alloc (.cells #[.int .i64 0] 3)).alloc (.cells #[.int .i64 0] 27)):=⟨_,rfl⟩;have Zv:W0.heap.size=w.heap.size+3:=by rw[Xp];simp only[γ]
 have Zu:Gr w W0:=by rw[Xp];exact Zk
 have rb:Rec W0 w.heap.size 143 [iI c.fr,iI c.tp,iI c.to,iI c.lm,iI c.bk,iI c.st,iI c.ah]:=by rw[Xp];exact(Rec.new w _ [iI c.fr,iI c.tp,iI c.to,iI c.lm,iI c.bk,iI c.st,iI c.ah]).gr (((Gr.refl _).alloc _).alloc _)
 have r6:Rec W0 (w.heap.size+1) 3 [iI 0]:=by rw[Xp];exact(KR w _ 3 [iI 0]).gr ((Gr.refl _).alloc _)
 have r7:Rec W0 (w.heap.size+2) 27 [iI 0]:=by
  rw[Xp];have:=KR (w.alloc (.cells #[.int .i64 c.fr,.int .i64 c.tp,.int .i64 c.to,.int .i64 c.lm,.int .i64 c.bk,.int .i64 c.st,.int .i64 c.ah] 143)) (.cells #[.int .i64 0] 3) 27 [iI 0];rw[γ]at this;exact this
 rw[<-Xp];clear Xp Zk;have Xb:=Zu;have Zm:=rb;have Jd:=r6;have Jo:=r7;obtain⟨z0,z1,z2,z3,z4,z5,z6,zl⟩:=rb.k7;have Yw:=(λ(W:World) (g:Gr w W)=>WD (HR.gr g));rw[<-HN.o]at Yw;have Zi:=(λ(W:World) (g:Gr w W)=>Z7 (HV.gr g) HC.cf);unfold cfV at Zi;have Jj:=(λ(W:World) (g:Gr w W)=>IX (HV.gr g));clear rb r6 r7 Zu
 gi_upto_region 7 with(first
  | (refine⟨trivial,?_⟩;gi_at_call 155;refine(τ.2 (Yw _ Xb)).mono ?_;rintro e w1 ⟨rfl,rfl⟩)
  | (refine⟨trivial,?_⟩;gi_at_call 156;refine(τ.2 (Zi _ Xb)).mono ?_;rintro e w1 ⟨rfl,U⟩;have Xq:=U;clear U)
  | (refine⟨trivial,?_⟩;gi_at_call 47;refine(τ.2 (Jj _ (Xb.trans Xq))).mono ?_;rintro e w2 ⟨rfl,rfl⟩)
  | (refine⟨trivial,?_⟩;gi_at_call 46;refine(τ.2 (HX _)).mono ?_;rintro e w3 ⟨m,p1,b1,p2,b2,rfl,Zg,Zo,Xi,Xv,Xk,Xt,Xm⟩;have I:=(Xq.trans Zg);have Xw:=Zo;have HB:=(ξ (χ Xq.size Xi) (ξ (χ Xq.size Xv) (ξ (χ Xq.size Xk) (ξ (χ Xq.size Xt) (χ Xq.size Xm)))));clear Zg Zo Xi Xv Xk Xt Xm))
 gi_cut [11,12]from 15 (λs11 s12 wx=>∃(E:Nat) (L:List Ob) (rv vi:Int),s11=pP E/\s12=iI 0/\Hid (YF w wx S q m p1 b1 p2 b2 E v rs c L rv vi))
 case first=>
  have Ji:=HB;obtain⟨Xi,Xv,Xk,Xt,Xm⟩:=Ji;rw[Zv]at Xi Xv Xk Xt Xm;have Zb:=Xw.hm;have Yv:=Xw.v1.hp;have Yk:=Xw.v1.hb;have Yt:=Xw.v2.hp;have Xz:=Xw.v2.hb
  have Xo:∀i,AN m b1 b2 i->w.heap.size+3<=i/\i<w3.heap.size:=λi hi=>by
   rcases hi with rfl|rfl|rfl
   ·exact⟨Xi,Zb⟩
   ·exact⟨Xk,Yk⟩
   ·exact⟨Xm,Xz⟩
  have Yy:=Xo;have Ym:=(λ(W:World) (g:Gr w3 W)=>R7 (HR.gr ((Xb.trans I).trans g)));rw[<-HN.o]at Ym
  have Yn:Hid (∀(W:World) (g1 cp:Nat),Gr w3 W->w3.heap.size<=g1->W.ownsRow 0 3 1 (.slice (some ⟨g1,0,none⟩) n cp) n (zs rs)->Calls prog 48 #[.iface 78 (pP q),.slice (some ⟨g1,0,none⟩) n cp,pP m,iI c.st] W λe w'=>
    ∃(L:List Ob) (rv vi:Int),e=.returned (.tuple #[.agg #[iI (L.length:Nat),iI (sizes L:Nat),iI rv,iI vi],iI 0])/\AB (λi=>AN m b1 b2 i\/AD S w i) W w'/\AC w' (AD S w) q v/\Ext w' m p1 b1 p2 b2 v.n L/\BF v rs v.n L):=⟨λW g1 cp hg U ho=>by
   rw[HN.o]at ho⊢;have Ys:=(Xb.trans I).trans hg;refine(VL (HV.gr Ys) (Xw.gr hg) (Ys.tab HT.lt HT) (λi hi=>?_) (by unfold maxLen;have:=HN.o;omega) (λi hi h=>by have:=(Xo i h).1;have:=hi.2;omega) (λh=>by have:=h.2;omega) (λh=>by have:=h.2;omega) (λh=>Zr h.1) (λh=>by have:=(Xo _ h).1;omega) (c.st:Int)).mono ?_
   ·exact⟨g1,0,rfl,(BB ho rfl).2,λh=>by have:=(Xo _ h).2;omega,by rw[ξz];exact BP ho (LS hi)⟩
   ·rintro e w' (⟨h,-⟩|⟨-,-,ht,hv,(⟨L,r',vi,rfl,he,hm,-⟩|⟨-,-,hn⟩)⟩)
    ·have:=Jn;omega
    ·exact⟨L,r',vi,rfl,ht,hv,he,hm⟩
    ·exact absurd HC.sd hn⟩
  have Zc:Hid (∀(W1 W2 W3:World) (E:Nat) (L:List Ob) (rv vi:Int),Gr w3 W1->AB (λi=>AN m b1 b2 i\/AD S w i) W1 W2->AC W2 (AD S w) q v->Ext W2 m p1 b1 p2 b2 v.n L->BF v rs v.n L->AB (λi=>i=E) W2 W3->w3.heap.size<=E →
    Rec W3 E 97 [iI (L.length:Nat),iI (sizes L:Nat),iI rv,iI vi]->YF w W3 S q m p1 b1 p2 b2 E v rs c L rv vi):=⟨λW1 W2 W3 E L rv vi hg ht hv he hm ht3 hb hr=>by
   have hz3:=(Xb.trans I).size;have hz13:=I.size;have Ys:=(Xb.trans I).trans hg
   have Yz:∀i,i<w.heap.size+3->w.heap.size<=i->¬(AN m b1 b2 i\/AD S w i):=λi h1 h2 h=>by
    rcases h with h|h
    ·have:=(Xo i h).1;omega
    ·have:=h.2;omega
   refine⟨((Ys.touch _).trans (ht.mono (T:=λi=>AN m b1 b2 i\/S i) (λi _ h=>h.imp id (λh=>h.1)))).trans' (T:=λi=>i=E) ht3 (λi hi h=>by omega) |>.mono (λi hi h=>h.elim (λh=>by have:=(Xo i h).1;omega) id),hv.touch ht3 (λi hi _ h=>by have:=hi.2;omega),he.touch ht3 Ω Ω Ω Ω Ω,hm,hr,?_,?_,?_,Xi,Xv,Xk,Xt,Xm,by omega⟩
   ·exact((Zm.gr (I.trans hg)).touch ht (Yz _ Ω Ω)).touch ht3 Ω
   ·exact((Jd.gr (I.trans hg)).touch ht (Yz _ Ω Ω)).touch ht3 Ω
   ·exact((Jo.gr (I.trans hg)).touch ht (Yz _ Ω Ω)).touch ht3 Ω⟩
  have Xg:=Zm.gr I;have x5:=Xg.cc 5;have Yx:=Xg.lt;have KS:Hid (∀W',Gr w3 W'->W'.cell? ⟨w.heap.size,5,none⟩=some (iI c.st)):=⟨λW' h=>(h.cell Yx 5).trans x5⟩
  have KT:Hid (∀W1 W',Gr w3 W1->AB (λi=>AN m b1 b2 i\/AD S w i) W1 W'->W'.cell? ⟨w.heap.size,5,none⟩=some (iI c.st)):=⟨λW1 W' h t=>(t.cell (κ Yx h.size) (λh=>by
   rcases h with h|h
   ·have:=(Yy _ h).1;omega
   ·have:=h.2;omega) 5).trans ((h.cell Yx 5).trans x5)⟩
  obtain⟨Sx,Yo⟩:∃Sx:World->Prop,Sx=λW'=>W'.cell? ⟨w.heap.size,5,none⟩=some (iI c.st):=⟨_,rfl⟩;have y1:∀p':AA Sx,p'.w.cell? ⟨w.heap.size,5,none⟩=some (iI c.st):=λp=>AA.get Yo p;have Zx:Sx w3.drew:=by rw[Yo];exact x5
  have V:=ι Yo;have inst:Inhabited (AA Sx):=⟨⟨_,Zx⟩⟩;clear Yo x5 Xg z0 z1 z2 z3 z4 z5 z6 zl Xo Xi Xv Xk Xt Xm Zb Yv Yk Yt Xz;refine Y3 Sx (.two [0,1,2,4,5,6] 3 (.two [] 7 (.one [8,9,10] 11 (.one [] 12 (.fin [13]))) 11 (.one [] 7 (.one [8,9,10] 12 (.fin [13])))) 11 (.one [] 3 (.one [] 7 (.one [8,9,10] 12 (.fin [13]))))) GF Zx ?_;refine P6 ?_;simp only[AF,ν,π]
  repeat(go_big_quiet_step (fail))
  refine ζb ⟨?_,?_⟩
  ·gi_wp2_with(refine⟨trivial,?_⟩;gi_at_call 49;refine(τ.2 (Ym _ (Gr.refl w3).drew)).mono ?_;rintro e w4 ⟨g1,c1,rfl,Xu,Yi,Yj⟩;have Y:=ι ((Gr.refl w3).drew.trans Xu);have Yq:=ι Yj;have Yp:=ι Yi;clear Xu Yj Yi);refine⟨AA.of (by rw[V.o];exact KS.o _ Y.o),?_⟩;refine P6 ?_;simp only[AF,ν,π];refine ζb ⟨?_,?_⟩
   ·gi_wp2_with(refine⟨trivial,?_⟩;gi_at_call 48;refine(τ.2 (Yn.o _ g1 c1 Y.o Yp.o Yq.o)).mono ?_;rintro e w5 ⟨L,rv,vi,rfl,Xa,Xf,Xe,Xh⟩;have J:=ι Xa;have Yb:=ι Xf;have Ya:=ι Xe;have Ye:=ι Xh;clear Xa Xf Xe Xh);refine⟨AA.of (by rw[V.o];exact KT.o _ _ Y.o J.o),?_⟩;refine LV ?_;have u5:=KT.o _ _ Y.o J.o;have Zp:=AT u5;gi_wp2;refine⟨AA.of (by rw[V.o];exact(((Gr.refl w5).alloc _).cell Zp 5).trans u5),?_⟩;refine IU ?_;simp only[AF,ν,π];refine ζb ?_;gi_wp2;refine⟨AA.of (by rw[V.o];exact(((Gr.refl w5).alloc _).cell Zp 5).trans u5),?_⟩;refine MV ?_;gi_wp2
    gi_meet
    exact⟨_,L,rv,vi,rfl,rfl,⟨Zc.o _ _ _ _ L rv vi Y.o J.o Yb.o Ya.o Ye.o (((Gr.refl w5).alloc _).touch _) (χ Y.o.size J.o.size) (Rec.new w5 _ [iI (L.length:Nat),iI (sizes L:Nat),iI rv,iI vi])⟩⟩
   ·have x4:=KS.o _ Y.o;have Zj:=AT x4;gi_wp2;refine⟨AA.of (by rw[V.o];exact(((Gr.refl w4).alloc _).cell Zj 5).trans x4),?_⟩;refine IU ?_;simp only[AF,ν,π];refine ζb ?_;have Xc:=ι (Rec.new w4 97 [iI 0,iI 0,iI 0,iI 0]);have O:=ι (Y.o.alloc (.cells #[.int .i64 0,.int .i64 0,.int .i64 0,.int .i64 0] 97))
    have Yf:Hid (¬(AN m b1 b2 w4.heap.size\/AD S w w4.heap.size)):=⟨λh=>by
     have:=Y.o.size;rcases h with h|h
     ·have:=(Yy _ h).2;omega
     ·have:=h.2;have:=(Xb.trans I).size;omega⟩
    have Xx:Hid (¬w.heap.size=w4.heap.size):=⟨by have:=Y.o.size;omega⟩;have Zl:=ι (CM Yq.o ((Gr.refl w4).alloc (.cells #[.int .i64 0,.int .i64 0,.int .i64 0,.int .i64 0] 97)));have Yh:Hid (w3.heap.size<=w4.heap.size):=⟨Y.o.size⟩;obtain⟨bA,Xj⟩:∃bA,bA=w4.heap.size:=⟨_,rfl⟩;obtain⟨WA,Xl⟩:∃WA,WA=w4.alloc (.cells #[.int .i64 0,.int .i64 0,.int .i64 0,.int .i64 0] 97):=⟨_,rfl⟩;rw[show w4.alloc (.cells ([.int .i64 0,.int .i64 0,.int .i64 0,.int .i64 0]:List Value).toArray 97)=WA from Xl.symm]at Xc;rw[<-Xl]at O Zl⊢;rw[<-Xj]at Xc Yf Xx Yh⊢;clear Xj Xl x4 Zj;gi_wp2_with(refine⟨trivial,?_⟩;gi_at_call 48;refine(τ.2 (Yn.o _ g1 c1 O.o Yp.o Zl.o)).mono ?_;rintro e w5 ⟨L,rv,vi,rfl,Xa,Xf,Xe,Xh⟩;have J:=ι Xa;have Yb:=ι Xf;have Ya:=ι Xe;have Ye:=ι Xh;have Z:=ι (Xc.o.touch Xa (Yf.o));have q0:=Z.o.cc 0;have q1:=Z.o.cc 1;have q2:=Z.o.cc 2;have q3:=Z.o.cc 3;have qf:=Z.o.free;have ql:=Z.o.lt;clear Xa Xf Xe Xh);refine⟨AA.of (by rw[V.o];exact KT.o _ _ O.o J.o),?_⟩;refine LV ?_;gi_wp2;have R5:=(((Z.o.set 0 (iI (L.length:Nat))).set 1 (iI (sizes L:Nat))).set 2 (iI rv)).set 3 (iI vi);have t5:=MJ w5 bA (iI (L.length:Nat)) (iI (sizes L:Nat)) (iI rv) (iI vi);have KF:=(t5.cell (AT (KT.o _ _ O.o J.o)) Xx.o 5).trans (KT.o _ _ O.o J.o);refine⟨AA.of (by rw[V.o];exact KF),?_⟩;refine MV ?_;gi_wp2
    gi_meet
    exact⟨_,L,rv,vi,rfl,rfl,⟨Zc.o _ _ _ _ L rv vi O.o J.o Yb.o Ya.o Ye.o t5 Yh.o R5⟩⟩
  ·gi_wp2;have x3:=KS.o _ (Gr.refl w3);have Jb:=AT x3;refine⟨AA.of (by rw[V.o];exact KS.o _ ((Gr.refl w3).alloc _).drew),?_⟩;refine IU ?_;simp only[AF,ν,π];refine ζb ?_;have Xc:=ι ((Rec.new w3 97 [iI 0,iI 0,iI 0,iI 0]).gr (Gr.refl _).drew);have O:=ι ((Gr.refl w3).alloc (.cells #[.int .i64 0,.int .i64 0,.int .i64 0,.int .i64 0] 97)).drew
   have Yf:Hid (¬(AN m b1 b2 w3.heap.size\/AD S w w3.heap.size)):=⟨λh=>by
    rcases h with h|h
    ·have:=(Yy _ h).2;omega
    ·have:=h.2;have:=(Xb.trans I).size;omega⟩
   have Xx:Hid (¬w.heap.size=w3.heap.size):=⟨by omega⟩;have Yh:Hid (w3.heap.size<=w3.heap.size):=⟨ϑ _⟩;obtain⟨WA,Xl⟩:∃WA,WA=(w3.alloc (.cells #[.int .i64 0,.int .i64 0,.int .i64 0,.int .i64 0] 97)).drew:=⟨_,rfl⟩;rw[show (w3.alloc (.cells ([.int .i64 0,.int .i64 0,.int .i64 0,.int .i64 0]:List Value).toArray 97)).drew=WA from Xl.symm]at Xc;rw[<-Xl]at O⊢;clear Xl;obtain⟨bA,Xj⟩:∃bA,bA=w3.heap.size:=⟨_,rfl⟩;rw[<-Xj]at Xc Yf Xx;rw[show w3.heap.size<=w3.heap.size↔w3.heap.size<=bA by rw[Xj]]at Yh;rw[show w3.heap.size=bA from Xj.symm];clear Xj x3 Jb;gi_wp2_with(refine⟨trivial,?_⟩;gi_at_call 49;refine(τ.2 (Ym _ O.o)).mono ?_;rintro e w4 ⟨g1,c1,rfl,Xu,Yi,Yj⟩;have Y:=ι (O.o.trans Xu);have Zh:=ι (Xc.o.gr Xu);have Yq:=ι Yj;have Yp:=ι (χ O.o.size Yi);clear Xu Yj Yi);refine⟨AA.of (by rw[V.o];exact KS.o _ Y.o),?_⟩;refine IU ?_;simp only[AF,ν,π];refine ζb ?_;gi_wp2_with(refine⟨trivial,?_⟩;gi_at_call 48;refine(τ.2 (Yn.o _ g1 c1 Y.o Yp.o Yq.o)).mono ?_;rintro e w5 ⟨L,rv,vi,rfl,Xa,Xf,Xe,Xh⟩;have J:=ι Xa;have Yb:=ι Xf;have Ya:=ι Xe;have Ye:=ι Xh;have Z:=ι (Zh.o.touch Xa (Yf.o));have q0:=Z.o.cc 0;have q1:=Z.o.cc 1;have q2:=Z.o.cc 2;have q3:=Z.o.cc 3;have qf:=Z.o.free;have ql:=Z.o.lt;clear Xa Xf Xe Xh);refine⟨AA.of (by rw[V.o];exact KT.o _ _ Y.o J.o),?_⟩;refine LV ?_;gi_wp2;have R5:=(((Z.o.set 0 (iI (L.length:Nat))).set 1 (iI (sizes L:Nat))).set 2 (iI rv)).set 3 (iI vi);have t5:=MJ w5 bA (iI (L.length:Nat)) (iI (sizes L:Nat)) (iI rv) (iI vi);have KF:=(t5.cell (AT (KT.o _ _ Y.o J.o)) Xx.o 5).trans (KT.o _ _ Y.o J.o);refine⟨AA.of (by rw[V.o];exact KF),?_⟩;refine MV ?_;gi_wp2
   gi_meet
   exact⟨_,L,rv,vi,rfl,rfl,⟨Zc.o _ _ _ _ L rv vi Y.o J.o Yb.o Ya.o Ye.o t5 Yh.o R5⟩⟩
 case rest=>
  obtain⟨E,L,rv,vi,rfl,rfl,HI⟩:=hcut;clear z0 z1 z2 z3 z4 z5 z6 zl;obtain⟨Zn,Yu⟩:=HC.inn L HI.o.mks;have Jq:=ι Zn;have Zw:=ι Yu;clear Zn Yu;gi_wp2_with(refine⟨trivial,?_⟩;gi_at_call 144;refine(τ.2 (JZ (some ⟨m,0,none⟩))).mono ?_;rintro e w1 ⟨rfl,rfl⟩);obtain⟨W1,Yg⟩:∃W1,W1=wc.alloc (.cells #[.pointer (some ⟨m,0,none⟩)] 93):=⟨_,rfl⟩;have U:Gr wc W1:=by rw[Yg];exact(Gr.refl wc).alloc _
  have hs1:W1.heap.size=wc.heap.size+1:=by rw[Yg,γ]
  have k4:W1.cell? ⟨wc.heap.size,0,none⟩=some (pP m):=by
   rw[Yg];exact(Boxed.new wc 93 (pP m)).cell
  rw[<-Yg];have hex:=HI.o.ex;have Zb:=hex.hm;have Yv:=hex.v1.hp;have Yk:=hex.v1.hb;have Yt:=hex.v2.hp;have Xz:=hex.v2.hb;have hwz:=HI.o.t.size;have Zd:AQ wc:=HI.o.t.tab Jc Zr HT;have Zz:=ι Zd;have Zs:=Zd.lt;have Ze:=HI.o.bx;have hrl:=Ze.lt;clear Yg Zd hex;have tI:∀(j:Nat) A B,(AB (λi=>W1.heap.size<=i) W1 A/\j<=L.length)->AB (λi=>W1.heap.size<=i/\i<W1.heap.size+2+4) A B->(AB (λi=>W1.heap.size<=i) W1 B/\j<=L.length):=λj A B h t=>⟨h.1.trans (t.mono (λi _ h=>h.1)),h.2⟩
  refine LQ (K:=4) (s0:=0) rfl Ω (gf:=187) (lb:=#[pP wc.heap.size]) rfl trivial (enters_of func187 (by kernel_rfl) rfl)
   (OO _ wc.heap.size m p1 b1 p2 b2 v.n L _) (λ_=>rfl)
   (λ(j:Nat) A=>AB (λi=>W1.heap.size<=i) W1 A/\j<=L.length) (λ_ _=>False) tI (λ_ _ _ h _=>h)
   (λj A h=>⟨(HI.o.ex.gr U).touch h.1 Ω Ω Ω Ω Ω,(U.tab Zs Zz.o).touch' h.1 Ω,(h.1.cell Ω Ω 0).trans k4,h.2⟩)
   ⟨AB.refl _ _,ζe _⟩ ?round ?done ?stop
  case round=>
   intro lp j x W3 hsz3 Xd Xn;dsimp only[GJ];gi_wp2;refine⟨Gr.refl _,λW4 ht4 hI4=>?_⟩
   have Yr:j<L.length:=by
    rcases υ j L.length with h|h
    ·exact h
    ·unfold EJ at Xn;rw[ζH h]at Xn;cases Xn
   obtain rfl:x=L[j]:=by unfold EJ at Xn;rw[η Yr]at Xn;exact(Option.some.inj Xn).symm
   obtain⟨i1,i2⟩:=Jq.o _ (μ Yr);have Xy:=(Ze.gr U).touch hI4.1 Ω;obtain⟨c0,c1,cl⟩:=Xy.k2;have Zt:=(HI.o.ex.good.sz _ (μ Yr)).2;obtain⟨sa,Zy⟩:∃s,s=L[j].1:=⟨_,rfl⟩;obtain⟨sz,Xr⟩:∃s,s=L[j].2:=⟨_,rfl⟩;rw[<-Zy]at i1 i2 Zt⊢;rw[<-Xr]at i2 Zt⊢;have e0:decide ((sa:Int)<(c.fr:Int))=false:=ζ Ω;have e1:decide ((c.tp:Int)<(sa:Int)+(sz:Int))=false:=ζ Ω;have e2:decide (sa<c.fr)=false:=ζ Ω;have Jk:=ι hI4;clear Xd hI4 Xn ht4 Zy Xr;gi_wp2;exact⟨AB.refl _ _,j+1,rfl,Jk.o.1,Yr⟩
  case done=>
   rintro D j W3 hD rfl Xd hK;have hs5l:=HI.o.l5;have hb11l:=HI.o.st.lt;have Zf:=(HI.o.st.gr U).touch Xd.1 Ω;have Xg:=(Ze.gr U).touch Xd.1 Ω;have Yc:=(HI.o.r6.gr U).touch Xd.1 (by have:=HI.o.r6.lt;omega);have Yl:=(HI.o.r7.gr U).touch Xd.1 (by have:=HI.o.r7.lt;omega);have a1:=Zf.cc 1;have al:=Zf.lt;have c3:=Xg.cc 3;have c2:=Xg.cc 2;have cl:=Xg.lt;have q0:=Yc.cc 0;have q1:=Yc.free 0;have ql:=Yc.lt;have p0:=Yl.cc 0;have p1':=Yl.free 0;have pl:=Yl.lt;have Jm:=Zw.o;have hlm:=HC.cf.ln;have Jr:=HI.o.vm;obtain⟨sz,Xr⟩:∃s,s=sizes L:=⟨_,rfl⟩;have Jl:=ι Xr;rw[<-Xr]at a1 Jm;have e0:decide ((c.lm:Int)-(c.to:Int)<(sz:Int))=false:=ζ Ω;have HK:=ι hK;have HD:=ι hD;have Zq:=ι Xd;have Xc:=ι Yc;have Je:=ι Yl;have hs3:=Xd.1.size;clear hK hD Xd Xr Zf Xg Yc Yl;gi_wp2
   have tg:AB (λi=>i=w.heap.size+1\/i=w.heap.size+2) W3 ((W3.setCell ⟨w.heap.size+1,0,none⟩ (.int .i64 (sz:Int))).setCell ⟨w.heap.size+1+1,0,none⟩ (.int .i64 0)):=
    ((AB.refl _ W3).setCell (a:=⟨w.heap.size+1,0,none⟩) (λ_=>.inl rfl) _).setCell (a:=⟨w.heap.size+1+1,0,none⟩) (λ_=>.inr rfl) _
   have b6:Rec ((W3.setCell ⟨w.heap.size+1,0,none⟩ (.int .i64 (sz:Int))).setCell ⟨w.heap.size+1+1,0,none⟩ (.int .i64 0)) (w.heap.size+1) 3 [iI (sz:Int)]:=
    (Xc.o.set 0 (iI (sz:Int))).touch ((AB.refl (λi=>i=w.heap.size+1+1) _).setCell (a:=⟨w.heap.size+1+1,0,none⟩) (λ_=>rfl) _) Ω
   have b7:Rec ((W3.setCell ⟨w.heap.size+1,0,none⟩ (.int .i64 (sz:Int))).setCell ⟨w.heap.size+1+1,0,none⟩ (.int .i64 0)) (w.heap.size+2) 27 [iI 0]:=
    (Je.o.touch ((AB.refl (λi=>i=w.heap.size+1) W3).setCell (a:=⟨w.heap.size+1,0,none⟩) (λ_=>rfl) (iI (sz:Int))) Ω).set 0 (iI 0)
   have hD:=HD.o;have Za:=(tg.block D (ζn.1 HK.o).1 Ω).trans HK.o;generalize ((W3.setCell ⟨w.heap.size+1,0,none⟩ (.int .i64 (sz:Int))).setCell ⟨w.heap.size+1+1,0,none⟩ (.int .i64 0))=W5 at *
   have k6:=b6.cc 0;have k7:=b7.cc 0;rw[show w.heap.size+2=w.heap.size+1+1 from rfl]at k7;refine⟨by simp,.inl ⟨_,_,rfl,run_takeDeferred Za,?_⟩⟩;have Jp:=cell_kept k6 (grownBy_putObj' _ D (.deferred none)) (λr e=>by cases e;exact⟨_,Za,rfl⟩);have Jf:=cell_kept k7 (grownBy_putObj' _ D (.deferred none)) (λr e=>by cases e;exact⟨_,Za,rfl⟩);have tD:AB (λi=>W1.heap.size<=i) W5 (W5.putObj D (.deferred none)):=C6 _ D _ Ω;refine⟨.tuple #[iI (sz:Int),iI 0],?_,?_⟩
   ·simp[results,f134,go_sem,Jp,Jf]
   ·refine⟨L,HI.o.mks,by rw[Jl.o],?_,?_⟩
    ·exact(((HI.o.t.trans (U.touch _)).trans' Zq.o.1 (λi hi h=>by omega)).trans' tg (λi hi h=>by omega)).trans' tD (λi hi h=>by omega)
    ·exact(((Jr.gr U).touch Zq.o.1 (λi hi _ h=>by have:=hi.2;omega)).touch tg (λi hi _ h=>by have:=hi.2;omega)).touch tD (λi hi _ h=>by have:=hi.2;omega)
  case stop=>
   rintro D c W3 hD h hK;exact h.elim
end
end
theorem UE(h:AE v){t:Nat}(ht:t<=v.n)(hE:BA v f t=0)(hG:BR v v1 (BO v f t)){a:Nat}(h1:f<=a)(h2:a<t):v1.ldE a=0:=by
 have hF:BO v f t=BS v ((f:Int)/v.pl.pg).toNat (CV v f t):=by unfold BO;grind
 rw[hG.ldE h Ω,hF];by_cases h0:v.pt.getD (a/v.pl.pg) 0=0
 ·rw[θ];rw[OM];refine⟨?_,h0⟩;have e1:((f:Int)/(v.pl.pg:Int)).toNat=f/v.pl.pg:=by grind
  have e2:CV v f t=(t-1)/v.pl.pg+1-f/v.pl.pg:=by
   unfold CV
   grind
  have g1:f/v.pl.pg<=a/v.pl.pg:=ζa h1;have g2:a/v.pl.pg<=(t-1)/v.pl.pg:=ζa Ω;omega
 ·split
  ·rfl
  ·rw[h.ldE_of Ω,ψ h0]
theorem VGS(hf:f<=v.n):BA v f f=0/\BO v f f=[]:=by
 have hE:BA v f f=0:=by unfold BA;omega
 refine⟨hE,?_⟩;unfold BO
 simp_all
theorem Z25(h:AE v){c:Cf}(hc:PF v rs c)(hM:BF v rs v.n L)(hE:BA v c.to ((c.to+sizes L:Nat):Int)=0)(hG:BR v v1 (BO v c.to ((c.to+sizes L:Nat):Int)))
  (hm:∀a:Nat,c.fr<=a->a<c.tp->v.ldE a=0):DF v1 rs L c.to/\FN v1 L:=by
 obtain⟨Z,htot⟩:=hc.inn L hM;have hw:=hG.wider h;have hp:=h.page;have Y:=hc.cf;have hln:=Y.ln;have hto:=Y.to;refine⟨⟨hG.ok,?_,by omega,λo ho=>?_,λa h1 h2=>UE h Ω hE hG h1 h2,by rw[hG.n];omega⟩,λo ho m hmo=>?_⟩
 ·rw[hG.n];exact hw.marks hM
 ·have hi:=Z o ho;have hs:1<=o.2:=(hM.mkd.good.sz o ho).1
  have hsz:1<=sizes L:=by
   have:∀l:List Ob,o∈l->o.2<=sizes l:=λl=>by
    induction l with
    | nil=>intro h;cases h
    | cons b r ih=>
     intro h;simp only[sizes];rcases ζB.1 h with rfl|h
     ·omega
     ·have:=ih h;omega
   grind
  have hup:c.tp<=upN c.tp v.pl.pg:=by
   unfold upN;have h1:=ζu (c.tp+v.pl.pg-1) v.pl.pg;have h2:=ξT (c.tp+v.pl.pg-1) (show 0<v.pl.pg by omega)
   grind
  have hap:=Y.ap;omega
 ·have hi:=Z o ho;have:=hm (o.1+m) Ω Ω;exact(hw.le _ (by exact this)).1
structure TR(v:Vm)(rs:List Int)(c:Cf)(L:List Ob)(v1 v2:Vm)(k kq:Nat):Prop where
 gr:BR v v1 (BO v c.to ((c.to+sizes L:Nat):Int))
 cx:DF v1 rs L c.to
 fo:FN v1 L
 ke:k=(AR v1 rs k).length
 st:CpS v1 rs L c.to (AR v1 rs k) k 0 v2
 q1:∀j,j<kq->(c.fr/v.pl.pg+j)*v.pl.pg<c.tp
 q2:c.tp<=(c.fr/v.pl.pg+kq)*v.pl.pg
theorem VQN(v:Vm)(rs:List Int)(k:Nat)(h:j<=(AR v rs k).length):(AR v rs (k+1)).take j=(AR v rs k).take j:=by
 obtain⟨X,hX⟩:=UT v rs k
 grind
theorem YnT(h:k<(AR v rs k).length):AR v rs (k+1)=DE (AR v rs k) (DI v ((AR v rs k).getD k 0)):=by
 show (if _ then _ else _)=_
 rw[θ h]
theorem XeB(c:DF v rs L to){X:List Int}(hR:∀a∈O++X,Rch v rs a)(hl:∀a∈l,a=0\/a∈O):l.map (λa=>BQ v (O++X) to a)=l.map (λa=>BQ v O to a):=by
 apply ξI;intro a ha;exact Vqd v X to (λh=>by have:=(DB (c.mks.sound.rd _ (hR 0 h))).1;omega) (hl a ha)
def CpJ(w3:World)(S3:Nat->Prop)(K M q g:Nat)(v:Vm)(rs:List Int)(L:List Ob)(to:Nat)(i:Nat)(W:World)(out:List Int):Prop:=
 ∃O v' Si,(∀b,Si b->plus S3 w3 b)/\C3 W Si K M q v to O v'/\CpS v rs L to O 0 0 v'/\O=DE [] (rs.take i)/\out=(rs.take i).map (λa=>BQ v O to a)/\AB (λb=>b=g\/(b=K\/b=M)\/S3 b) w3 W
structure CpL(w3 wr:World)(S3 Si:Nat->Prop)(K M q r g:Nat)(v:Vm)(rs out:List Int)(L:List Ob)(to k:Nat)(v':Vm):Prop where
 sub:∀b,Si b->plus S3 w3 b
 cat:C3 wr Si K M q v to (AR v rs k) v'
 st:CpS v rs L to (AR v rs k) k 0 v'
 oe:out=rs.map (λa=>BQ v (AR v rs k) to a)
 t:AB (λb=>b=g\/(b=K\/b=M)\/S3 b) w3 wr
 rt:AS wr r g out
def YZS(w:World)(S:Nat->Prop)(q r g:Nat)(v:Vm)(rs:List Int)(c:Cf)(e:Ending)(w':World):Prop:=
 ∃L,BF v rs v.n L/\AB (λb=>b=g\/S b) w w' ∧
  ((BA v c.to ((c.to+sizes L:Nat):Int)≠0/\e=.returned (.tuple #[iI 0,iI (BA v c.to ((c.to+sizes L:Nat):Int))])/\H5 w' (plus S w) q v []/\AS w' r g rs) ∨
   (BA v c.to ((c.to+sizes L:Nat):Int)=0/\e=.returned (.tuple #[iI ((c.to+sizes L:Nat):Int),iI 0]) ∧
   ∃v1 v2 k kq,TR v rs c L v1 v2 k kq/\AC w' (plus S w) q (umN v2 (c.fr/v.pl.pg) kq)/\AS w' r g (rs.map (λa=>BQ v1 (AR v1 rs k) c.to a))))
theorem C3.touch{T:Nat->Prop}{v':Vm}(h:C3 w S K M q v to O v')(t:AB T w w')(hK:¬T K)(hM:¬T M)(hS:∀b,S b->b<w.heap.size->¬T b):C3 w' S K M q v to O v':=
 ⟨h.rc.touch t hK,h.mp.touch t hM,h.vm.touch t hS,h.nK,h.nM⟩
structure XW(w3:World)(S3:Nat->Prop)(K M r g:Nat):Prop where
 r3:r<w3.heap.size
 g3:g<w3.heap.size
 rK:r≠K
 rM:r≠M
 gK:g≠K
 gM:g≠M
 rS:¬S3 r
 gS:¬S3 g
structure UmI(w3 wx:World)(S3:Nat->Prop)(K M q r g:Nat)(v:Vm)(out:List Int)(tt q0 j pg tp:Nat):Prop where
 t:AB (λb=>b=g\/(b=K\/b=M)\/S3 b) w3 wx
 vm:∃Sj,(∀b,Sj b->plus S3 w3 b)/\AC wx Sj q (umN v q0 j)/\¬Sj K
 rc:Rec wx K 209 [pP q,.map (some M),iI tt]
 rt:AS wx r g out
 q1:∀i,i<j->(q0+i)*pg<tp
theorem UmI.gr{wx:World}{r:Nat}{out:List Int}{tt q0 pg tp:Nat}(h:UmI w3 wx S3 K M q r g v out tt q0 j pg tp)(g':Gr wx w'):UmI w3 w' S3 K M q r g v out tt q0 j pg tp:=by
 obtain⟨h1,⟨Sj,h2,h3,h4⟩,h5,h6,h7⟩:=h;exact⟨h1.trans (g'.touch _),⟨Sj,h2,h3.gr g',h4⟩,h5.gr g',h6.gr g',h7⟩
section
variable{r:Nat}
theorem Q0I(hcat:C3 w3 S3 K M q v1 to [] v1)(cx:DF v1 rs L to)(fo:FN v1 L)(hR:AS w3 r g rs)(hrs:∀a∈rs,0<=a/\a<=2147483647)(sp:XW w3 S3 K M r g):
  Calls prog 135 #[pP r,.func (.func 136) #[pP K] #[]] w3 λe w'=>e=.returned (.tuple #[])/\∃out v' Si,CpL w3 w' S3 Si K M q r g v1 rs out L to 0 v':=by
 have h0:CpJ w3 S3 K M q g v1 rs L to 0 w3 []:=⟨[],v1,S3,λb h=>.inl h,hcat,⟨ξM,(λ_ h=>by cases h),Cpd.nil cx.ok to,(λj hj=>absurd hj (ζQ _)),.inr ⟨rfl,rfl⟩⟩,rfl,rfl,AB.refl _ _⟩;refine(W8 (F:=136) (pre:=#[pP K]) (caps:=#[]) (CpJ w3 S3 K M q g v1 rs L to) (λ_ _=>by kernel_rfl) hR h0 ?_ ?_).mono ?_
 ·rintro i hi W out ho ⟨O,v',Si,h1,h2,h3,h4,h5,h6⟩ hz;refine⟨O,v',Si,h1,h2,h3,?_,?_,h6⟩
  ·rw[IM hi,T0,<-h4,hz];exact(θ (.inl rfl)).symm
  ·rw[IM hi,ζ4,<-h5,hz]
   show out++[0]=out++[BQ v1 O to 0]
   rw[OK v1 _ (h3.zero cx)]
 ·rintro i hi W out ho ⟨O,v',Si,h1,h2,h3,h4,h5,h6⟩ J D W0 Z;obtain⟨q1,q2⟩:=hrs _ (μ hi);obtain⟨a,ha⟩:∃a:Nat,(a:Int)=rs[i]:=⟨rs[i].toNat,by omega⟩;have hr:Rch v1 rs a:=by rw[ha];exact Rch.root (μ hi) D
  have Y:=Zz2 (h2.gr Z) cx fo h3 (a:=a) (.inr hr) Ω;rw[ha]at Y;refine Y.mono ?_;rintro e W' ⟨E,rfl,ht,I,V⟩;have hzW:=h6.size;have hz0:=Z.size;have U:∀b,b<w3.heap.size->¬S3 b->¬Si b:=λb hb hn h=>(h1 b h).elim hn (λh=>by omega);have B:(a:Int)∈CH O a:=NC.2 (.inr ⟨rfl,by omega⟩);have Xa:0<=BQ v1 (CH O (a:Int)) to a:=by have:=(UH v1 (to:Int) B).1;omega
  rw[<-ha]at V I⊢;refine⟨_,rfl,(J.gr Z).touch ht (λh=>?_) (λh=>?_),λW'' t''=>⟨CH O a,E,plus Si W0,λb hb=>?_,I.touch t'' (Ne.symm sp.gK) (Ne.symm sp.gM) (λb hb _ e=>?_),V,?_,?_,?_⟩⟩
  ·rcases h with(h|h)|h
   ·exact sp.rK h
   ·exact sp.rM h
   ·exact U _ sp.r3 sp.rS h
  ·rcases h with(h|h)|h
   ·exact sp.gK h
   ·exact sp.gM h
   ·exact U _ sp.g3 sp.gS h
  ·rcases hb with h|h
   ·exact h1 b h
   ·right;omega
  ·subst e;rcases hb with h|h
   ·exact U _ sp.g3 sp.gS h
   ·have:=sp.g3;omega
  ·rw[IM hi,T0,<-h4,<-ha]
  ·obtain⟨X,hX⟩:=VO O (a:Int);rw[IM hi,ζ4,<-ha,Int.max_eq_left Xa];congr 1;rw[h5]
   have hl:∀b∈rs.take i,b=0\/b∈O:=λb hb=>by
    by_cases h0:b=0
    ·exact .inl h0
    ·right;rw[h4];exact RL.2 (.inr ⟨hb,h0⟩)
   rw[hX];exact(XeB cx (by rw[<-hX];exact V.rch) hl).symm
  ·refine((h6.trans (Z.touch _)).trans' ht (λb hb h=>?_)).trans (t''.mono (λb _ h=>.inl h));rcases h with h|h
   ·exact .inr (.inl h)
   ·exact(h1 b h).elim (λh=>.inr (.inr h)) (λh=>by omega)
 ·rintro e w' ⟨rfl,out,-,⟨O,v',Si,h1,h2,h3,h4,h5,h6⟩,J⟩;rw[ζ8]at h4 h5;have hO:O=AR v1 rs 0:=h4;subst hO;exact⟨rfl,out,v',Si,h1,h2,h3,h5,h6,J⟩
end
section
variable{r:Nat}{c:Cf}
theorem Qj5(hV:AC w S q v)(hR:AS w r g rs)(hT:AQ w)(htS:¬S 1)(hrS:¬S r)(hgS:¬S g)(hc:PF v rs c)(hm:∀a:Nat,c.fr<=a->a<c.tp->v.ldE a=0)(hrs:∀a∈rs,0<=a/\a<=2147483647):
  Calls prog 94 #[pP q,pP r,cfV c] w (YZS w S q r g v rs c):=by
 have HV:=hV.cut;have HR:=hR;have HT:=hT;have I:=(ξ htS (ξ hrS hgS));have HC:=hc;have HM:=hm;have Jw:=hrs;have Xt:=hc.cf;have Jt:=hV.ok.page;have Zn:=hV.ok;have hn2:=hV.ok.n2;have Je:=hT.lt;have hrl:=hR.lt;have hto:=Xt.to;have hlm:=Xt.ln;have Jv:=Xt.fr;have Xe:=((Gr.refl w).alloc (.cells #[.int .i64 c.fr,.int .i64 c.tp,.int .i64 c.to,.int .i64 c.lm,.int .i64 c.bk,.int .i64 c.st,.int .i64 c.ah] 143));have rb:=Rec.new w 143 [iI c.fr,iI c.tp,iI c.to,iI c.lm,iI c.bk,iI c.st,iI c.ah];obtain⟨W0,Ya⟩:∃W0,W0=w.alloc (.cells #[.int .i64 c.fr,.int .i64 c.tp,.int .i64 c.to,.int .i64 c.lm,.int .i64 c.bk,.int .i64 c.st,.int .i64 c.ah] 143):=⟨_,rfl⟩;have hsz0:W0.heap.size=w.heap.size+1:=by rw[Ya,γ]
 rw[<-Ya]at Xe;rw[show w.alloc (.cells ([.int .i64 c.fr,.int .i64 c.tp,.int .i64 c.to,.int .i64 c.lm,.int .i64 c.bk,.int .i64 c.st,.int .i64 c.ah]:List Value).toArray 143)=W0 from Ya.symm]at rb;have Jn:=rb;have Zz:=(Qwc (HV.gr Xe) (HR.gr Xe) (Xe.tab Je HT) (λh=>htS h.1) hc);obtain⟨z0,z1,z2,z3,z4,z5,z6,zl⟩:=rb.k7;have Yz:=Xt;have Jb:=Zn;unfold cfV at Zz⊢;clear hV hR hT htS hrS hgS hc hm hrs rb Xt Zn;go_enter func94,ntmps94;go_upto_region 1 with(fail);rw[<-Ya];clear Ya;go_upto_region 4 with(go_at_call 134;refine Zz.mono ?_;rintro e w1 ⟨L,hM,rfl,Yj,Xv⟩;have Yd:=hM;have Yi:=Yj;have Yu:=Xv;have Xx:=(Jn.touch Yj (λh=>by have:=h.2;omega));have Yw:=ι ((HR.gr Xe).touch Yj (λh=>I.2.1 h.1) (λh=>I.2.2 h.1));obtain⟨y0,y1,y2,yl⟩:=Xx.k3;clear hM Yj Xv);obtain⟨Jo,Yn⟩:=HC.inn L Yd;obtain⟨nn,Zd⟩:∃nn,nn=sizes L:=⟨_,rfl⟩;have Xw:=ι Zd;rw[<-Zd]at Yn⊢;have Xr:(c.to:Int)+(nn:Int)=((c.to+nn:Nat):Int):=by push_cast;rfl
 have Yv:Hid (Calls prog 117 #[pP q,iI c.to,iI ((c.to:Int)+(nn:Int))] w1 λe w'=>e=.returned (iI (BA v c.to ((c.to+nn:Nat):Int)))/\AB (AD S w) w1 w'/\H5 w' (plus (AD S w) w1) q v (BO v c.to ((c.to+nn:Nat):Int))):=⟨by
  rw[Xr];by_cases h0:nn=0
  ·subst h0;have hq:=VGS (v:=v) (f:=c.to) Ω;rw[ξk,hq.1,hq.2];refine(Y7 Yu c.to c.to Ω (ϑ _)).mono ?_;rintro e w' ⟨rfl,hg⟩;exact⟨rfl,hg.touch _,v,BR.refl Jb,(Yu.gr hg).mono (λb hb=>.inl hb.1)⟩
  ·refine(QJ Yu c.to (c.to+nn) Ω Ω).mono ?_;rintro e w' ⟨rfl,ht,v',hg,hv⟩
   exact⟨rfl,ht.mono (λb _ hb=>hb.1),v',hg,hv.mono (λb hb=>hb.imp (λh=>h.1) id)⟩⟩
 clear z0 z1 z2 z3 z4 z5 z6 zl Zd Xr;obtain⟨E,hE⟩:∃E,E=BA v c.to ((c.to+nn:Nat):Int):=⟨_,rfl⟩;have HE:=ι hE;rw[<-hE]at Yv;clear hE;by_cases Yf:E=0
 ·subst Yf;have Ji:=@run_makeMap prog;have hmf:∀(fn:Fn) (first cap:Array Value) (w:World),(Instr.makeFunc fn first cap).run prog w=.ok (.func fn first cap) w:=λ_ _ _ _=>rfl;go_upto_region 8 with(go_at_call 117;refine Yv.o.mono ?_;rintro e w2 ⟨rfl,Xa,Xo⟩;have Xn:=ι Xa;have Zc:=ι Xo;have Xf:=ι (Xx.touch Xa (λh=>by have:=h.2;omega));have Zr:=ι (Yw.o.touch Xa (λh=>I.2.1 h.1) (λh=>I.2.2 h.1));have x2:=Xf.o.cc 2;have xl:=Xf.o.lt;clear Xa Xo);obtain⟨v1,Yh,Xv⟩:=Zc.o;rw[Xw.o]at Yh;have hE:=HE.o;rw[Xw.o]at hE;obtain⟨cx,fo⟩:=Z25 Jb HC Yd hE.symm Yh HM;have hz1:=Yi.size;have hz2:=Xn.o.size;have Xc:∀b,AD (plus (AD S w) w1) w2 b->plus S w b/\b<w2.heap.size:=λb hb=>⟨hb.1.elim (λh=>.inl h.1) (λh=>.inr Ω),hb.2⟩
  have Xh:=KR w2 (.map #[] 0) 209 [pP q,.map (some w2.heap.size),iI c.to];have B:Gr w2 ((w2.alloc (.map #[] 0)).alloc (.cells #[.pointer (some ⟨q,0,none⟩),.map (some w2.heap.size),.int .i64 c.to] 209)):=((Gr.refl w2).alloc _).alloc _;have Xi:=(BD.made (P:=prog) (K:=3) w2).gr ((Gr.refl _).alloc (.cells #[.pointer (some ⟨q,0,none⟩),.map (some w2.heap.size),.int .i64 c.to] 209));obtain⟨M,hM⟩:∃M,M=w2.heap.size:=⟨_,rfl⟩;obtain⟨W3,Yk⟩:∃W3,W3=((w2.alloc (.map #[] 0)).alloc (.cells #[.pointer (some ⟨q,0,none⟩),.map (some w2.heap.size),.int .i64 c.to] 209)):=⟨_,rfl⟩;have hsz3:W3.heap.size=M+2:=by rw[Yk,γ,γ,hM]
  have hMw:w.heap.size<M:=by rw[hM];exact Xf.o.lt
  have hMw2:M<=w2.heap.size/\w2.heap.size<=M:=Ω
  rw[show (w2.alloc (.map #[] 0)).alloc (.cells ([.pointer (some ⟨q,0,none⟩),.map (some w2.heap.size),.int .i64 c.to]:List Value).toArray 209)=W3 from Yk.symm]at Xh;rw[<-Yk]at B Xi⊢;rw[<-hM]at Xh Xi Xc⊢;have hr1:=Yw.o.lt;have hr2:=Zr.o.lt;have Ym:C3 W3 (AD (plus (AD S w) w1) w2) (M+1) M q v1 c.to [] v1:=⟨by simpa[AH]using Xh,Xi.congr (λy=>by simp[KW]),Xv.cut.gr B,λh=>by have:=(Xc _ h).2;omega,λh=>by have:=(Xc _ h).2;omega⟩;have Yr:XW W3 (AD (plus (AD S w) w1) w2) (M+1) M r g:=⟨by omega,by omega,by omega,by omega,by omega,by omega,λh=>(Xc _ h).1.elim I.2.1 (λh=>by omega),λh=>(Xc _ h).1.elim I.2.2 (λh=>by omega)⟩;have Jg:=ι (Q0I Ym cx fo (Zr.o.gr B) Jw Yr);have Xz:=ι (ξ cx fo);have Yl:=ι B;have Yy:=ι Yh;have Zk:=ι Xc;have U:=ι Yr;have Jj:=(Xf.o.gr B).cell (j:=2) rfl;have Ua:=(Xf.o.gr B).lt;clear Yh Xv cx fo Yk hM B Xi Xh Ym Yr Xc x2 xl y0 y1 y2 yl hE;go_upto_region 9 with(go_at_call 135;refine Jg.o.mono ?_;rintro e w4 ⟨rfl,Ys,v',Si,hL⟩;have HL:=ι hL;clear hL)
  have Yx:Hid (∀W' S',AB (λb=>b=g\/(b=M+1\/b=M)\/AD (plus (AD S w) w1) w2 b) W3 W'->Gr W' S'->Rec S' w.heap.size 143 [iI c.fr,iI c.tp,iI c.to,iI c.lm,iI c.bk,iI c.st,iI c.ah]):=⟨λW' S' t g'=>((Xf.o.gr Yl.o).touch t (λh=>by
   have h2:=Xf.o.lt;have h3:=Yl.o.size;rcases h with h|h|h
   ·omega
   ·omega
   ·rcases h.1 with h|h
    ·have:=h.2;omega
    ·omega)).gr g'⟩
  have V:=Yx.o _ _ HL.o.t (Gr.refl _);have u2:=V.cc 2;have ul:=V.lt;clear V Jj Ua Ji;go_wp2
  go_loopw [12] (λs12 wr=>∃(k:Nat) (v':Vm) (Si:Nat->Prop),Hid (CpL W3 wr (AD (plus (AD S w) w1) w2) Si (M+1) M q r g v1 rs Ys L c.to k v')/\s12=iI ((c.to:Int)+AH v1 ((AR v1 rs k).take k))) (λs12 _=>((c.to:Int)+sizes L+1-intOf s12).toNat)
  case atStart=>exact⟨0,v',Si,HL,by simp[AH]⟩
  case round=>
   obtain⟨k,Xj,Zh,Y,rfl⟩:=hrel;obtain⟨cx,fo⟩:=Xz.o;have O:=Y.o.st.lt;have c2:=Y.o.cat.rc.cc 2;have Xp:=cx.sum Y.o.st.nd Y.o.st.rch;have Zg:=GA v1 ((AR v1 rs k).take k);have Zp:=RZ v1 (AR v1 rs k) k;have Xq:=cx.top;have Zs:v1.n=v.n:=Yy.o.n;clear u2 ul;by_cases hk:k<(AR v1 rs k).length
   ·have Zx:=(DB (cx.mks.sound.rd _ (Y.o.st.rch _ (μ hk)))).2.1;have Jx:=KX v1 hk;have Zo:=RZ v1 (AR v1 rs k) (k+1);have Zv:=ι (ZQS Y.o.cat cx fo Y.o.st hk);have HK:=ι hk;have Jr:Hid (AH v1 ((AR v1 rs k).take k)+1<=AH v1 ((AR v1 rs k).take (k+1))):=⟨by omega⟩;obtain⟨aa,Yq⟩:∃aa:Nat,(aa:Int)=c.to+AH v1 ((AR v1 rs k).take k):=⟨((c.to:Int)+AH v1 ((AR v1 rs k).take k)).toNat,by omega⟩;obtain⟨tt,Xk⟩:∃tt:Nat,(tt:Int)=c.to+AH v1 (AR v1 rs k):=⟨((c.to:Int)+AH v1 (AR v1 rs k)).toNat,by omega⟩;have Jk:=ι Yq;rw[<-Yq]at Zv⊢;rw[<-Xk]at c2;have e0:decide ((aa:Int)<(tt:Int))=true:=φ Ω;have e1:decide (aa<tt)=true:=φ Ω;have HB:=ι (ξ Zo Xp);clear hk Zx Jx Zo Yq Xk cx fo O Xp Zg Zp Xq Zs;go_wp2_with(go_at_call 137;refine Zv.o.mono ?_;rintro e w5 ⟨v3,rfl,Yb,Ja,Zy⟩;have Xm:=ι Yb;have Jm:=ι Ja;have Jy:=ι Zy;clear Yb Ja Zy);go_round
    case rel=>
     have Zm:=YnT HK.o;refine⟨k+1,v3,plus Zh wr,⟨⟨λb hb=>?_,by rw[Zm];exact Jm.o,by rw[Zm];exact Jy.o,?_,?_,?_⟩⟩,?_⟩
     ·have:=Y.o.t.size;rcases hb with h|h
      ·exact Y.o.sub b h
      ·right;omega
     ·rw[Y.o.oe];obtain⟨X,hX⟩:=UT v1 rs k;have Zu:∀a∈AR v1 rs k++X,Rch v1 rs a:=λa ha=>Z8 Xz.o.1 (k+1) a (by rw[hX];exact ha);rw[hX]
      exact(XeB Xz.o.1 Zu (λa ha=>by
       by_cases h0:a=0
       ·exact .inl h0
       ·exact .inr (Zqu v1 rs k a ha h0))).symm
     ·refine Y.o.t.trans' Xm.o (λb hb h=>?_);rcases h with h|h
      ·exact .inr (.inl h)
      ·exact(Y.o.sub b h).elim (λh=>.inr (.inr h)) (λh=>by omega)
     ·refine Y.o.rt.touch Xm.o (λh=>?_) (λh=>?_)
      ·rcases h with(h|h)|h
       ·exact U.o.rK h
       ·exact U.o.rM h
       ·exact(Y.o.sub _ h).elim U.o.rS (λh=>by have:=U.o.r3;omega)
      ·rcases h with(h|h)|h
       ·exact U.o.gK h
       ·exact U.o.gM h
       ·exact(Y.o.sub _ h).elim U.o.gS (λh=>by have:=U.o.g3;omega)
     ·rw[VQN v1 rs k (by have:=HK.o;omega)]
    case measure=>
     have h1:=Jr.o;have h2:=HB.o;have h3:=Jk.o;simp only[intOf];omega
   ·have Ye:k=(AR v1 rs k).length:=by
     rcases O with h|h
     ·exact absurd h hk
     ·exact h.1
    have Zf:=(cx.done Ye).2;rw[ψk (ξq Ye.symm)];obtain⟨tt,Xk⟩:∃tt:Nat,(tt:Int)=c.to+AH v1 (AR v1 rs k):=⟨((c.to:Int)+AH v1 (AR v1 rs k)).toNat,by omega⟩;have Zw:tt=c.to+sizes L:=Ω
    rw[<-Xk]at c2⊢;have e0:decide ((tt:Int)<(tt:Int))=false:=ζ Ω;have Xy:Xj.pl.pg=v.pl.pg:=Y.o.st.cp.sm.pg.trans Yy.o.pg;have Za:=ι (λ(W:World) (g':Gr wr W)=>IQ (Y.o.cat.vm.gr g'));rw[Xy]at Za;have Zi:=ι (ξ Ye (ξ Zf Zw));have Jp:Hid (Rec wr (M+1) 209 [pP q,.map (some M),iI tt]):=⟨by have:=Y.o.cat.rc;rw[<-Xk]at this;exact this⟩;obtain⟨pg,Xg⟩:∃pg,pg=v.pl.pg:=⟨_,rfl⟩;have Yc:=ι Xg;have Zj:=Yz.af;have htp:=Yz.tp;have htpn:=Yz.tn;rw[<-Xg]at Za Jt Zj Jv;obtain⟨q0,Xu⟩:∃q0,q0=c.fr/pg:=⟨_,rfl⟩
    have Yp:q0*pg=c.fr:=by
     have:=ζu c.fr pg;rw[Zj,ζT]at this;rw[Xu];omega
    have Ze:=ι Xu;have g1:((c.fr:Int).tdiv (pg:Int))=(q0:Int):=by rw[Xu];rfl
    have g2:((c.fr:Int)/(pg:Int))=(q0:Int):=by rw[Xu];rfl
    have hpg0:(pg:Int)≠0:=Ω
    have hq0n:q0<=524288:=by have:=ζ3 c.fr pg;omega
    have Jd:=ι Yp;have V:=Yx.o _ _ Y.o.t (Gr.refl _);obtain⟨u0,u1,ul⟩:=V.k2;have Jf:Hid (UmI W3 wr (AD (plus (AD S w) w1) w2) (M+1) M q r g Xj Ys tt q0 0 pg c.tp):=⟨Y.o.t,⟨Zh,Y.o.sub,Y.o.cat.vm,Y.o.cat.nK⟩,Jp.o,Y.o.rt,λi hi=>absurd hi (ζQ _)⟩;have HHK:=ι hk;have Ju:Hid (Xj.pl.pg=pg):=⟨by rw[Xy,Xg]⟩;clear V cx fo O Xp Zg Zp Xq Zs hk Ye Zf Xk Zw Xg Xu Xy Yp Jo Yn;go_upto_region 12 with(fail);obtain⟨Sx,J⟩:∃Sx:World->Prop,Sx=λW'=>W'.cell? ⟨w.heap.size,0,none⟩=some (iI c.fr):=⟨_,rfl⟩;have x1:∀p':AA Sx,p'.w.cell? ⟨w.heap.size,0,none⟩=some (iI c.fr):=λp=>AA.get J p;have Z:Sx wr.drew:=by rw[J];exact u0
    have Jh:=ι J;have D:Inhabited (AA Sx):=⟨⟨_,Z⟩⟩;clear J;refine AW Sx 6 [([0,1,2],3)] [4,5] Z ?_;refine AI ?_;go_wp2_with(go_at_call 138;refine(Za.o _ (Gr.refl wr).drew).mono ?_;rintro e w5 ⟨rfl,rfl⟩);refine⟨.inr (AA.of Z),?_⟩;refine BH ?_;clear x1 Z D;clear Jh Sx;go_wp2
    go_loopw [13] (λs13 wx=>∃j:Nat,Hid (UmI W3 wx (AD (plus (AD S w) w1) w2) (M+1) M q r g Xj Ys tt q0 j pg c.tp)/\s13=iI ((q0+j:Nat):Int)) (λs13 _=>c.tp-(intOf s13).toNat*pg)
    case atStart=>exact⟨0,⟨Jf.o.gr (Gr.refl wr).drew⟩,rfl⟩
    case round=>
     obtain⟨j,HU,rfl⟩:=hrel;clear u0 u1 ul c2;obtain⟨Sj,Zl,Yt,Zq⟩:=HU.o.vm;have V:=Yx.o _ _ HU.o.t (Gr.refl _);have u1:=V.cc 1;have Zb:=IQ (Yt.gr (Gr.refl wr).drew);rw[(LU Xj q0 j).2.1,Ju.o]at Zb;have Yo:=ι Zb;have Jc:=ι Yt;have Xb:=ι (ξ Zl Zq);obtain⟨qq,Xs⟩:∃qq,qq=q0+j:=⟨_,rfl⟩;obtain⟨pp,Xl⟩:∃pp,pp=qq*pg:=⟨_,rfl⟩
     have hppb:pp<=1048576:=by
      rcases ζE j with h0|h0
      ·rw[Xl,Xs,h0,ξk,Jd.o];omega
      ·have:=HU.o.q1 (j-1) Ω;have e:pp=(q0+(j-1))*pg+pg:=by rw[Xl,Xs,show q0+j=(q0+(j-1))+1 by omega,ξf,ξA]
       omega
     have hqb:qq<=pp:=by rw[Xl];exact ξ1 _ Ω
     have hmul:((qq:Int)*(pg:Int))=(pp:Int):=by rw[Xl];push_cast;rfl
     have Xd:=ι (ξ Xs Xl);rw[<-Xs];clear V Zb Yt Zl Zq Xs Xl;by_cases O:pp<c.tp
     ·have e1:decide ((pp:Int)<(c.tp:Int))=true:=φ Ω;have e2:decide (pp<c.tp)=true:=φ O;have Yg:=ι O;have Jq:=ι (λ(W:World) (g':Gr wr W)=>M3 (Jc.o.gr g') (qq:Int));clear O;go_upto_region 13 with(fail);obtain⟨Sx,J⟩:∃Sx:World->Prop,Sx=λW'=>W'.cell? ⟨w.heap.size,1,none⟩=some (iI c.tp):=⟨_,rfl⟩;have x1:∀p':AA Sx,p'.w.cell? ⟨w.heap.size,1,none⟩=some (iI c.tp):=λp=>AA.get J p;have Z:Sx wr.drew:=by rw[J];exact u1
      have D:Inhabited (AA Sx):=⟨⟨_,Z⟩⟩;clear J;refine AW Sx 7 [([0,1,4,5],2)] [3,6] Z ?_;refine AI ?_;go_wp2_with(go_at_call 138;refine Yo.o.mono ?_;rintro e w5 ⟨rfl,rfl⟩);refine⟨.inr (AA.of Z),?_⟩;refine BH ?_;clear x1 Z D;clear Sx;go_wp2_with(go_at_call 139;refine(Jq.o _ (Gr.refl wr).drew).mono ?_;rintro e w5 ⟨rfl,Yb,Zt⟩;have Xm:=ι Yb;have Jl:=ι Zt;clear Yb Zt);go_round
      case rel=>
       have Jz:=HU.o.t.size;refine⟨j+1,⟨⟨?_,⟨plus Sj wr.drew,λb hb=>?_,?_,λh=>?_⟩,?_,?_,λi hi=>?_⟩⟩,?_⟩
       ·refine(HU.o.t.trans ((Gr.refl wr).drew.touch _)).trans' Xm.o (λb hb h=>?_);exact(Xb.o.1 b h).elim (λh=>.inr (.inr h)) (λh=>by omega)
       ·rcases hb with h|h
        ·exact Xb.o.1 b h
        ·right;exact χ Jz h
       ·have:=Jl.o;rw[Xd.o.1]at this;exact this
       ·rcases h with h|h
        ·exact Xb.o.2 h
        ·have:=HU.o.rc.lt;exact absurd this (ξe h)
       ·exact(HU.o.rc.gr (Gr.refl wr).drew).touch Xm.o Xb.o.2
       ·refine(HU.o.rt.gr (Gr.refl wr).drew).touch Xm.o (λh=>?_) (λh=>?_)
        ·exact(Xb.o.1 _ h).elim U.o.rS (λh=>by have:=U.o.r3;omega)
        ·exact(Xb.o.1 _ h).elim U.o.gS (λh=>by have:=U.o.g3;omega)
       ·rcases υ i j with h|h
        ·exact HU.o.q1 i h
        ·obtain rfl:i=j:=Ω
         rw[<-Xd.o.1,<-Xd.o.2];exact Yg.o
       ·rw[show q0+(j+1)=qq+1 by rw[Xd.o.1];omega]
        go_num
      case measure=>
       have h1:=Yg.o;have h2:=Xd.o.2;simp only[intOf];rw[show ((qq:Int)+1).toNat=qq+1 by omega,δ,ξf,ξA,<-h2];omega
     ·have e1:decide ((pp:Int)<(c.tp:Int))=false:=ζ Ω;have e2:decide (pp<c.tp)=false:=ζ O;have Yg:=ι O;have c2:=HU.o.rc.cc 2;have c2l:=HU.o.rc.lt;clear O;go_upto_region 13 with(fail);obtain⟨Sx,J⟩:∃Sx:World->Prop,Sx=λW'=>W'.cell? ⟨w.heap.size,1,none⟩=some (iI c.tp):=⟨_,rfl⟩;have x1:∀p':AA Sx,p'.w.cell? ⟨w.heap.size,1,none⟩=some (iI c.tp):=λp=>AA.get J p;have Z:Sx wr.drew:=by rw[J];exact u1
      have D:Inhabited (AA Sx):=⟨⟨_,Z⟩⟩;clear J;refine AW Sx 7 [([0,1,4,5],2)] [3,6] Z ?_;refine AI ?_;go_wp2_with(go_at_call 138;refine Yo.o.mono ?_;rintro e w5 ⟨rfl,rfl⟩);refine⟨.inr (AA.of Z),?_⟩;refine BH ?_;clear x1 Z D;clear Sx;go_wp2;go_ret2;have hz3:=Yl.o.size;have Js:AB (λb=>b=g\/S b) w W3:=(((Xe.touch _).trans (Yi.mono (λi _ h=>.inr h.1))).trans (Xn.o.mono (λi _ h=>.inr h.1))).trans (Yl.o.touch _);have hE:=HE.o;rw[Xw.o]at hE;refine⟨L,Yd,?_,.inr ⟨hE.symm,?_,v1,Xj,k,j,⟨Yy.o,Xz.o.1,Xz.o.2,Zi.o.1,Y.o.st,?_,?_⟩,?_,?_⟩⟩
      ·refine(Js.trans' HU.o.t (λb hb h=>?_)).trans ((Gr.refl wr).drew.touch _);rcases h with h|h|h
       ·exact .inl h
       ·omega
       ·exact(Zk.o b h).1.elim .inr (λh=>by omega)
      ·rw[<-Zi.o.2.2];exact BG rfl rfl
      ·intro i hi;rw[<-Yc.o,<-Ze.o];exact HU.o.q1 i hi
      ·rw[<-Yc.o,<-Ze.o,<-Xd.o.1,<-Xd.o.2];have:=Yg.o;omega
      ·rw[<-Yc.o,<-Ze.o];refine(Jc.o.gr (Gr.refl wr).drew).mono (λb hb=>?_);exact(Xb.o.1 b hb).elim (λh=>(Zk.o b h).1) (λh=>.inr Ω)
      ·rw[<-Y.o.oe];exact HU.o.rt.gr (Gr.refl wr).drew
 ·have d0:(E !=0)=true:=by simpa using Yf
  go_wp2_with(go_at_call 117;refine Yv.o.mono ?_;rintro e w2 ⟨rfl,Xa,Xo⟩;have Xn:=ι Xa;have Zc:=ι Xo;clear Xa Xo);go_ret2;refine⟨L,Yd,?_,.inl ⟨?_,?_,?_,?_⟩⟩
  ·exact(((Xe.touch _).trans (Yi.mono (λi _ h=>.inr h.1))).trans (Xn.o.mono (λi _ h=>.inr h.1)))
  ·rw[<-Xw.o,<-HE.o];exact Yf
  ·rw[<-Xw.o,<-HE.o];exact BG rfl rfl
  ·have hF:BO v c.to ((c.to+nn:Nat):Int)=[]:=by unfold BO;rw[ψ (λh=>Yf (HE.o.trans h.1))]
   obtain⟨v',hg,hv⟩:=Zc.o;rw[hF]at hg;have:=Yi.size;exact⟨v',hg,hv.mono (λb hb=>hb.elim (λh=>.inl h.1) (λh=>.inr Ω))⟩
  ·exact Yw.o.touch Xn.o (λh=>I.2.1 h.1) (λh=>I.2.2 h.1)
end
end Go.Proofs.YtggjoonlcjjgkaaGreatDoor
