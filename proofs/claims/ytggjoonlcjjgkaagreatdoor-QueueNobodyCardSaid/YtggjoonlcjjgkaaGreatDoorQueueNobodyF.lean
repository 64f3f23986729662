/- Part 6 of what QueueNobody leans on: my own lemmas, merged by shake.py. -/
import Derived.Test.YtggjoonlcjjgkaaGreatDoorQueueNobodyE
import Derived.Deep.LoopGhost
namespace Go.Proofs.YtggjoonlcjjgkaaGreatDoor
open _root_.Go.Proofs.Tryz
set_option maxHeartbeats 6400000
set_option maxRecDepth 100000
open Go.RowKit
variable{lb:Array Value}{b lost':Bool}{a r vi:Int}{X:Int->Prop}{O l rs st':List Int}{L:List Ob}{s:MkS}{K M R b12 b5 cp f g j k m n q to:Nat}{G S S3 SV SW:Nat->Prop}{A:Option Addr}{z:Sp}{α σ:Type}{u u':Value}{v v1:Vm}{w w' w3:World}
section
variable{F:Fence}{P:Program}
def UH(K:Nat)(F:Fence)(n:Nat)(P:Program)(g:Nat)(lb:Array Value)(encs:α->Array Value)(Inv:σ->World->Prop)(gives:σ->α->Prop)(next:σ->α->σ->Prop)(fin:σ->Prop)(s0:σ)(w:World):Prop:=
 ∀(l:Nat) (J:σ->World->Prop) (Jx:World->Prop) (W:World),Gr w W->(∀s A B,J s A->AB (λk=>W.heap.size<=k/\k<W.heap.size+K) A B->J s B)->(∀A B,Jx A->AB (λk=>W.heap.size<=k/\k<W.heap.size+K) A B->Jx B)->(∀s A,J s A->Inv s A) →
  (∀s x W1,J s W1->W.heap.size+K<=W1.heap.size->gives s x->YieldAt F (n-1) P l (encs x) W1 λe W'=>((e=.returned (.bool true)/\∃s',next s x s'/\J s' W')\/(e=.returned (.bool false)/\Jx W'))/\AB (λk=>k<W.heap.size\/W.heap.size+K<=k) W1 W') →
  J s0 W->CallsIn F n P g (#[.func (.yield l) #[] #[]]++lb) W λe W'=>(∃v,e=.returned v)/\((∃s,fin s/\J s W')\/Jx W')
def Y3E(B K:Nat)(I:σ->World->Prop)(Ix:Code->World->Prop)(next:σ->α->σ->Prop)(s:σ)(x:α)(W:World):Exit->Act->World->Prop
 | .normal,_,W'=>AB (λk=>k<B\/B+K<=k) W W'/\∃s',next s x s'/\I s' W'
 | .ret,_,W'=>AB (λk=>k<B\/B+K<=k) W W'/\Ix .ret W'
 | .exit id,_,W'=>AB (λk=>k<B\/B+K<=k) W W'/\Ix (.exit id) W'
 | .goto t,_,W'=>AB (λk=>k<B\/B+K<=k) W W'/\Ix (.goto t) W'
 | _,_,_=>False
theorem MD.toU{encs:α->Array Value}{Inv:σ->World->Prop}{gives:σ->α->Prop}{next:σ->α->σ->Prop}{fin:σ->Prop}{s0:σ}(h:MD F n P g lb encs Inv gives next fin s0 w):UH 0 F n P g lb encs Inv gives next fin s0 w:=by
 intro l J Jx W hg hJ Z hI hY h0;refine h l (λs A=>J s A/\W.heap.size<=A.heap.size) Jx W hg (λs A B hs hAB=>⟨hJ s A B hs.1 (hAB.touch _),δ hs.2 hAB.size⟩) (λA B hs hAB=>Z A B hs (hAB.touch _)) (λs A hs=>hI s A hs.1) ?_ ⟨h0,ϑ _⟩ |>.mono ?_
 ·rintro s x W1 ⟨hs,Y⟩ hx;refine(hY s x W1 hs Y hx).mono ?_;rintro e W' ⟨⟨he,s',hn,U⟩|⟨he,hx'⟩,ht⟩
  ·exact .inl ⟨he,s',hn,U,δ Y ht.size⟩
  simp_all
 grind
theorem LD{g:Operand}{ps:Array Tmp}{assign body:Code}{Q:Exit->Act->World->Prop}{a:Act}
  (hro:F.round=none) (h1:1<=n) {gf:Nat}  (hg:a.eval g=.func (.func gf) #[] lb) (hFg:F.fn gf) (eg:∀args w,(callFunc gf args).run P w=.ok (.enter gf args) w)
  {encs:α->Array Value} {Inv:σ->World->Prop} {gives:σ->α->Prop} {next:σ->α->σ->Prop} {fin:σ->Prop} {s0:σ}  (hseq:UH K F (n-1) P gf lb encs Inv gives next fin s0 w)
  (hps:∀x,(encs x).size=ps.size)
  (I:σ->World->Prop) (Ix:Code->World->Prop) (hI:∀s A B,I s A->AB (λk=>w.heap.size<=k/\k<w.heap.size+2+K) A B->I s B) (hIx:∀c A B,Ix c A->AB (λk=>w.heap.size<=k/\k<w.heap.size+2+K) A B->Ix c B)
  (hInv:∀s A,I s A->Inv s A) (h0:I s0 w)
  (hround:∀(l:Nat) (s:σ) (x:α) (W:World),w.heap.size+2+K<=W.heap.size->I s W->gives s x →
   assign.wpIn (F.inRound l) (n-1-1) P (Exit.then (λa' Wa=>Gr W Wa/\∀W2,AB (λk=>k=w.heap.size+1) Wa W2->I s W2->body.wpIn (F.inRound l) (n-1-1) P (Y3E w.heap.size (2+K) I Ix next s x W2) a' W2) (λ_ _ _=>False))
    {tmps:=(ps.zip (encs x)).foldl (λt (p,v)=>t.setIfInBounds p v) a.tmps,defers:=[]} W)
  (hdone:∀(D:Nat) (s:σ) (W:World),D=w.heap.size->fin s->I s W->W.heap[D]?=some (.deferred (some []))->Q .normal {a with defers:={target:=.collected D,args:=#[]} :: a.defers} W)
  (hstop:∀(D:Nat) (c:Code) (W:World),D=w.heap.size->Ix c W->W.heap[D]?=some (.deferred (some []))->c.wpIn F n P Q {a with defers:={target:=.collected D,args:=#[]} :: a.defers} W):
  (Code.rangeFunc g ps assign body).wpIn F n P Q a w:=by
 refine wpIn_rangeFunc ?_;intro fn Xn;rw[hro];obtain⟨Z,U⟩:∃Z:LoopState->Option Code->Loop,Z=λst pe=>{state:=st,pending:=pe,fn,tmps:=a.tmps,params:=ps,assign,body,defers:=w.heap.size}:=⟨_,rfl⟩;obtain⟨W1,Xc⟩:∃W1,(w.alloc (.deferred (some []))).alloc (.loop (Z .ready none))=W1:=⟨_,rfl⟩
 have Xl:W1.heap[w.heap.size+1]?=some (.loop (Z .ready none)):=by
  rw[<-Xc];have:=ξD (w.alloc (.deferred (some []))) (.loop (Z .ready none));rwa [γ]at this
 have Xo:W1.heap[w.heap.size]?=some (.deferred (some [])):=by
  rw[<-Xc];exact(Below.heap_alloc _ _ _ (by simp)).trans (ξD w _)
 have Xg:Gr w W1:=by rw[<-Xc];exact((Gr.refl w).alloc _).alloc _
 have tt:∀{A B:World},Gr A B->AB (λk=>w.heap.size<=k/\k<w.heap.size+2+K) A B:=λh=>h.touch _;have Y:∀{A:World} {k:Nat} {o:Obj},A.heap[k]?=some o->k<A.heap.size:=λh=>(ζn.1 h).1
 refine⟨w.heap.size+1,[{target:=.collected w.heap.size,args:=#[]}],W1,{target:=.fn (.func gf) lb,args:=#[.func (.yield (w.heap.size+1)) #[] #[]]},W1,gf,
  #[.func (.yield (w.heap.size + 1)) #[] #[]] ++ lb, W1, ?_, ?_, ?_, ?_, λ_ => h1, ?_⟩
 ·rw[<-Xc,U];exact run_enterLoop_outer _ _ _ _ _
 ·simp only[resolve,hg];simp[go_sem]
 ·intro f' Xf;simp[Target.leads]at Xf;subst Xf;exact hFg
 ·simp[invoke,go_sem,eg]
 ·have hs1:W1.heap.size=w.heap.size+2:=by rw[<-Xc];simp
  refine(hseq (w.heap.size+1)
   (λs W=>I s W/\W.heap[w.heap.size+1]?=some (.loop (Z .ready none))/\W.heap[w.heap.size]?=some (.deferred (some [])))
   (λW=>∃c,Ix c W/\W.heap[w.heap.size+1]?=some (.loop (Z .done (some c)))/\W.heap[w.heap.size]?=some (.deferred (some [])))
   W1 Xg
   (λs A B hs ht=>⟨hI s A B hs.1 (ht.mono (λk _ h=>by omega)),(ht.block _ (Y hs.2.1) Ω).trans hs.2.1,(ht.block _ (Y hs.2.2) Ω).trans hs.2.2⟩)
   (λA B hs ht=>by
    obtain⟨c,hc,hl,hk⟩:=hs
    exact⟨c,hIx c A B hc (ht.mono (λk _ h=>by omega)),(ht.block _ (Y hl) Ω).trans hl,(ht.block _ (Y hk) Ω).trans hk⟩)
   (λs A hs=>hInv s A hs.1) ?_ ⟨hI _ _ _ h0 (tt Xg),Xl,Xo⟩).mono ?_
  ·rintro s x W ⟨hi,hl,hk⟩ hszW Xm;have Xe:w.heap.size+1<W.heap.size:=Y hl;have hy:=run_yield (P:=P) (args:=encs x) hl (by rw[U];exact hps x);rw[U]at hy;refine⟨fn,_,assign,body,hy,roundIn_of_wpIn Xn (wpIn_mono (hround _ s x W Ω hi Xm) ?_)⟩;rintro e a' Wa hp;cases e with
   | normal=>?_
   | _=>exact False.elim hp
   obtain⟨Xb,V⟩:=hp
   replace hl:=(Xb.block Xe).trans hl
   replace hk:=(Xb.block Ω).trans hk
   replace Xe:=Y hl
   replace hi:=hI _ _ _ hi (tt Xb)
   revert V Xb;generalize W=W0;intro Xb V;obtain⟨W,rfl⟩:∃W,W=Wa:=⟨_,rfl⟩;refine⟨_,run_beginRound hl (by rw[U]),?_⟩;have Xj:(W.putObj (w.heap.size+1) (.loop {Z .ready none with state:=.busy})).heap[w.heap.size+1]?=some (.loop {Z .ready none with state:=.busy}):=ξw Xe;have Xh:(W.putObj (w.heap.size+1) (.loop {Z .ready none with state:=.busy})).heap[w.heap.size]?=some (.deferred (some [])):=(ζm Ω).trans hk;refine wpIn_mono (V _ ⟨rfl,rfl,rfl,by simp,λk _ hn=>ζm hn⟩ (hI _ _ _ hi ((DO W (w.heap.size+1) _).mono (λk _ h=>by omega)))) ?_
   have fin:∀(jump:Option Code) (W3:World),AB (λk=>k<w.heap.size\/w.heap.size+(2+K)<=k) (W.putObj (w.heap.size+1) (.loop {Z .ready none with state:=.busy})) W3 →
     (Instr.endRound (w.heap.size+1) jump).run P W3=.ok (.bool jump.isNone) (W3.putObj (w.heap.size+1) (.loop (Z (if jump.isNone then .ready else .done) jump))) ∧
     (W3.putObj (w.heap.size+1) (.loop (Z (if jump.isNone then .ready else .done) jump))).heap[w.heap.size+1]?=some (.loop (Z (if jump.isNone then .ready else .done) jump)) ∧
     (W3.putObj (w.heap.size+1) (.loop (Z (if jump.isNone then .ready else .done) jump))).heap[w.heap.size]?=some (.deferred (some [])):=λjump W3 J=>by
    have Xi:=(J.block _ (Y Xj) Ω).trans Xj;have:=run_endRound (P:=P) jump Xi;rw[U]at this⊢;exact⟨this,ξw (Y Xi),(ζm Ω).trans ((J.block _ (Y Xh) Ω).trans Xh)⟩
   have Xd:∀(o:Obj) (W3:World),AB (λk=>k<w.heap.size\/w.heap.size+(2+K)<=k) (W.putObj (w.heap.size+1) (.loop {Z .ready none with state:=.busy})) W3->AB (λk=>k<W1.heap.size\/W1.heap.size+K<=k) W0 (W3.putObj (w.heap.size+1) o):=λo W3 h3=>
    (((Xb.touch _).trans ((DO W (w.heap.size+1) _).mono (λk _ h=>by omega))).trans (h3.mono (λk _ h=>by omega))).trans ((DO W3 (w.heap.size+1) o).mono (λk _ h=>by omega))
   rintro e a3 W3 hp;cases e with
   | normal=>
    obtain⟨J,s',Xk,Xa⟩:=hp;obtain⟨hr,E,O⟩:=fin none W3 J;exact⟨_,_,hr,.inl ⟨rfl,s',Xk,hI _ _ _ Xa ((DO W3 (w.heap.size+1) _).mono (λk _ h=>by omega)),E,O⟩,Xd _ _ J⟩
   | ret=>
    obtain⟨J,Xa⟩:=hp;obtain⟨hr,E,O⟩:=fin (some .ret) W3 J;exact⟨_,_,hr,.inr ⟨rfl,.ret,hIx _ _ _ Xa ((DO W3 (w.heap.size+1) _).mono (λk _ h=>by omega)),E,O⟩,Xd _ _ J⟩
   | exit id=>
    obtain⟨J,Xa⟩:=hp;obtain⟨hr,E,O⟩:=fin (some (.exit id)) W3 J;exact⟨_,_,hr,.inr ⟨rfl,.exit id,hIx _ _ _ Xa ((DO W3 (w.heap.size+1) _).mono (λk _ h=>by omega)),E,O⟩,Xd _ _ J⟩
   | goto t=>
    obtain⟨J,Xa⟩:=hp;obtain⟨hr,E,O⟩:=fin (some (.goto t)) W3 J;exact⟨_,_,hr,.inr ⟨rfl,.goto t,hIx _ _ _ Xa ((DO W3 (w.heap.size+1) _).mono (λk _ h=>by omega)),E,O⟩,Xd _ _ J⟩
   | panic ch=>exact hp.elim
   | outgrown=>exact hp.elim
  ·rintro e W2 ⟨⟨v,rfl⟩,(⟨s,hS,hi,hl,hk⟩|⟨c,hi,hl,hk⟩)⟩
   ·exact⟨none,_,by have:=run_endLoop (P:=P) hl (by rw[U];simp);rw[U]at this;exact this,hdone _ s _ rfl hS (hI _ _ _ hi ((DO W2 (w.heap.size+1) _).mono (λk _ h=>by omega))) ((ζm Ω).trans hk)⟩
   ·exact⟨some c,_,by have:=run_endLoop (P:=P) hl (by rw[U];simp);rw[U]at this;exact this,hstop _ c _ rfl (hIx _ _ _ hi ((DO W2 (w.heap.size+1) _).mono (λk _ h=>by omega))) ((ζm Ω).trans hk)⟩
end
open Go.Shelf Word
section
attribute [local go_sem] Oper.semAt_some
theorem OB(n':Nat)(box m p1 b1 p2 b2 n:Nat)(L:List Ob)(w:World):
  UH 4 Fence.wide n' prog 187 #[pP box] GG (Zxj box m p1 b1 p2 b2 n L) (EH L) (λj _ j'=>j'=j+1) (λj=>j=L.length) 0 w:=by
 intro l J Jx W hg hJ Xl hI hY h0;refine π.2 ((π (n:=5)).1 ?_);refine callsIn_of_wp_marks func187 rfl trivial ?_ rfl;have I:=hI _ _ h0;have c0:=I.2.2.1;have k0:=I.1.c0;have Yb:=h0;have Xn:=hI;simp only[ntmps187,ζS,ζz,ζ6,Nat.reduceAdd,Nat.reduceSub,ζJ,ζI,ζX,ζO,ζV,ζq];have hbox:box<W.heap.size:=AT c0;have hmw:=I.1.hm
 gi_wp2_with(first
  | (refine⟨trivial,?_⟩;gi_at_call 122;refine(π.2 (DL (I.1.gr ((Gr.refl W).alloc _)))).mono ?_;rintro e w1 ⟨rfl,rfl⟩)
  | (refine⟨trivial,?_⟩;gi_at_call 188;refine(π.2 (Xig (some ⟨p1,0,none⟩))).mono ?_;rintro e w1 ⟨rfl,rfl⟩))
 obtain⟨W0,E⟩:∃W0,W0=(W.alloc (.cells #[.func (.yield l) #[] #[]] 118)).alloc (.cells #[.pointer (some ⟨p1,0,none⟩)] 150):=⟨_,rfl⟩;have Xx:Gr W W0:=by rw[E];exact((Gr.refl W).alloc _).alloc _
 have hsz0:W0.heap.size=W.heap.size+2:=by rw[E];simp
 have bY:W0.cell? ⟨W.heap.size,0,none⟩=some (.func (.yield l) #[] #[]):=by rw[E];exact((Boxed.new W _ _).alloc _).cell
 have bV:W0.cell? ⟨W.heap.size+1,0,none⟩=some (pP p1):=by
  rw[E];have:=Boxed.new (W.alloc (.cells #[.func (.yield l) #[] #[]] 118)) 150 (pP p1);rw[γ]at this;exact this.cell
 rw[<-E];have Y:=I.1.good;have hnb:=I.1.nb;have Xq:J 0 W0:=hJ _ _ _ Yb (Xx.touch _);have Xu:A4 L ((0:Nat):Int)=0:=LP (ζg _) (λi hi h=>by omega) (λh=>by omega)
 have tI:∀s A B,LV n L J W.heap.size (W.heap.size+1) p1 (.func (.yield l) #[] #[]) s A->AB (λk=>W0.heap.size<=k/\k<W0.heap.size+2+0) A B->LV n L J W.heap.size (W.heap.size+1) p1 (.func (.yield l) #[] #[]) s B:=λs A B h t=>
  ⟨h.st,h.ps,by obtain⟨j,hj,e⟩:=h.j;exact⟨j,hJ _ _ _ hj (t.mono (λk _ h=>by omega)),e⟩,(t.cell (AT h.y) (by show ¬(W0.heap.size<=W.heap.size/\_);omega) 0).trans h.y,(t.cell (AT h.v) (by show ¬(W0.heap.size<=W.heap.size+1/\_);omega) 0).trans h.v⟩
 refine LD (K:=0) (s0:=(BV n L,0)) rfl Ω (gf:=217) (lb:=#[pP (W.heap.size+1)]) rfl trivial (enters_of func217 (by kernel_rfl) rfl)
  (ZNp _ (W.heap.size+1) p1 b1 n (BV n L) _).toU (λ_=>rfl)
  (LV n L J W.heap.size (W.heap.size+1) p1 (.func (.yield l) #[] #[])) (λc A=>c=.ret/\Jx A) tI (λc A B h t=>⟨h.1,Xl _ _ h.2 (t.mono (λk _ h=>by omega))⟩)
  (λs A h=>by
   obtain⟨j,hj,-⟩:=h.j;have hi:=Xn _ _ hj
   exact⟨by rw[h.st];exact hi.1.v1,by rw[h.st,H9],hi.2.1,h.v,h.ps⟩)
  ⟨rfl,ζg _,⟨0,Xq,Xu⟩,bY,bV⟩ ?round ?done ?stop
 case round=>
  intro lp s x W3 hsz3 Xg Xy;gi_wp2;refine⟨Gr.refl _,λW4 ht4 hI4=>?_⟩;obtain⟨O,Xp,⟨j,hj,U⟩,hy,hv⟩:=hI4;obtain⟨hx,Xr⟩:=Xy;have Xb:=Xn _ _ hj;rw[O]at hx Xr
  have Z:j<L.length:=by
   rcases υ j L.length with h|h
   ·exact h
   ·have:=VS Y (a:=(s.2:Int)) (by rw[U];omega);omega
  have Xz:x=L[j].1:=by
   have:=(MU Y (a:=(s.2:Int)) (by rw[U];exact Z)).1;rw[hx,this];congr 2
  subst Xz;have Ya:J j W4.drew:=hJ _ _ _ hj ((Gr.refl W4).drew.touch _);have Xh:W.heap.size+4<=W4.drew.heap.size:=by have:=ht4.size;show W.heap.size+4<=W4.heap.size;omega
  obtain⟨fn,tmps,assign,body,Xv,hR⟩:=ZVe (m':=2) (l2:=lp) (hY j L[j] W4.drew Ya Xh (η Z));have HZ:=(PV (Xb.1.gr (Gr.refl W4).drew) ((Gr.refl W4).drew.tab Xb.2.1.lt Xb.2.1) Z);have cbx:=Xb.2.2.1;have HS:=(ξ O (ξ U Z));clear O U hj Xb hx Xr Xg;dsimp only[GG]at Xv
  have Xm:=hR.mono (R':=λe W'=>∃bb:Bool,e=.returned (.bool bb)/\((bb=true/\J (j+1) W')\/(bb=false/\Jx W'))/\AB (λk=>k<W.heap.size\/W.heap.size+4<=k) W4.drew W') (by
   rintro e W' ⟨⟨he,s',rfl,Xs⟩|⟨he,hx⟩,ht⟩
   ·exact⟨true,he,.inl ⟨rfl,Xs⟩,ht⟩
   ·exact⟨false,he,.inr ⟨rfl,hx⟩,ht⟩)
  clear hR;gi_wp2;obtain⟨Sx,Xc⟩:∃S:World->Prop,S=λA=>A.cell? ⟨W.heap.size,0,none⟩=some (.func (.yield l) #[] #[]):=⟨_,rfl⟩;have x1:∀p:AA Sx,p.w.cell? ⟨W.heap.size,0,none⟩=some (.func (.yield l) #[] #[]):=λp=>AA.get Xc p;have Xa:Sx W4.drew:=by rw[Xc];exact hy
  have Xj:=ι Xc;clear Xc;have Xk:Inhabited (AA Sx):=⟨⟨_,Xa⟩⟩;refine F5 Sx 7 [([0,1,3],2),([],4),([],5)] [6] (λ_=>trivial) Xa ?_;refine DN ?_;gi_wp2;refine⟨.inr (AA.of Xa),?_⟩;refine M6 ?_;simp only[AF,μ,ν];refine ζb ?_;gi_wp2_with(refine⟨trivial,?_⟩;gi_at_call 189;refine(CallsIn.inRound lp (π.2 HZ)).mono ?_;rintro e w' ⟨rfl,rfl⟩);refine⟨.inr (AA.of Xa),?_⟩;refine M6 ?_;simp only[AF,μ,ν];refine ζb ?_;gi_wp2;refine Xm.mono ?_;rintro e W5 ⟨bb,rfl,Xe,Xd⟩;have Xi:=(Xd.cell (AT hy) (by show ¬(W.heap.size<W.heap.size\/W.heap.size+4<=W.heap.size);omega) 0).trans hy;have Xt:=(Xd.cell (AT hv) (by show ¬(W.heap.size+1<W.heap.size\/W.heap.size+4<=W.heap.size+1);omega) 0).trans hv;gi_wp2;refine⟨.inr (AA.of (by rw[Xj.o];exact Xi)),?_⟩;refine FY ?_;have T5:=(((Gr.refl W4).drew.touch (λk=>k<W0.heap.size\/W0.heap.size+(2+0)<=k)).trans (Xd.mono (λk _ h=>by omega)));have Xw:=(Y.sz _ (κ Z));clear x1 Xa Xj Xk Xm Xd;clear Sx;cases bb with
  | true=>
   have Xf:J (j+1) W5:=by
    rcases Xe with⟨_,h⟩|⟨h,_⟩
    ·exact h
    ·cases h
   clear Xe;gi_wp2;exact⟨T5,(BV n L,L[j].1+1),rfl,rfl,by have:=Xw;show L[j].1+1<=n;omega,⟨j+1,Xf,by have:=ZjB Y Z;push_cast;exact this⟩,Xi,Xt⟩
  | false=>
   have Xf:Jx W5:=by
    rcases Xe with⟨h,_⟩|⟨_,h⟩
    ·cases h
    ·exact h
   clear Xe;gi_wp2;exact⟨T5,rfl,Xf⟩
 case done=>
  rintro D s W3 hD V Xg hK;obtain⟨O,Xp,⟨j,hj,U⟩,hy,hv⟩:=Xg
  have Z:¬j<L.length:=λh=>by
   have:=MU Y (a:=(s.2:Int)) (by rw[U];exact h);unfold TU at V;rw[O]at V;exact V this.2
  have Xo:j=L.length:=by have:=NQ L (s.2:Int);omega
  have HE:=(ξ Xo hj);have HD:=hD;clear O Xp U hy hv V Xo hj hD Z;gi_wp2;refine⟨by simp,.inl ⟨_,_,rfl,run_takeDeferred hK,?_⟩⟩;refine⟨.tuple #[],ζk rfl _ _ _,⟨_,rfl⟩,.inl ⟨j,HE.1,hJ _ _ _ HE.2 ((DO W3 D _).mono (λk _ h=>by have:=HD;omega))⟩⟩
 case stop=>
  rintro D c W3 hD ⟨rfl,hx⟩ hK;have hK:=hK;have HD:=hD;clear hK hD;gi_wp2;refine⟨by simp,.inl ⟨_,_,rfl,run_takeDeferred hK,?_⟩⟩;refine⟨.tuple #[],ζk rfl _ _ _,⟨_,rfl⟩,.inr (Xl _ _ hx ((DO W3 D _).mono (λk _ h=>by have:=HD;omega)))⟩
end
structure MkC where
 k:Nat
 z:Sp
 m:Nat
 p1:Nat
 b1:Nat
 p2:Nat
 b2:Nat
 n:Nat
 g:Nat
 R:Nat
 wk:Nat
 B:Nat
variable{c:MkC}
def MkC.T(c:MkC)(G:Nat->Prop)(i:Nat):Prop:=i=c.k\/AS c.m c.b1 c.b2 i\/G i
structure DC(c:MkC)(SV G SW:Nat->Prop):Prop where
 sv':∀i,SV i->i<c.B/\¬c.T G i
 sw':∀i,SW i->i<c.B/\¬c.T G i
 tab':1<c.B/\¬c.T G 1
 p1':c.p1<c.B/\¬c.T G c.p1
 p2':c.p2<c.B/\¬c.T G c.p2
 k1:¬AS c.m c.b1 c.b2 c.k
 k2:¬G c.k
 kB:c.k<c.B
 mg:∀i,AS c.m c.b1 c.b2 i->¬G i
 mB:∀i,AS c.m c.b1 c.b2 i->i<c.B
 sd':∀i,c.z.D i->i<c.B/\¬c.T G i
theorem DC.sv(h:DC c SV G SW):∀i,SV i->¬c.T G i:=λi hi=>(h.sv' i hi).2
theorem DC.sw(h:DC c SV G SW):∀i,SW i->¬c.T G i:=λi hi=>(h.sw' i hi).2
theorem DC.sd(h:DC c SV G SW):∀i,c.z.D i->¬c.T G i:=λi hi=>(h.sd' i hi).2
theorem MkC.vm(hz:c.z.Ok)(hs:DC c SV G SW){T':Nat->Prop}(h:c.z.I v SV w)(t:AB T' w w')(hT:∀i,T' i->c.T G i):c.z.I v SV w':=hz.fr h t (λk _ hk=>⟨λh=>hs.sv k h (hT k hk),λh=>hs.sd k h (hT k hk)⟩) (λ_ h=>h)
theorem DC.tab(h:DC c SV G SW):¬c.T G 1:=h.tab'.2
theorem DC.p1(h:DC c SV G SW):¬c.T G c.p1:=h.p1'.2
theorem DC.p2(h:DC c SV G SW):¬c.T G c.p2:=h.p2'.2
theorem DC.plus(h:DC c SV G SW){w:World}(hw:c.B<=w.heap.size):DC c SV (plus G w) SW:=by
 have Y:∀i,i<c.B/\¬c.T G i->i<c.B/\¬c.T (Go.Proofs.YtggjoonlcjjgkaaGreatDoor.plus G w) i:=λi hi=>⟨hi.1,λht=>by
  rcases ht with h1|h1|h1|h1
  ·exact hi.2 (.inl h1)
  ·exact hi.2 (.inr (.inl h1))
  ·exact hi.2 (.inr (.inr h1))
  ·omega⟩
 exact⟨λi hi=>Y i (h.sv' i hi),λi hi=>Y i (h.sw' i hi),Y _ h.tab',Y _ h.p1',Y _ h.p2',h.k1,λh1=>h1.elim h.k2 (λh2=>by have:=h.kB;omega),h.kB,λi hi h1=>h1.elim (h.mg i hi) (λh2=>by have:=h.mB i hi;omega),h.mB,λi hi=>Y i (h.sd' i hi)⟩
def IX(c:MkC)(L:List Ob)(r vi:Int):List Value:=[c.z.v,pP c.m,pP c.g,pP c.wk,iI (L.length:Nat),iI (sizes L:Nat),iI r,iI vi]
structure A1(w:World)(SV G SW:Nat->Prop)(c:MkC)(v:Vm)(s:MkS)(r vi:Int):Prop where
 vm:c.z.I v SV w
 ext:Ext w c.m c.p1 c.b1 c.p2 c.b2 c.n s.L
 stk:BY w G c.g s.st c.R s.lost
 wk:CP w SW c.wk c.z.v []
 row:Rec w c.k 161 (IX c s.L r vi)
 tab:AP w
 sep:DC c SV G SW
 bB:c.B<=w.heap.size
 zk:c.z.Ok/\¬c.z.M
theorem A1.gr(h:A1 w SV G SW c v s r vi)(g:Gr w w'):A1 w' SV G SW c v s r vi:=
 ⟨h.zk.1.gr h.vm g,h.ext.gr g,h.stk.gr g,h.wk.gr g,h.row.gr g,g.tab h.tab.lt h.tab,h.sep,δ h.bB g.size,h.zk⟩
theorem A1.set(h:A1 w SV G SW c v s r vi){r' vi':Int}(hj:(IX c s.L r vi).set j u=IX c s.L r' vi'):A1 (w.setCell ⟨c.k,j,none⟩ u) SV G SW c v s r' vi':=by
 have t:AB (λi=>i=c.k) w (w.setCell ⟨c.k,j,none⟩ u):=(AB.refl (λi=>i=c.k) w).setCell (a:=⟨c.k,j,none⟩) (λ_=>rfl) u;have hs:=h.sep;refine⟨MkC.vm h.zk.1 hs h.vm t (λi e=>.inl e),?_,h.stk.touch t (λi hi _ e=>hs.k2 (e▸hi)),h.wk.touch t (λi hi _ e=>hs.sw i hi (.inl e)),hj▸h.row.set j u,t.tab h.tab.lt (λe=>hs.tab (.inl e)) h.tab,hs,δ h.bB t.size,h.zk⟩;exact h.ext.touch t (λe=>hs.k1 (e▸.inl rfl)) (λe=>hs.p1 (.inl e)) (λe=>hs.k1 (e▸.inr (.inl rfl))) (λe=>hs.p2 (.inl e)) (λe=>hs.k1 (e▸.inr (.inr rfl)))
theorem OC(j:Nat)(u:Value):AB (c.T G) w (w.setCell ⟨c.k,j,none⟩ u):=(AB.refl _ w).setCell (a:=⟨c.k,j,none⟩) (λ_=>.inl rfl) u
def CM(w:World)(SV G SW:Nat->Prop)(c:MkC)(v:Vm)(P:MkS->Int->Int->Prop)(N:Prop)(e:Ending)(w':World):Prop:=
 AB (c.T G) w w'/\((e=.returned (.tuple #[])/\∃s r vi,A1 w' SV (plus G w) SW c v s r vi/\P s r vi)\/(e=.panicked [{v:=GW 25 0,recovered:=false}]/\N/\∃s r vi,A1 w' SV (plus G w) SW c v s r vi))
section
variable{P:MkS->Int->Int->Prop}{N:Prop}
theorem A1.sub{G':Nat->Prop}(h:A1 w SV G SW c v s r vi)(hg:∀i,G i->G' i)(hs:DC c SV G' SW):A1 w SV G' SW c v s r vi:=⟨h.vm,h.ext,h.stk.mono hg,h.wk,h.row,h.tab,hs,h.bB,h.zk⟩
theorem A1.up(h:A1 w' SV G SW c v s r vi)(hw:c.B<=w.heap.size):A1 w' SV (plus G w) SW c v s r vi:=h.sub (λ_ h=>.inl h) (h.sep.plus hw)
theorem A1.back{w0:World}(h:A1 w' SV (plus (plus G w0) w) SW c v s r vi)(hz:w0.heap.size<=w.heap.size)(hs:DC c SV G SW)(hw:c.B<=w0.heap.size):A1 w' SV (plus G w0) SW c v s r vi:=
 h.sub (λ_ h=>h.elim id (λh=>.inr (δ hz h))) (hs.plus hw)
theorem IF{a b d:World}(h:AB (c.T G) a b)(k:AB (c.T (plus G a)) b d):AB (c.T G) a d:=
 h.trans' k (λi hi ht=>by
  rcases ht with h1|h1|h1|h1
  ·exact .inl h1
  ·exact .inr (.inl h1)
  ·exact .inr (.inr h1)
  ·omega)
theorem CM.ok(t:AB (c.T G) w w')(h:A1 w' SV (plus G w) SW c v s r vi)(p:P s r vi):CM w SV G SW c v P N (.returned (.tuple #[])) w':=⟨t,.inl ⟨rfl,s,r,vi,h,p⟩⟩
theorem CM.no(t:AB (c.T G) w w')(h:A1 w' SV (plus G w) SW c v s r vi)(n:N):CM w SV G SW c v P N (.panicked [{v:=GW 25 0,recovered:=false}]) w':=⟨t,.inr ⟨rfl,n,s,r,vi,h⟩⟩
end
theorem VEk(L:List Ob)(o:Ob):sizes (DB L o)=sizes L+o.2:=by
 induction L with
 | nil=>simp[DB,sizes]
 | cons q t ih=>
  unfold DB
  split
  ·simp only[sizes];omega
  ·simp only[sizes,ih];omega
theorem Jqz(h:AO n L)(ha:Hs L a):AZ L a<L.length/\obS L (AZ L a)=a:=by
 obtain⟨o,ho,rfl⟩:=ha;obtain⟨j,hj,rfl⟩:=ζo ho;have hz:=(h.sz _ ho).1;rw[NZ h hj (ψs _) Ω]
 grind [JH]
theorem Z8n(hn:¬Hs L a)(hf:AZ L a<L.length):obS L (AZ L a)≠a:=by
 rw[(JH hf).1];exact λe=>hn ⟨_,κ hf,e⟩
theorem BY.set2{i:Nat}(h:BY w G g l R b)(hk:¬G k):BY ((w.setCell ⟨k,i,none⟩ u).setCell ⟨k,j,none⟩ u') G g l R b:=
 (h.touch ((AB.refl (λx=>x=k) w).setCell (a:=⟨k,i,none⟩) (λ_=>rfl) u) (λ_ hx _ e=>hk (e▸hx))).touch ((AB.refl (λx=>x=k) _).setCell (a:=⟨k,j,none⟩) (λ_=>rfl) u') (λ_ hx _ e=>hk (e▸hx))
theorem VNW{z:Int}(he:C4 L c.n a z=0):((IX c L r vi).set 4 (iI ((L.length:Nat)+1))).set 5 (iI ((sizes L:Nat)+z))=IX c (CW L c.n a z) r vi:=by
 have hz:=(YLm he).1;have h1:=ZoS he;have h2:sizes (CW L c.n a z)=sizes L+z.toNat:=by unfold CW;rw[θ he,VEk]
 unfold IX
 grind
theorem A1.pushed{w4 w5:World}(h:A1 w SV G SW c v s r vi){L':List Ob}(t4:AB (AS c.m c.b1 c.b2) w w4)(x4:Ext w4 c.m c.p1 c.b1 c.p2 c.b2 c.n L')
  (t5:AB G ((w4.setCell ⟨c.k,4,none⟩ u).setCell ⟨c.k,5,none⟩ u') w5) (s5:BY w5 (plus G ((w4.setCell ⟨c.k,4,none⟩ u).setCell ⟨c.k,5,none⟩ u')) c.g st' c.R lost') (hm:((IX c s.L r vi).set 4 u).set 5 u'=IX c L' r vi):
  A1 w5 SV (plus G w) SW c v ⟨L',st',lost'⟩ r vi/\AB (c.T G) w w5:=by
 have hs:=h.sep
 have tk:AB (λi=>i=c.k) w4 ((w4.setCell ⟨c.k,4,none⟩ u).setCell ⟨c.k,5,none⟩ u'):=
  ((AB.refl (λi=>i=c.k) w4).setCell (a:=⟨c.k,4,none⟩) (λ_=>rfl) u).setCell (a:=⟨c.k,5,none⟩) (λ_=>rfl) u'
 have hz:w.heap.size<=((w4.setCell ⟨c.k,4,none⟩ u).setCell ⟨c.k,5,none⟩ u').heap.size:=δ t4.size tk.size;have Y:¬G c.k:=hs.k2
 refine⟨⟨MkC.vm h.zk.1 hs (MkC.vm h.zk.1 hs (MkC.vm h.zk.1 hs h.vm t4 (λi e=>.inr (.inl e))) tk (λi e=>.inl e)) t5 (λi e=>.inr (.inr e)),?_,s5.mono (λi hi=>hi.imp id (λh'=>δ hz h')),((h.wk.touch t4 (λi hi _ e=>hs.sw i hi (.inr (.inl e)))).touch tk (λi hi _ e=>hs.sw i hi (.inl e))).touch t5 (λi hi _ e=>hs.sw i hi (.inr (.inr e))),
   (hm▸((h.row.touch t4 hs.k1).set 4 u).set 5 u').touch t5 Y,?_,hs.plus h.bB,δ h.bB (δ hz t5.size),h.zk⟩,?_⟩
 ·have e1:=x4.touch tk (λe=>hs.k1 (e▸.inl rfl)) (λe=>hs.p1 (.inl e)) (λe=>hs.k1 (e▸.inr (.inl rfl))) (λe=>hs.p2 (.inl e)) (λe=>hs.k1 (e▸.inr (.inr rfl)));exact e1.touch t5 (hs.mg _ (.inl rfl)) (λe=>hs.p1 (.inr (.inr e))) (hs.mg _ (.inr (.inl rfl))) (λe=>hs.p2 (.inr (.inr e))) (hs.mg _ (.inr (.inr rfl)))
 ·have a1:=t4.tab h.tab.lt (λe=>hs.tab (.inr (.inl e))) h.tab;have a2:=tk.tab a1.lt (λe=>hs.tab (.inl e)) a1;exact t5.tab a2.lt (λe=>hs.tab (.inr (.inr e))) a2
 ·exact((t4.mono (λi _ hi=>.inr (.inl hi))).trans (tk.mono (λi _ hi=>.inl hi))).trans (t5.mono (λi _ hi=>.inr (.inr hi)))
theorem QN(w:World)(k:Nat):cQ 176 #[pP k,.bool true] w (.tuple #[]):=by
 go_enter func176,ntmps176;go_wp2;refine ζx (ζk rfl _ _ _) rfl ?_
 simp_all
theorem VW(h:A1 w SV G SW c v s r vi):Calls prog 176 #[pP c.k,.bool false] w λe w'=>e=.panicked [{v:=GW 25 0,recovered:=false}]/\w=w':=by
 have c3:=h.row.cc 3;have HF:=(X4 h.zk.1.nn h.wk 25 0);go_enter func176,ntmps176;go_wp2_with(go_at_call 154;refine HF.mono ?_;rintro e w1 ⟨rfl,rfl⟩);exact⟨rfl,rfl,rfl⟩
def Sp.Rd(z:Sp)(v:Vm)(a:Int):Prop:=(0<a->z.P a)/\∀i:Int,v.plE a i 1=0->z.P (a+1+i)
def XLt(s:MkS)(v:Vm)(rs:List Int)(c:MkC)(X:Int->Prop)(a r vi:Int)(s':MkS)(r' vi':Int):Prop:=B8 v rs c.n c.R X s'/\DF s s'/\(a≠0->Hs s'.L a)/\r'=r/\vi'=vi
theorem VVL(h:A1 w SV G SW c v s r vi)(hp:∀a,Rch v rs a->c.z.Rd v a)(hi:B8 v rs c.n c.R X s)(ha:a≠0->Rch v rs a):Calls prog 126 #[pP c.k,iI a] w (CM w SV G SW c v (XLt s v rs c X a r vi) (¬CE v rs c.n)):=by
 have H:=h;have HI:=hi;by_cases h0:a=0
 ·subst h0;clear h hi ha hp;go_enter func126,ntmps126;go_wp2;refine ζx (ζk rfl _ _ _) rfl ?_;exact CM.ok (AB.refl _ _) (H.up H.bB) ⟨HI,DF.refl _,λh=>absurd rfl h,rfl,rfl⟩
 ·have hR:=ha h0;have HR:=hR;have d0:(a==0)=false:=by simpa using h0
  have c0:=h.row.cc 0;have c1:=h.row.cc 1;unfold Sp.v at c0;have Xb:=(LJ h.ext h.tab a);unfold F7 at Xb;have E:=hi.mkd.good;by_cases hs:Hs s.L a
  ·obtain⟨f1,f2⟩:=Jqz E hs;rw[f2,φ f1]at Xb;have HS:=hs;clear h hi ha hp h0 hR hs E f1 f2;go_enter func126,ntmps126;go_wp2_with(go_at_call 168;refine Xb.mono ?_;rintro e w1 ⟨rfl,rfl⟩);refine ζx (ζk rfl _ _ _) rfl ?_;exact CM.ok (AB.refl _ _) (H.up H.bB) ⟨HI,DF.refl _,λ_=>HS,rfl,rfl⟩
  ·have Xi:=(λhf=>Z8n hs hf);have Yb:=hs;obtain⟨st,Xe⟩:∃st,st=obS s.L (AZ s.L a):=⟨_,rfl⟩;obtain⟨sz,Xk⟩:∃sz,sz=obZ s.L (AZ s.L a):=⟨_,rfl⟩;obtain⟨fb,Xg⟩:∃fb,fb=decide (AZ s.L a<s.L.length):=⟨_,rfl⟩;rw[<-Xe,<-Xk,<-Xg]at Xb;rw[<-Xe]at Xi;have Xm:=Xg
   have Xq:fb=false\/(fb=true/\(st==a)=false):=by
    cases hb:fb with
    | false=>exact .inl rfl
    | true=>exact .inr ⟨rfl,by have:=Xi (of_decide_eq_true (Xm.symm.trans hb));simpa using this⟩
   have O:=(λW (g:Gr w W)=>(MQ h.zk.1 (h.zk.1.gr h.vm g) a (hp a hR).1).mono λ_ _ hh=>ξ hh.1 (hh.2.ro h.zk.2));unfold Sp.v at O;have Yh:s.L.length<=1048576:=δ E.len h.ext.nb.2;have Yf:sizes s.L<=1048576:=δ (FJ E) h.ext.nb.2;by_cases hE:v.rdE a=0
   ·have HE:=hE;obtain⟨-,-,p,f,k,hh,Xy⟩:=FR hE;have Xc:=C9 hE;have Xf:=(λW=>KZ ⟨p,f,k⟩ W);have ho:v.osz a=B9 ⟨p,f,k⟩:=by unfold Vm.osz;rw[hh]
    rw[<-ho]at Xf;rw[hE,hh]at O;unfold AJ at O Xf;obtain⟨z,hz⟩:∃z,z=v.osz a:=⟨_,rfl⟩;rw[<-hz]at Xf Xc;have HZ:=ι hz;have Xj:=ι (λW (g:Gr w W)=>Zc1 (h.ext.gr g) (g.tab h.tab.lt h.tab) a z);unfold UJ at Xj;have Y:=h.sep;have Ya:=ι (λ(W W':World) (g:Gr w W) (t:AB (AS c.m c.b1 c.b2) W W') (x:Ext W' c.m c.p1 c.b1 c.p2 c.b2 c.n s.L)=>(⟨MkC.vm h.zk.1 Y (h.zk.1.gr h.vm g) t (λi e=>.inr (.inl e)),x,(h.stk.gr g).touch t (λi hi _ e=>Y.mg i e hi),(h.wk.gr g).touch t (λi hi _ e=>Y.sw i hi (.inr (.inl e))),(h.row.gr g).touch t Y.k1,t.tab (g.tab h.tab.lt h.tab).lt (λe=>Y.tab (.inr (.inl e))) (g.tab h.tab.lt h.tab),Y,δ h.bB (δ g.size t.size),h.zk⟩:A1 W' SV G SW c v s r vi));by_cases hA:C4 s.L c.n a z=0
    ·have HA:=ι hA;rw[hA]at Xj;have Xn:=ι (VNW (c:=c) (r:=r) (vi:=vi) hA);have Xt:=h.sep.k2;have Xz:=ι Xt;have Xx:=ι (hi.push hR hE (by rw[<-hz];exact hA));rw[<-hz]at Xx;have hz1:1<=z:=Xc.2.1;have hz2:z<=256:=Xc.2.2;obtain⟨LN,Xr⟩:∃LN:Nat,LN=s.L.length:=⟨_,rfl⟩;obtain⟨SN,Xo⟩:∃SN:Nat,SN=sizes s.L:=⟨_,rfl⟩;rw[<-Xr]at Yh Xn;rw[<-Xo]at Yf Xn;have Z:=ι (ξ Xr Xo);clear h hi ha hp h0 hR hs E Xe Xk Xg hE Xi Xm hh Xy ho hz hA Y Xt Xc Xr Xo;rcases Xq with rfl|⟨rfl,d3⟩
     all_goals
      go_enter func126,ntmps126
      go_wp2_with(first
       | (go_at_call 168;refine Xb.mono ?_;rintro e w1 ⟨rfl,rfl⟩)
       | (go_at_call 104;refine(O _ (Gr.refl _)).mono ?_;rintro e w1 ⟨rfl,I⟩;have J:=ι (I.alloc (.cells #[.int .i64 p,.int .i64 f,.int .i64 k] 72));clear I)
       | (go_at_call 176;(with_reducible refine(QN _ _).mono ?_);rintro e w2 ⟨rfl,rfl⟩)
       | (go_at_call 69;refine(Xf _).mono ?_;rintro e w3 ⟨rfl,B⟩;have V:=ι (J.o.trans B);have Yd:=(H.gr (J.o.trans B)).row.cell (j:=1) rfl;clear B)
       | (go_at_call 177;refine(Xj.o _ V.o).mono ?_;rintro e w4 ⟨rfl,U,Xd⟩;have Yc:=ι Xd;have Xp:=ι U;have Xh:=ι (H.gr V.o);have Xl:=ι (Xh.o.row.touch U Xh.o.sep.k1);have y2:=Xl.o.cc 2;have y4:=Xl.o.cc 4;have y5:=Xl.o.cc 5;have yf:=Xl.o.free;have Yg:=ι (Xh.o.stk.touch U (λi hi _ e=>Xh.o.sep.mg i e hi));rw[<-Z.o.1]at y4;rw[<-Z.o.2]at y5;clear U Xd)
       | (go_at_call 178;refine(Y4L (Yg.o.set2 Xz.o) a).mono ?_;intro e w5 hp;have Ye:(∃b,e=.returned (.bool b)):=by {rcases hp with⟨_,rfl,_⟩|⟨_,rfl,_⟩ <;> exact⟨_,rfl⟩};have HP:=ι hp;obtain⟨pb,rfl⟩:=Ye;clear hp))
      refine ζx (ζk rfl _ _ _) rfl ?_;have Xs:=Xn.o;rw[Z.o.1,Z.o.2]at Xs
      have Xw:∀st' lost',s.push c.R (CW s.L c.n a z) a=⟨CW s.L c.n a z,st',lost'⟩->AB G ((w4.setCell ⟨c.k,4,none⟩ (.int .i64 ((s.L.length:Nat)+1))).setCell ⟨c.k,5,none⟩ (.int .i64 ((sizes s.L:Nat)+z))) w5/\BY w5 (plus G ((w4.setCell ⟨c.k,4,none⟩ (.int .i64 ((s.L.length:Nat)+1))).setCell ⟨c.k,5,none⟩ (.int .i64 ((sizes s.L:Nat)+z)))) c.g st' c.R lost'->CM w SV G SW c v (XLt s v rs c X a r vi) (¬CE v rs c.n) (.returned (.tuple #[])) w5:=λst' lost' hpe ⟨D,Xa⟩=>by
       obtain⟨q1,q2,q3⟩:=Xx.o;rw[hpe]at q1 q2 q3;obtain⟨m5,t5⟩:=Xh.o.pushed Xp.o Yc.o D Xa Xs;exact CM.ok ((V.o.touch _).trans t5) (m5.sub (λi hi=>hi.imp id (λh'=>δ V.o.size h')) (H.sep.plus H.bB)) ⟨q1,q2,λ_=>q3,rfl,rfl⟩
      rcases HP.o with⟨hf,-,D,Xa⟩|⟨hf,-,D,Xa⟩
      ·refine Xw s.st true (ψ Ω) ⟨?_,?_⟩
       ·rw[Z.o.1,Z.o.2]at D;exact D
       ·rw[Z.o.1,Z.o.2]at Xa;exact Xa
      ·refine Xw (s.st++[a]) s.lost (θ hf) ⟨?_,?_⟩
       ·rw[Z.o.1,Z.o.2]at D;exact D
       ·rw[Z.o.1,Z.o.2]at Xa;exact Xa
    ·obtain⟨y,hy⟩:∃y,y=C4 s.L c.n a z:=⟨_,rfl⟩;have d2:(y==0)=false:=by rw[hy];simpa using hA
     have Xu:=ι hA;have HY:=ι hy;clear h hi ha hp h0 hR hs E Xe Xk Xg hE Xi Xm hh Xy ho hz hA hy Y;rcases Xq with rfl|⟨rfl,d3⟩
     all_goals
      go_enter func126,ntmps126
      go_wp2_with(first
       | (go_at_call 168;refine Xb.mono ?_;rintro e w1 ⟨rfl,rfl⟩)
       | (go_at_call 104;refine(O _ (Gr.refl _)).mono ?_;rintro e w1 ⟨rfl,I⟩;have J:=ι (I.alloc (.cells #[.int .i64 p,.int .i64 f,.int .i64 k] 72));clear I)
       | (go_at_call 176;(with_reducible refine(VW Xv.o).mono ?_);rintro e w2 ⟨rfl,rfl⟩)
       | (go_at_call 176;(with_reducible refine(QN _ _).mono ?_);rintro e w2 ⟨rfl,rfl⟩)
       | (go_at_call 69;refine(Xf _).mono ?_;rintro e w3 ⟨rfl,B⟩;have V:=ι (J.o.trans B);have Yd:=(H.gr (J.o.trans B)).row.cell (j:=1) rfl;clear B)
       | (go_at_call 177;refine(Xj.o _ V.o).mono ?_;rintro e w4 ⟨rfl,U,Xd⟩;rw[<-HY.o];have Xp:=ι ((V.o.touch (c.T G)).trans (U.mono (λi _ hi=>.inr (.inl hi))));have Xv:=ι (Ya.o _ _ V.o U (by rw[show CW s.L c.n a z=s.L from ψ Xu.o]at Xd;exact Xd));clear U Xd))
      exact⟨rfl,CM.no Xp.o (Xv.o.up H.bB) (HI.mkd.fail HR Yb (by rw[<-HZ.o];exact Xu.o))⟩
   ·have HE:=hE;obtain⟨y,hy⟩:∃y,y=v.rdE a:=⟨_,rfl⟩;have d2:(y==0)=false:=by rw[hy];simpa using hE
    rw[<-hy]at O;unfold AJ at O;clear h hi ha hp h0 hR hs E Xe Xk Xg hE hy Xi Xm;rcases Xq with rfl|⟨rfl,d3⟩
    all_goals
     go_enter func126,ntmps126
     go_wp2_with(first
      | (go_at_call 168;refine Xb.mono ?_;rintro e w1 ⟨rfl,rfl⟩)
      | (go_at_call 104;refine(O _ (Gr.refl _)).mono ?_;rintro e w1 ⟨rfl,I⟩;have J:=ι I;clear I)
      | (go_at_call 176;refine(VW (H.gr (J.o.alloc _))).mono ?_;rintro e w2 ⟨rfl,rfl⟩))
     exact⟨rfl,CM.no ((J.o.alloc _).touch _) ((H.gr (J.o.alloc _)).up H.bB) (ZFY HR HE)⟩
def Yr9(s:MkS)(v:Vm)(rs:List Int)(c:MkC)(X:Int->Prop)(a r:Int)(s':MkS)(r' _vi':Int):Prop:=B8 v rs c.n c.R X s'/\DF s s'/\Cl v s'.L a/\r'=r
theorem ZUP(h:A1 w SV G SW c v s r vi)(hp:∀a,Rch v rs a->c.z.Rd v a)(hi:B8 v rs c.n c.R X s)(ha:Hs s.L a):Calls prog 131 #[pP c.k,iI a] w (CM w SV G SW c v (Yr9 s v rs c X a r) (¬CE v rs c.n)):=by
 have H:=h;have HI:=hi;obtain⟨hR,hE⟩:=hi.mkd.hs ha;obtain⟨-,-,p,f,k,hh,hsm⟩:=FR hE;have HR:=(ξ hR (ξ hE hh));have Xj:=(hp a hR);have E:=(λW (g:Gr w W)=>(MQ h.zk.1 (h.zk.1.gr h.vm g) a (hp a hR).1).mono λ_ _ hh=>ξ hh.1 (hh.2.ro h.zk.2));have HP:=hp;rw[hE,hh]at E;unfold Sp.v AJ at E;have c0:=h.row.cc 0;unfold Sp.v at c0;have HN:=(Rec.new w 72 [iI p,iI f,iI k]);clear h hi ha hp hR hE hh;go_enter func131,ntmps131
 go_wp2_with(first
  | (go_at_call 104;refine(E _ (Gr.refl _)).mono ?_;rintro e w1 ⟨rfl,Xb⟩;have Xf:=(Xb.alloc (.cells #[.int .i64 p,.int .i64 f,.int .i64 k] 72));clear Xb)
  | (go_at_call 176;(with_reducible refine(QN _ _).mono ?_);rintro e w2 ⟨rfl,rfl⟩))
 go_loopw [24] (λs24 wr=>∃(j:Nat) (s':MkS) (r' vi':Int),j<=p/\Hid (A1 wr SV (plus G w) SW c v s' r' vi')/\Hid (AB (c.T G) w wr)/\Hid (B8 v rs c.n c.R X s'/\DF s s'/\ClN v s'.L a j/\r'=r)/\s24=iI j) (λs24 _=>p-(intOf s24).toNat)
 case atStart=>exact⟨0,s,r,vi,by omega,⟨(H.gr Xf).up H.bB⟩,⟨Xf.touch _⟩,⟨HI,DF.refl _,λi hi=>by omega,rfl⟩,rfl⟩
 case round=>
  obtain⟨j,s',r',vi',hj,HM,HT,HJ,rfl⟩:=hrel;have k0:=HM.o.row.cc 0;have k7:=HM.o.row.cc 7;have kf:=HM.o.row.free 7;unfold Sp.v at k0;clear c0;by_cases Y:j=p
  ·subst Y;go_wp2;refine ζx (ζk rfl _ _ _) rfl ?_;obtain⟨q1,q2,q3,q4⟩:=HJ.o;exact CM.ok (HT.o.trans (OC 7 _)) (HM.o.set (r':=r') (vi':=wrap64 (vi' + 1)) rfl) ⟨q1,q2,q3.cl (by rw[HR.2.2];exact ψs _),q4⟩
  ·have Xg:(j:Int)<(p:Int):=Ω
   have U:=((WW HM.o.zk.1 HM.o.vm a (j:Int) Xj.1 (Xj.2 _)).mono λ_ _ hh=>ξ hh.1 (hh.2.ro HM.o.zk.2));unfold Sp.v at U;have Xe:Hid (v.ptE a j=0->((v.ptV a j:Nat):Int)≠0->Rch v rs (v.ptV a j:Nat)):=⟨λh1 h2=>HR.1.step ⟨HR.2.1,j,by rw[HR.2.2];exact Xg,h1,by omega,rfl⟩⟩;have Xh:=(ξ hj Y);clear hj Y;by_cases J:v.ptE a j=0
   ·have I:=J;rw[J]at U;obtain⟨x,hx⟩:∃x,x=v.ptV a j:=⟨_,rfl⟩;rw[<-hx]at U Xe;have Xl:=ι hx;clear J hx
    go_wp2_with(first
     | (go_at_call 57;refine U.mono ?_;rintro e w2 ⟨rfl,Z⟩;have O:=ι (HM.o.gr Z);have V:=ι (HT.o.trans (Z.touch _));clear Z)
     | (go_at_call 176;(with_reducible refine(QN _ _).mono ?_);rintro e w3 ⟨rfl,rfl⟩)
     | (go_at_call 126;refine(VVL O.o HP HJ.o.1 (Xe.o I)).mono ?_;rintro e w4 ⟨Xa,(⟨rfl,s4,r4,Xk,B,D⟩|⟨rfl,D,s4,r4,Xk,B⟩)⟩ <;> (have Xc:=ι (IF V.o Xa);have Xi:=ι (B.back V.o.size H.sep H.bB);have Xd:=ι D;clear Xa B D)))
    ·go_round
     case rel=>
      obtain⟨q1,q2,q3,q4⟩:=HJ.o;obtain⟨p1,p2,p3,p4,p5⟩:=Xd.o;refine⟨j+1,s4,r4,Xk,by have:=Xh;omega,Xi,Xc,⟨p1,q2.trans p2,(q3.mono p2.sub).succ I (λh0=>?_),p4.trans q4⟩,by go_num⟩;rw[<-Xl.o]at h0⊢;exact p3 Ω
     case measure=>have:=Xh;simp[intOf];omega
    ·exact⟨rfl,CM.no Xc.o Xi.o Xd.o⟩
   ·have I:=J;obtain⟨y,hy⟩:∃y,y=v.ptE a j:=⟨_,rfl⟩;have d2:(y==0)=false:=by rw[hy];simpa using J
    rw[<-hy]at U;clear J hy
    go_wp2_with(first
     | (go_at_call 57;refine U.mono ?_;rintro e w2 ⟨rfl,Z⟩;have O:=ι (HM.o.gr Z);have V:=ι (HT.o.trans (Z.touch _));clear Z)
     | (go_at_call 176;(with_reducible refine(VW O.o).mono ?_);rintro e w3 ⟨rfl,rfl⟩))
    exact⟨rfl,CM.no V.o O.o (J7J HR.1 (by rw[HR.2.2];exact Xg) I)⟩
section
attribute [local go_sem] Oper.semAt_some
def J4(L:List Ob)(j:Nat):List Value:=zs ((L.take j).map λo=>(o.1:Int))
theorem QZB(h:j<L.length):J4 L (j+1)=J4 L j++[iI (L[j].1:Nat)]:=by
 unfold J4 zs
 grind [ζW]
theorem ZJ{b b' E size:Nat}{v:Value}{xs:List Value}(h:w.ownsRow b E size v n xs)(hb:b'<=b):w.ownsRow b' E size v n xs:=by
 obtain⟨h1,h2⟩:=h;refine⟨h1,h2.imp id ?_⟩;rintro⟨g,Z,Y,e1,e2,e3⟩;exact⟨g,Z,Y,e1,δ hb e2,e3⟩
structure StI(W0:World)(B:Nat)(L:List Ob)(j:Nat)(A:World):Prop where
 t:AB (λi=>i=B\/W0.heap.size<=i) W0 A
 jl:j<=L.length
 f0:A.frozen? ⟨B,0,none⟩=false
 row:∃vL,A.cell? ⟨B,0,none⟩=some vL/\A.ownsRow (W0.heap.size+6) 3 1 vL j (J4 L j)
def JLP(w:World)(L:List Ob)(e:Ending)(w':World):Prop:=∃vL,e=.returned vL/\Gr w w'/\w'.ownsRow w.heap.size 3 1 vL L.length (J4 L L.length)
theorem Yde{p1 b1 p2 b2:Nat}(hE:Ext w m p1 b1 p2 b2 n L)(hT:AP w)(c1:w.cell? ⟨k,1,none⟩=some (pP m)):
  Calls prog 130 #[pP k] w (JLP w L):=by
 have HE:=hE;have HT:=hT;have hkl:=AT c1;refine(π (n:=5)).1 ?_;refine callsIn_of_wp_marks func130 rfl trivial ?_ rfl;simp only[ntmps130,ζS,ζz,ζ6,Nat.reduceAdd,Nat.reduceSub,ζJ,ζI,ζX,ζO,ζV,ζq];gi_wp2_with(refine⟨trivial,?_⟩;gi_at_call 144;refine(π.2 (JR (some ⟨m,0,none⟩))).mono ?_;rintro e w1 ⟨rfl,rfl⟩);obtain⟨W2,O⟩:∃W2,W2=w.alloc (.cells #[.slice none 0 0] 61):=⟨_,rfl⟩;have Xj:Boxed W2 w.heap.size 61 (.slice none 0 0):=by rw[O];exact Boxed.new w _ _
 have Xo:Gr w W2:=by rw[O];exact(Gr.refl w).alloc _
 have Xe:W2.heap.size=w.heap.size+1:=by rw[O];simp
 rw[<-O];obtain⟨W0,J⟩:∃W0,W0=W2.alloc (.cells #[.pointer (some ⟨m,0,none⟩)] 93):=⟨_,rfl⟩;have Xa:Gr w W0:=by rw[J];exact Xo.alloc _
 have hsz:W0.heap.size=w.heap.size+2:=by rw[J];simp;omega
 have k1:Boxed W0 w.heap.size 61 (.slice none 0 0):=by rw[J];exact Xj.alloc _
 have k4:W0.cell? ⟨w.heap.size+1,0,none⟩=some (pP m):=by
  rw[J];have:=(Boxed.new W2 93 (pP m)).cell
  rwa [Xe]at this
 rw[<-J];have Z:=HE;have o1:=Z.hm;have o2:=Z.v1.hp;have o3:=Z.v1.hb;have o4:=Z.v2.hp;have o5:=Z.v2.hb;have o6:=HT.lt;have hnb:=Z.nb;have Xb:=Z.good;have hlen:=Xb.len;obtain⟨ii,Xm,Xk,Xf,Xl⟩:=info_parts OS
 have tI:∀j A B,StI W0 w.heap.size L j A->AB (λi=>W0.heap.size<=i/\i<W0.heap.size+2+4) A B->StI W0 w.heap.size L j B:=λj A B h t=>by
  have ht:=h.t.size;obtain⟨vL,hc,ho⟩:=h.row;exact⟨h.t.trans (t.mono (λi _ h=>.inr h.1)),h.jl,(t.frozen Ω (by show ¬(W0.heap.size<=w.heap.size/\_);omega) 0).trans h.f0,vL,(t.cell Ω (by show ¬(W0.heap.size<=w.heap.size/\_);omega) 0).trans hc,BX ho t (λg hg h=>by have:=(BH ho hg).1;omega)⟩
 refine LD (K:=4) (s0:=0) rfl Ω (gf:=187) (lb:=#[pP (w.heap.size+1)]) rfl trivial (enters_of func187 (by kernel_rfl) rfl)
  (OB _ (w.heap.size+1) m p1 b1 p2 b2 n L _) (λ_=>rfl)
  (StI W0 w.heap.size L) (λ_ _=>False) tI (λ_ _ _ h _=>h)
  (λj A h=>⟨(HE.gr Xa).touch h.t Ω Ω Ω Ω Ω,(Xa.tab o6 HT).touch' h.t Ω,(h.t.cell Ω Ω 0).trans k4,h.jl⟩)
  ⟨AB.refl _ _,ζg _,k1.frozen,_,k1.cell,GY _ _ _ _⟩ ?round ?done ?stop
 case round=>
  intro lp j x W3 hsz3 U Y;dsimp only[GG];gi_wp2;refine⟨Gr.refl _,λW4 ht4 hI4=>?_⟩
  have Xc:j<L.length:=by
   rcases υ j L.length with h|h
   ·exact h
   ·unfold EH at Y;rw[ζF h]at Y;cases Y
  obtain rfl:x=L[j]:=by unfold EH at Y;rw[η Xc]at Y;exact(Option.some.inj Y).symm
  have I:=QZB Xc;obtain⟨y,hy⟩:∃y,y=L[j].1:=⟨_,rfl⟩;rw[<-hy]at I⊢;obtain⟨vL,hc,ho⟩:=hI4.row;have Xq:=hI4.f0;have hsz4:W0.heap.size+6<=W4.heap.size:=by have:=ht4.size;omega
  have Xr:=hI4;have HO:=ho;have Xp:=I;clear U hI4 I hy ho Y ht4;gi_wp2_with(gi_at_builtin;refine wpListIn_append_own _ rfl _ _ 61 rfl (W0.heap.size+6) 3 ii _ 1 8 underlying61 Xm Xk Xf Xl rfl (by decide) _ _ _ rfl (HO.alloc _) ⟨W4.heap.size,0,none⟩ 1 1 [iI (y:Nat)] rfl rfl (cell_one_new _ _ _) (by simp[Value.oneCell']) (by unfold maxLen;omega) Ω (by simp;omega) ?_;intro v' w5 V E _;obtain⟨A5,c5,rfl,-,-⟩:=FA V;have t5:AB (λi=>W0.heap.size+6<=i) W4 w5:=((((Gr.refl W4).alloc _).touch _)).trans (E5 E _ (λi e _=>(BH HO e).1));have Xh:=(t5.cell (b:=w.heap.size) Ω Ω 0).trans hc;have Xg:=(t5.frozen (b:=w.heap.size) Ω Ω 0).trans Xq;have Xd:=V;have Xn:=t5);have tt:AB (λi=>i=w.heap.size\/W0.heap.size+6<=i) W4 (w5.setCell ⟨w.heap.size,0,none⟩ (.slice A5 (j+1) c5)):=(Xn.mono (λi _ h=>.inr h)).setCell (a:=⟨w.heap.size,0,none⟩) (λ_=>.inl rfl) _;refine⟨tt.mono (λi _ h=>by omega),j+1,rfl,⟨Xr.t.trans (tt.mono (λi _ h=>h.imp id (λh=>by omega))),Xc,by rw[ξa];exact Xg,_,World.cell?_setCell_same' w5 ⟨w.heap.size,0,none⟩ _ (by rw[Xh];rfl),?_⟩⟩;rw[Xp];exact AV Xd _ (λg hg=>by have:=(BH Xd hg).1;omega)
 case done=>
  rintro D j W3 hD rfl U hK;obtain⟨vL,hc,ho⟩:=U.row;have HO:=ho;have HK:=hK;have HD:=hD;have Xi:=U;have hs3:=U.t.size;gi_wp2;refine⟨by simp,.inl ⟨_,_,rfl,run_takeDeferred HK,?_⟩⟩;refine⟨_,results_tmp rfl _ _ _,vL,rfl,(((Xa.touch (λ_=>False)).trans' Xi.t (λi hi h=>by omega)).trans' (DO W3 D _) (λi hi h=>by have:=HD;omega)).gr,?_⟩;exact ZJ (BX HO (DO W3 D _) (λg hg h=>by have:=(BH HO hg).1;have:=HD;omega)) Ω
 simp_all
end
def LW(s:MkS)(r vi:Int):Prop:=s.L=[]->r=1/\vi=0
theorem A1.popped{st:List Int}{lost:Bool}(h:A1 w SV G SW c v ⟨L,st,lost⟩ r vi)(t:AB G w w')(s':BY w' G c.g st' c.R lost'):A1 w' SV G SW c v ⟨L,st',lost'⟩ r vi:=by
 have hs:=h.sep;have Y:¬G c.k:=hs.k2;exact⟨MkC.vm h.zk.1 hs h.vm t (λi e=>.inr (.inr e)),h.ext.touch t (hs.mg _ (.inl rfl)) (λe=>hs.p1 (.inr (.inr e))) (hs.mg _ (.inr (.inl rfl))) (λe=>hs.p2 (.inr (.inr e))) (hs.mg _ (.inr (.inr rfl))),s',h.wk.touch t (λi hi _ e=>hs.sw i hi (.inr (.inr e))),h.row.touch t Y,t.tab h.tab.lt (λe=>hs.tab (.inr (.inr e))) h.tab,hs,δ h.bB t.size,h.zk⟩
def RU(st st':List Int)(a:Int)(b:Bool):Prop:=(b=true/\st=st'++[a])\/(b=false/\st=[]/\st'=[])
def VSm(w:World)(SV G SW:Nat->Prop)(c:MkC)(v:Vm)(s:MkS)(r vi:Int)(e:Ending)(w':World):Prop:=∃a b st',e=.returned (.tuple #[iI a,.bool b])/\AB (c.T G) w w'/\A1 w' SV G SW c v ⟨s.L,st',s.lost⟩ r vi/\RU s.st st' a b
theorem VPs(h:A1 w SV G SW c v s r vi):Calls prog 179 #[pP c.g] w (VSm w SV G SW c v s r vi):=by
 refine(ZtN h.stk).mono ?_;rintro e w' (⟨h0,rfl,rfl⟩|⟨l',a,h0,rfl,ht,hs⟩)
 ·refine⟨0,false,[],rfl,AB.refl _ _,?_,.inr ⟨rfl,h0,rfl⟩⟩;rw[<-h0];exact h
 ·exact⟨a,true,l',rfl,ht.mono (λi _ hi=>.inr (.inr hi)),A1.popped (L:=s.L) (st:=s.st) (lost:=s.lost) h ht hs,.inl ⟨rfl,h0⟩⟩
def DrS(v:Vm)(rs:List Int)(c:MkC)(X:Int->Prop)(s:MkS)(a:Int)(b:Bool)(k:Nat):Prop:=
 ((b=false/\s.st=[]/\B8 v rs c.n c.R X s)\/(b=true/\Hs s.L a/\B8 v rs c.n c.R (λx=>X x\/x=a) s))/\2*c.n+s.st.length+(if b then 1 else 0)<=2*s.L.length+k
theorem DrS.of(h:B8 v rs c.n c.R X s)(hp:RU s.st st' a b)(hk:2*c.n+s.st.length<=2*s.L.length+k):DrS v rs c X ⟨s.L,st',s.lost⟩ a b k:=by
 rcases hp with⟨rfl,h1⟩|⟨rfl,h1,rfl⟩
 ·have h':B8 v rs c.n c.R X ⟨s.L,st'++[a],s.lost⟩:=by rw[<-h1];exact h
  refine⟨.inr ⟨rfl,h'.pop.2,h'.pop.1⟩,?_⟩
  grind
 ·refine⟨.inl ⟨rfl,rfl,by rw[<-h1];exact h⟩,?_⟩
  simp_all
def VA5(s:MkS)(v:Vm)(rs:List Int)(c:MkC)(X:Int->Prop)(r vi:Int)(s':MkS)(r' vi':Int):Prop:=B8 v rs c.n c.R X s'/\DF s s'/\s'.st=[]/\(LW s r vi->LW s' r' vi')
theorem XZ{t:MkS}(h:DF s t)(hp:RU t.st st' a b):DF s ⟨t.L,st',t.lost⟩:=by
 refine⟨h.sub,h.len,h.los,?_⟩;have:=h.mea;rcases hp with⟨-,h1⟩|⟨-,h1,rfl⟩
 ·grind
 simp_all
theorem Y1(h:Hs L a):L≠[]:=by
 rintro rfl;obtain⟨o,ho,-⟩:=h;cases ho
theorem ZZ(h:A1 w SV G SW c v s r vi)(hp:∀a,Rch v rs a->c.z.Rd v a)(hi:B8 v rs c.n c.R X s):Calls prog 127 #[pP c.k] w (CM w SV G SW c v (VA5 s v rs c X r vi) (¬CE v rs c.n)):=by
 have H:=h;have HI:=hi;have c2:=h.row.cc 2;have HP:=hp;go_enter func127,ntmps127;go_wp2_with(go_at_call 179;refine(VPs H).mono ?_;rintro e w1 ⟨a0,b0,st0,rfl,Xj,Xd,Xc⟩;have Xb:=ι Xj;have Xf:=ι (Xd.up (w:=w) H.bB);have O:=Xc)
 go_loopg [2,3] (2*c.n+s.st.length) (λk s2 s3 wr=>∃(a:Int) (b:Bool) (s':MkS) (r' J:Int),s2=iI a/\s3=.bool b/\Hid (A1 wr SV (plus G w) SW c v s' r' J)/\Hid (AB (c.T G) w wr)/\Hid (DF s s'/\(LW s r vi->LW s' r' J)/\DrS v rs c X s' a b k))
 case atStart=>
  refine⟨a0,b0,_,r,vi,rfl,rfl,Xf,Xb,⟨XZ (DF.refl _) O,λh=>h,DrS.of HI O Ω⟩⟩
 case round=>
  obtain⟨a,b,s',r',J,rfl,rfl,HM,HT,HJ⟩:=hrel;have k2:=HM.o.row.cc 2;cases b with
  | false=>
   go_wp2;refine ζx (ζk rfl _ _ _) rfl ?_;obtain⟨q1,q2,q3,-⟩:=HJ.o;rcases q3 with⟨-,h1,h2⟩|⟨h1,-⟩
   ·exact CM.ok HT.o HM.o ⟨h2,q1,h1,q2⟩
   ·cases h1
  | true=>
   have HA:Hid (Hs s'.L a/\B8 v rs c.n c.R (λx=>X x\/x=a) s'/\2*c.n+s'.st.length+1<=2*s'.L.length+gk):=⟨by
    obtain⟨q1,q2,q3,q4⟩:=HJ.o;rcases q3 with⟨h1,-⟩|⟨-,h1,h2⟩
    ·cases h1
    ·exact⟨h1,h2,q4⟩⟩
   go_wp2_with(first
    | (go_at_call 131;refine(ZUP HM.o HP HA.o.2.1 HA.o.1).mono ?_;rintro e w4 ⟨U,(⟨rfl,s4,r4,B,Y,Z⟩|⟨rfl,Z,s4,r4,B,Y⟩)⟩ <;> (have I:=(IF HT.o U);have D:=(Y.back HT.o.size H.sep H.bB);have E:=ι Z;have k4:=Y.row.cc 2;clear U Y Z))
    | (go_at_call 179;refine(VPs D).mono ?_;rintro e w5 ⟨a5,b5,st5,rfl,Xe,Xa,Xh⟩;have Xg:=ι (IF I Xe);have Xi:=ι Xa;have V:=Xh))
   ·have hgk:1<=gk:=by
     have:=HA.o.2.2;have:=HA.o.2.1.mkd.good.len;omega
    go_roundg (gk-1)
    case measure=>omega
    case rel=>
     obtain⟨q1,q2,-⟩:=HJ.o;obtain⟨p1,p2,p3,p4⟩:=E.o;have hme:=HA.o.2.2;have Y:=p2.mea;refine⟨a5,b5,_,r4,B,rfl,rfl,Xi,Xg,⟨XZ (q1.trans p2) V,λ_ h0=>absurd h0 (Y1 (p2.sub a HA.o.1)),DrS.of (p1.done p3 (λx hx=>hx)) V Ω⟩⟩
   ·exact⟨rfl,CM.no I D E.o⟩
theorem A1.cut(h:A1 w SV G SW c v s r vi):A1 w SV (AD G w) SW c v s r vi:=by
 have hs:=h.sep;have Y:∀i,i<c.B/\¬c.T G i->i<c.B/\¬c.T (AD G w) i:=λi hi=>⟨hi.1,λht=>hi.2 (ht.imp id (λh=>h.imp id (λh=>h.1)))⟩
 exact⟨h.vm,h.ext,h.stk.cut,h.wk,h.row,h.tab,⟨λi hi=>Y i (hs.sv' i hi),λi hi=>Y i (hs.sw' i hi),Y _ hs.tab',Y _ hs.p1',Y _ hs.p2',hs.k1,λh=>hs.k2 h.1,hs.kB,λi hi h=>hs.mg i hi h.1,hs.mB,λi hi=>Y i (hs.sd' i hi)⟩,h.bB,h.zk⟩
def J1(L:List Ob)(j:Nat)(a:Int):Prop:=∃o∈L.drop j,(o.1:Int)=a
theorem JmM(h:Hs L a):J1 L 0 a:=h
theorem J6E(h:j<L.length)(ha:J1 L j a):J1 L (j+1) a\/a=(L[j].1:Int):=by
 obtain⟨o,ho,rfl⟩:=ha;rw[ξB h]at ho;rcases ζC.1 ho with rfl|ho
 ·omega
 ·exact .inl ⟨o,ho,rfl⟩
theorem Jdx(a:Int):¬J1 L L.length a:=by
 rintro⟨o,ho,-⟩
 simp_all
theorem B8.found(h:B8 v rs n R X s):B8 v rs n R (J1 s.L 0) ⟨s.L,s.st,false⟩:=⟨h.mkd,h.st,h.r,λ_ ha=>.inr (.inr (.inr (JmM ha)))⟩
def s0:MkS:=⟨[],[],false⟩
def SP(v:Vm)(rs:List Int)(c:MkC)(j:Nat)(s:MkS)(r vi:Int):Prop:=B8 v rs c.n c.R (λ_=>False) s/\s.st=[]/\(∀x∈rs.take j,x≠0->Hs s.L x)/\LW s r vi/\(s.lost=true->s.L≠[])
def NF(v:Vm)(rs:List Int)(c:MkC)(s:MkS)(r vi:Int):Prop:=BF v rs c.n s.L/\LW s r vi
theorem YXl(h:A1 w SV G SW c v s0 0 0)(hp:∀a,Rch v rs a->c.z.Rd v a)(hA:E8 (c.T G) w A rs)(hlen:rs.length<=maxLen):
  Calls prog 89 #[pP c.k,.slice A rs.length cp] w (CM w SV G SW c v (NF v rs c) (¬CE v rs c.n)):=by
 have H:=h;have HA:=hA;have HP:=hp;have c6:=h.row.cc 6;have kf:=h.row.free 6;obtain⟨N,hN⟩:∃N,N=rs.length:=⟨_,rfl⟩;rw[<-hN]at hlen⊢;have HN:=ι hN;unfold maxLen at hlen;clear h hA hN hp;go_enter func89,ntmps89;go_wp2;have Yl:Hid (A1 (w.setCell ⟨c.k,6,none⟩ (.int .i64 1)) SV (plus G w) SW c v s0 1 0):=⟨(H.set (r':=1) (vi':=0) rfl).up H.bB⟩;have Yc:Hid (AB (c.T G) w (w.setCell ⟨c.k,6,none⟩ (.int .i64 1))):=⟨OC 6 _⟩;obtain⟨w1,Yh⟩:∃w1,w1=w.setCell ⟨c.k,6,none⟩ (.int .i64 1):=⟨_,rfl⟩;rw[<-Yh]at Yl Yc⊢;clear c6 kf Yh
 go_loopw [14] (λs14 wr=>∃(j:Nat) (s:MkS) (r vi:Int),j<=N/\Hid (A1 wr SV (plus G w) SW c v s r vi)/\Hid (AB (c.T G) w wr)/\Hid (SP v rs c j s r vi)/\s14=iI j) (λs14 _=>N-(intOf s14).toNat)
 case atStart=>exact⟨0,s0,1,0,ζg _,Yl,Yc,⟨⟨Mk.nil _ _ _,(λ_ h=>by cases h),ζg _,(λa ha=>absurd rfl (Y1 ha))⟩,rfl,(λx hx=>by cases hx),(λ_=>⟨rfl,rfl⟩),(λh=>by cases h)⟩,rfl⟩
 case round=>
  obtain⟨j,s,r,vi,hj,HM,HT,HJ,rfl⟩:=hrel;by_cases Z:j=N
  ·subst Z;have Yd:Hid (SP v rs c rs.length s r vi):=⟨by have:=HJ.o;rwa [HN.o]at this⟩;clear HJ hj;go_wp2
   go_loopg [] (c.n+1) (λk wr=>∃(s:MkS) (r vi:Int),Hid (A1 wr SV (plus G w) SW c v s r vi)/\Hid (AB (c.T G) w wr)/\Hid (SP v rs c rs.length s r vi)/\Hid (s.lost=true->c.n+1<=s.L.length+k))
   case atStart=>exact⟨s,r,vi,HM,HT,Yd,⟨λ_=>by omega⟩⟩
   case round=>
    clear HM HT Yd;clear s r vi;obtain⟨wo,rfl⟩:∃wo:World,wo=wr:=⟨_,rfl⟩;obtain⟨s,r,vi,HM,HT,HJ,HK⟩:=hrel;have k2:=HM.o.row.cc 2;obtain⟨L,st,lost⟩:=s;have Yf:=(XPh HM.o.stk);cases lost with
    | false=>
     go_wp2_with(go_at_call 128;refine Yf.mono ?_;rintro e w2 ⟨rfl,rfl⟩);refine ζx (ζk rfl _ _ _) rfl ?_;obtain⟨q1,q2,q3,q4,q5⟩:=HJ.o;exact CM.ok HT.o HM.o ⟨q1.marks (λ_ h=>h) q2 rfl (λx hx h0=>q3 x (by rw[ζ7];exact hx) h0),q4⟩
    | true=>
     have Ys:st=[]:=HJ.o.2.1;subst Ys;have Xr:=HM.o.cut;obtain⟨G1,Xu⟩:∃G1,G1=AD (plus G w) wo:=⟨_,rfl⟩;rw[<-Xu]at Xr;have Xk:Hid (∀i,G1 i->plus G w i/\i<wo.heap.size):=⟨λi hi=>by rw[Xu]at hi;exact hi⟩;have Yu:=HJ.o.2.2.2.2 rfl;have Ye:=HJ.o.1.mkd.good;have Za:L.length<=1048576:=δ Ye.len HM.o.ext.nb.2;obtain⟨LN,Xv⟩:∃LN,LN=L.length:=⟨_,rfl⟩;have Xc:=ι Xv;rw[<-Xv]at Za;clear Xu Ye Xv
     go_wp2_with(first
      | (go_at_call 128;refine Yf.mono ?_;rintro e w2 ⟨rfl,rfl⟩)
      | (go_at_call 129;refine(Qf8 Xr.stk).mono ?_;rintro e w2 ⟨rfl,Xq,Ya⟩;have Xp:=(A1.popped (L:=L) (st:=[]) (lost:=true) Xr Xq Ya);have k6:=Xp.row.cc 6;have k1:=Xp.row.cc 1;have kf:=Xp.row.free 6;have Yk:=Xq;clear Xq Ya)
      | (go_at_call 130;have Xm:=(λx:Int=>Xp.set (j:=6) (u:=iI x) (r':=x) (vi':=vi) rfl);refine(Yde (Xm _).ext (Xm _).tab ((Xm _).row.cell (j:=1) rfl)).mono ?_;rintro e w3 ⟨vL,rfl,Xy,Xx⟩;have Xl:=((Xm _).gr Xy);have Yb:=ι Xy;obtain⟨A3,Yj,rfl,Yz,h32⟩:=FA Xx;have Xw:=ι Xx;rw[<-Xc.o]at Xw;rw[<-Xc.o]at Yz;clear Xy Xx))
     have hz2:wo.heap.size<=w2.heap.size:=Yk.size;have hz3:w2.heap.size<=w3.heap.size:=by simpa using Yb.o.size
     have hzw:w.heap.size<=wo.heap.size:=HT.o.size;have hBw:c.B<=w.heap.size:=H.bB
     have Yo:Hid (∀g,(Value.slice A3 LN Yj).ownBlock=some g->¬c.T (plus G1 w3) g):=⟨λg hg ht=>by
      obtain⟨a1,a2⟩:=BH Xw.o hg;have a1:w2.heap.size<=g:=by simpa using a1
      rcases ht with h1|h1|h1|h1
      ·have:=H.sep.kB;omega
      ·have:=H.sep.mB g h1;omega
      ·have:=(Xk.o g h1).2;omega
      ·omega⟩
     have Yi:Hid (DC c SV G1 SW):=⟨Xl.sep⟩;have Yq:Hid (AB (c.T G1) wo w3):=⟨((Yk.mono (λi _ h=>.inr (.inr h))).trans (OC 6 _)).trans (Yb.o.touch _)⟩;clear k1 k2 k6 kf;rw[<-Xc.o]
     go_loopw [46] (λs46 wy=>∃(j:Nat) (s':MkS) (r' vi':Int),j<=LN/\Hid (A1 wy SV (plus G1 w3) SW c v s' r' vi')/\Hid (AB (c.T G1) w3 wy)/\Hid (wy.ownsRow 0 3 1 (.slice A3 LN Yj) LN (J4 L LN))/\Hid (B8 v rs c.n c.R (J1 L j) s'/\DF ⟨L,[],false⟩ s'/\s'.st=[])/\s46=iI j) (λs46 _=>LN-(intOf s46).toNat)
     case atStart=>
      exact⟨0,⟨L,[],false⟩,_,vi,ζg _,⟨Xl.up (w:=w3) Xl.bB⟩,⟨AB.refl _ _⟩,⟨ZJ Xw.o (ζg _)⟩,⟨HJ.o.1.found,DF.refl _,rfl⟩,rfl⟩
     case round=>
      obtain⟨j,s',r',vi',hj,Yg,Xt,Xs,Xn,rfl⟩:=hrel;by_cases Z:j=LN
      ·subst Z;go_wp2
       have hgk:1<=gk:=by
        have:=HK.o (by simp);have h2:=HJ.o.1.mkd.good.len;have h2:L.length<=c.n:=h2;have h3:c.n+1<=L.length+gk:=this;omega
       go_roundg (gk-1)
       case measure=>omega
       case rel=>
        obtain⟨q1,q2,q3⟩:=Xn.o;have I:=q2.len;have I:L.length<=s'.L.length:=I;have Yr:AB (c.T (plus G w)) wo wr:=(Yq.o.trans Xt.o).mono (λi _ h=>h.imp id (λh=>h.imp id (λh=>(Xk.o i h).1)));have Yp:s'.L≠[]:=λe=>by have h1:=I;rw[e]at h1;exact Yu (ζv (Nat.le_zero.1 h1))
        refine⟨s',r',vi',⟨Yg.o.sub (λi h=>h.elim (λh=>(Xk.o i h).1) (λh=>.inr Ω)) (H.sep.plus H.bB)⟩,⟨IF HT.o Yr⟩,⟨q1.weak (λa h=>absurd h (by rw[Xc.o];exact Jdx a)),q3,λx hx h0=>q2.sub _ (HJ.o.2.2.1 x hx h0),λh=>absurd h Yp,λ_=>Yp⟩,⟨λhl=>?_⟩⟩;have h5:=HK.o (by simp);have h5:c.n+1<=L.length+gk:=h5;rcases q2.los hl with h|h
        ·cases h
        ·have h:L.length<s'.L.length:=h;omega
      ·have U:j<L.length:=by have:=Xc.o;omega
       have Yw:(j:Int)<(LN:Int):=Ω
       obtain⟨g,cc',ea,-,-,-,-⟩:=EU Xs.o Ω;simp only[Value.slice.injEq]at ea;obtain⟨rfl,-,rfl⟩:=ea;obtain⟨a,ha⟩:∃a:Int,a=(L[j].1:Nat):=⟨_,rfl⟩;have kc:=BU Xs.o (j:=j) (u:=iI a) (by rw[ha];unfold J4 zs;rw[Xc.o,ζ7];simp[U]);have Ym:Hid (Hs L a/\a=(L[j].1:Nat)):=⟨⟨L[j],κ U,ha.symm⟩,ha⟩;have Xf:=ι (ξ hj (ξ Z U));have Xo:Hid (∀(W:World) (t:MkS) (x y:Int),A1 W SV (plus G1 w3) SW c v t x y->AB (c.T G1) w3 W->A1 W SV (plus G w) SW c v t x y/\AB (c.T G) w W):=⟨λW t x y hm ht=>⟨hm.sub (λi h=>h.elim (λh=>(Xk.o i h).1) (λh=>.inr Ω)) (H.sep.plus H.bB),IF HT.o ((Yq.o.trans ht).mono (λi _ h=>h.imp id (λh=>h.imp id (λh=>(Xk.o i h).1))))⟩⟩;clear hj Z ha
       go_wp2_with(first
        | (go_at_call 131;refine(ZUP Yg.o HP Xn.o.1 (Xn.o.2.1.sub a Ym.o.1)).mono ?_;rintro e w4 ⟨Xb,(⟨rfl,s4,r4,Xz,Xa,E⟩|⟨rfl,E,s4,r4,Xz,Xa⟩)⟩ <;> (have Yv:=ι (BX Xs.o Xb Yo.o);have J:=ι (IF Xt.o Xb);have Xg:=ι (Xa.back Xt.o.size Yi.o Xl.bB);have V:=ι E;clear Xb Xa E))
        | (go_at_call 127;refine(ZZ Xg.o HP (V.o.1.done V.o.2.2.1 (Y:=J1 L (j+1)) (λx hx=>by rw[Ym.o.2];exact J6E Xf.o.2.2 hx))).mono ?_;rintro e w5 ⟨Xd,(⟨rfl,s5,r5,Xj,O,D⟩|⟨rfl,D,s5,r5,Xj,O⟩)⟩ <;> (have Yx:=ι (BX Yv.o Xd Yo.o);have Xe:=ι (IF J.o Xd);have Xh:=ι (O.back J.o.size Yi.o Xl.bB);have Xi:=ι D;clear Xd O D)))
       ·go_round
        case rel=>
         obtain⟨p1,p2,p3,p4⟩:=V.o;obtain⟨t1,t2,t3,t4⟩:=Xi.o;refine⟨j+1,s5,r5,Xj,by have:=Xf.o;omega,Xh,Xe,Yx,⟨t1,(Xn.o.2.1.trans p2).trans t2,t3⟩,by go_num⟩
        case measure=>have:=Xf.o;simp[intOf];omega
       ·exact⟨rfl,CM.no (Xo.o _ _ _ _ Xh.o Xe.o).2 (Xo.o _ _ _ _ Xh.o Xe.o).1 Xi.o⟩
       ·exact⟨rfl,CM.no (Xo.o _ _ _ _ Xg.o J.o).2 (Xo.o _ _ _ _ Xg.o J.o).1 V.o⟩
  ·have Yw:(j:Int)<(N:Int):=Ω
   have U:j<rs.length:=by have:=HN.o;omega
   obtain⟨b,o,rfl,hb,Yn,e0⟩:=HA j U;have i0:=(HT.o.cell hb Yn (o+j)).trans e0;obtain⟨a,ha⟩:∃a,a=rs[j]:=⟨_,rfl⟩;rw[<-ha]at i0 e0;have Yy:Hid (a≠0->Rch v rs a):=⟨λh0=>Rch.root (by rw[ha];exact κ U) h0⟩
   have Yt:Hid (∀x,x∈rs.take (j+1)->x∈rs.take j\/x=a):=⟨λx hx=>by
    rw[ζW U]at hx
    exact(ζf.1 hx).imp id (λh=>by rw[ha];exact ζM.1 h)⟩
   have Xf:=ι (ξ hj Z);clear hj Z U ha e0 Yn
   go_wp2_with(first
    | (go_at_call 126;refine(VVL HM.o HP HJ.o.1 Yy.o).mono ?_;rintro e w4 ⟨Xb,(⟨rfl,s4,r4,Xz,Xa,E⟩|⟨rfl,E,s4,r4,Xz,Xa⟩)⟩ <;> (have J:=ι (IF HT.o Xb);have Xg:=ι (Xa.back HT.o.size H.sep H.bB);have V:=ι E;clear Xb Xa E))
    | (go_at_call 127;refine(ZZ Xg.o HP V.o.1).mono ?_;rintro e w5 ⟨Xd,(⟨rfl,s5,r5,Xj,O,D⟩|⟨rfl,D,s5,r5,Xj,O⟩)⟩ <;> (have Xe:=ι (IF J.o Xd);have Xh:=ι (O.back J.o.size H.sep H.bB);have Xi:=ι D;clear Xd O D)))
   ·go_round
    case rel=>
     obtain⟨q1,q2,q3,q4,q5⟩:=HJ.o;obtain⟨p1,p2,p3,rfl,rfl⟩:=V.o;obtain⟨t1,t2,t3,t4⟩:=Xi.o;have I:=p2.trans t2;refine⟨j+1,s5,r5,Xj,by have:=Xf.o;omega,Xh,Xe,⟨t1,t3,λx hx h0=>?_,t4 (λh=>q4 ?_),λhl=>?_⟩,by go_num⟩
     ·rcases Yt.o x hx with h|rfl
      ·exact I.sub _ (q3 x h h0)
      ·exact t2.sub _ (p3 h0)
     ·have:=p2.len;rw[h]at this;exact ζv (by simpa using this)
     ·have h5:=I.len;rcases I.los hl with h|h
      ·exact λe=>q5 h (ζv (by rw[e]at h5;simpa using h5))
      ·intro e;rw[e]at h;simp at h
    case measure=>have:=Xf.o;simp[intOf];omega
   ·exact⟨rfl,CM.no Xe.o Xh.o Xi.o⟩
   ·exact⟨rfl,CM.no J.o Xg.o V.o⟩
theorem VUu(args:Array Value)(W:World):(callFunc 88 args).run prog W=.ok (.enter 88 args) W:=by kernel_rfl
def U9(z:Sp)(m g:Nat)(wk:Value)(L:List Ob)(r vi:Int):List Value:=[z.v,pP m,pP g,wk,iI (L.length:Nat),iI (sizes L:Nat),iI r,iI vi]
theorem QNt(hrow:Rec w c.k 161 (U9 c.z c.m c.g (.pointer none) [] 0 0))(hp:∀a,Rch v rs a->c.z.Rd v a)(h:A1 (w.setCell ⟨c.k,3,none⟩ (.pointer (some ⟨c.wk,0,none⟩))) SV G SW c v s0 0 0)
  (c12:w.cell? ⟨b12,0,none⟩=some (pP c.k)) (c5:w.cell? ⟨b5,0,none⟩=some (.slice A rs.length cp)) (n12:b12≠c.k) (n5:b5≠c.k) (hA:E8 (c.T G) w A rs) (hlen:rs.length<=maxLen):
  Calls prog 88 #[pP c.wk,pP b12,pP b5] w (CM w SV G SW c v (NF v rs c) (¬CE v rs c.n)):=by
 have k3:=hrow.cc 3;have kf:=hrow.free 3;have J:(w.setCell ⟨c.k,3,none⟩ (.pointer (some ⟨c.wk,0,none⟩))).heap.size=w.heap.size:=World.size_setCell ..;have U:=hA.touch (OC (w:=w) (c:=c) (G:=G) 3 (pP c.wk)) (λ_ _ h=>h);have Y:=(YXl (cp:=cp) h hp U hlen)
 have V:Hid (∀e w',CM (w.setCell ⟨c.k,3,none⟩ (.pointer (some ⟨c.wk,0,none⟩))) SV G SW c v (NF v rs c) (¬CE v rs c.n) e w'->CM w SV G SW c v (NF v rs c) (¬CE v rs c.n) e w'):=⟨λe w' he=>by
  obtain⟨ht,he⟩:=he;unfold plus at he;rw[J]at he
  exact⟨(OC 3 _).trans ht,he⟩⟩
 have tk:=(AB.refl (λi=>i=c.k) w).setCell (a:=⟨c.k,3,none⟩) (λ_=>rfl) (pP c.wk);have x5:=(tk.cell (AT c5) n5 0).trans c5;have x12:=(tk.cell (AT c12) n12 0).trans c12;go_enter func88,ntmps88;go_wp2_with(go_at_call 89;refine Y.mono ?_;intro e w1 he;have he:=V.o _ _ he;rcases he with⟨Z,(⟨rfl,h1⟩|⟨rfl,h1⟩)⟩)
 ·refine ζx (ζk rfl _ _ _) rfl ?_;exact⟨Z,.inl ⟨rfl,h1⟩⟩
 ·obtain⟨-,h2⟩:=h1;exact⟨rfl,Z,.inr ⟨rfl,trivial,h2⟩⟩
structure JD(w:World)(SV:Nat->Prop)(z:Sp)(k m p1 b1 p2 b2 n g:Nat)(v:Vm)(L:List Ob)(r vi:Int):Prop where
 zk:z.Ok
 vm:z.I v SV w
 ext:Ext w m p1 b1 p2 b2 n L
 tab:AP w
 row:∃wk,Rec w k 161 (U9 z m g wk L r vi)
theorem JD.touch{p1 b1 p2 b2:Nat}(h:JD w SV z k m p1 b1 p2 b2 n g v L r vi)(t:AB S w w')(hv:∀i,SV i->¬S i)(hm:∀i,AS m b1 b2 i->¬S i)(h1:¬S p1)(h2:¬S p2)(ht:¬S 1)(hk:¬S k)(hd:∀i,z.D i->¬S i):JD w' SV z k m p1 b1 p2 b2 n g v L r vi:=
 ⟨h.zk,h.zk.fr h.vm t (λi _ hi=>⟨λh=>hv i h hi,λh=>hd i h hi⟩) (λ_ h=>h),h.ext.touch t (hm _ (.inl rfl)) h1 (hm _ (.inr (.inl rfl))) h2 (hm _ (.inr (.inr rfl))),t.tab h.tab.lt ht h.tab,by obtain⟨wk,hr⟩:=h.row;exact⟨wk,hr.touch t hk⟩⟩
def XT9(w:World)(SV SG:Nat->Prop)(z:Sp)(k m p1 b1 p2 b2 n g:Nat)(v:Vm)(rs:List Int)(e:Ending)(w':World):Prop:=
 AB (λi=>i=k\/AS m b1 b2 i\/SG i\/SV i) w w'/\∃x y L r vi,e=.returned (.agg #[iI x,iI y])/\JD w' SV z k m p1 b1 p2 b2 n g v L r vi ∧
  ((x=0/\BF v rs n L/\(L=[]->r=1/\vi=0))\/(x=25/\¬CE v rs n))
theorem Q3I{SG:Nat->Prop}{p1 b1 p2 b2:Nat}(hz:z.Ok/\¬z.M)(hfail:CE v rs n\/∃q,z=spM q)(hp:∀a,Rch v rs a->z.Rd v a)(hD:∀i,z.D i->i<w.heap.size/\¬(i=k\/AS m b1 b2 i\/SG i))(hV:z.I v SV w)(hE:Ext w m p1 b1 p2 b2 n [])(hS:BY w SG g [] R false)(hR:Rec w k 161 (U9 z m g (.pointer none) [] 0 0))(hT:AP w)
  (c12:w.cell? ⟨b12,0,none⟩=some (pP k)) (c5:w.cell? ⟨b5,0,none⟩=some (.slice A rs.length cp)) (n12:b12≠k) (n5:b5≠k) (hA:E8 (λi=>i=k\/AS m b1 b2 i\/SG i) w A rs) (hlen:rs.length<=maxLen)
  (hSV:∀i,SV i->i<w.heap.size/\¬(i=k\/AS m b1 b2 i\/SG i)) (hSG:∀i,SG i->i<w.heap.size) (hp1:¬(p1=k\/AS m b1 b2 p1\/SG p1)) (hp2:¬(p2=k\/AS m b1 b2 p2\/SG p2)) (htb:¬(1=k\/AS m b1 b2 1\/SG 1))
  (hv1:¬SV p1) (hv2:¬SV p2) (hvt:¬SV 1) (hkm:¬AS m b1 b2 k) (hkg:¬SG k) (hmg:∀i,AS m b1 b2 i->¬SG i):
  Calls prog 87 #[z.v,.func (.func 88) #[] #[pP b12,pP b5]] w (XT9 w SV SG z k m p1 b1 p2 b2 n g v rs):=by
 have Xl:(AK w z.v).heap.size=w.heap.size+2:=by unfold AK;rw[γ,γ]
 obtain⟨q0,Xm⟩:∃q0,∀q,z=spM q->q0=q:=by
  by_cases h:∃q,z=spM q
  ·obtain⟨q,rfl⟩:=h;exact⟨q,λq' h=>by have:=congrArg Sp.rv h;simp[spM]at this;exact this⟩
  ·exact⟨0,λq h'=>absurd ⟨q,h'⟩ h⟩
 obtain⟨W0,U⟩:∃W0,W0=EO (AK w z.v) (w.heap.size+1):=⟨_,rfl⟩;have Xj:W0.heap.size=w.heap.size+5:=by rw[U];unfold EO;rw[γ,γ,γ,Xl]
 have g1:Gr w (AK w z.v):=((Gr.refl w).alloc _).alloc _;have g2:Gr (AK w z.v) W0:=by rw[U];exact(((Gr.refl _).alloc _).alloc _).alloc _
 have g0:Gr w W0:=g1.trans g2;have Xi:=hR.lt
 have Z:∀i,AS m b1 b2 i->i<w.heap.size:=λi hi=>by
  rcases hi with rfl|rfl|rfl
  ·exact hE.hm
  ·exact hE.v1.hb
  ·exact hE.v2.hb
 have Xk:p1<w.heap.size:=hE.v1.hp;have Xq:p2<w.heap.size:=hE.v2.hp;have Xv:=hT.lt;obtain⟨c,hc⟩:∃c:MkC,c=⟨k,z,m,p1,b1,p2,b2,n,g,R,w.heap.size+1,w.heap.size+5⟩:=⟨_,rfl⟩
 have Xb:∀i,c.T SG i->i<w.heap.size:=λi hi=>by
  rw[hc]at hi;rcases hi with rfl|hi|hi
  ·exact Xi
  ·exact Z i hi
  ·exact hSG i hi
 have B:DC c SV SG (λi=>i=w.heap.size+1):=by
  have O:=Xb;rw[hc]at O⊢;exact⟨λi hi=>⟨by have:=(hSV i hi).1;show i<w.heap.size+5;omega,(hSV i hi).2⟩,λi hi=>⟨by show i<w.heap.size+5;omega,λh=>by have:=O i h;omega⟩,⟨by show _<w.heap.size+5;omega,htb⟩,⟨by show p1<w.heap.size+5;omega,hp1⟩,⟨by show p2<w.heap.size+5;omega,hp2⟩,hkm,hkg,by show k<w.heap.size+5;omega,hmg,λi hi=>by have:=Z i hi;show i<w.heap.size+5;omega,λi hi=>⟨by have:=(hD i hi).1;show i<w.heap.size+5;omega,(hD i hi).2⟩⟩
 have Xx:A1 (W0.setCell ⟨c.k,3,none⟩ (.pointer (some ⟨c.wk,0,none⟩))) SV SG (λi=>i=w.heap.size+1) c v s0 0 0:=by
  have tk:AB (λi=>i=c.k) W0 (W0.setCell ⟨c.k,3,none⟩ (.pointer (some ⟨c.wk,0,none⟩))):=(AB.refl (λi=>i=c.k) _).setCell (a:=⟨c.k,3,none⟩) (λ_=>rfl) _;have hw:=(PX w z.v).gr g2;rw[hc]at tk B⊢;refine⟨hz.1.fr (hz.1.gr hV g0) tk (λi _ e=>⟨λh=>(hSV i h).2 (.inl e),λh=>(hD i h).2 (.inl e)⟩) (λ_ h=>h),(hE.gr g0).touch tk (λe=>hkm (.inl e.symm)) (λe=>hp1 (.inl e)) (λe=>hkm (.inr (.inl e.symm))) (λe=>hp2 (.inl e)) (λe=>hkm (.inr (.inr e.symm))),(hS.gr g0).touch tk (λi hi _ e=>hkg (by subst e;exact hi)),hw.touch tk (λi hi _ e=>by have e:i=k:=e;omega),(hR.gr g0).set 3 (pP (w.heap.size+1)),tk.tab (g0.tab hT.lt hT).lt (λe=>htb (.inl e)) (g0.tab hT.lt hT),B,?_,hz⟩
  show w.heap.size+5<=_
  rw[World.size_setCell,Xj];exact ϑ _
 have Xa:=QNt (w:=W0) (b12:=b12) (b5:=b5) (cp:=cp) (A:=A) (rs:=rs) (by rw[hc];exact hR.gr g0) (by rw[hc];exact hp) Xx (by rw[hc];exact(g0.cell (AT c12) 0).trans c12) ((g0.cell (AT c5) 0).trans c5) (by rw[hc];exact n12) (by rw[hc];exact n5)
  (by rw[hc];exact hA.gr g0) hlen
 have V:Calls prog 88 (#[pP (w.heap.size+1)]++#[pP b12,pP b5]) W0
   (N8 q0 (w.heap.size+1) (w.heap.size+3) (c.T SG) W0 (λw1=>∃s r vi,A1 w1 SV (plus SG W0) (λi=>i=w.heap.size+1) c v s r vi/\NF v rs c s r vi)
    (λXc _ v' l S S2 w1=>Xc=25/\v'=v/\l=[]/\S=(λi=>i=w.heap.size+1)/\S2=SV/\¬CE v rs c.n/\∃s r vi,A1 w1 SV (plus SG W0) (λi=>i=w.heap.size+1) c v s r vi)):=by
  have hb:=Xa;rw[show c.wk=w.heap.size+1 by rw[hc]]at hb;refine hb.mono ?_;rintro e w1 ⟨ht,(⟨rfl,s,r,vi,hm,hp⟩|⟨rfl,hn,s,r,vi,hm⟩)⟩
  ·exact⟨ht,.inl ⟨rfl,s,r,vi,hm,hp⟩⟩
  ·obtain⟨q,hq⟩:=hfail.resolve_left (by have:=hn;rwa [show c.n=n by rw[hc]]at this);obtain rfl:=Xm q hq;have Xg:=hm.wk;have Xo:=hm.vm;rw[show c.wk=w.heap.size+1 by rw[hc],show c.z=spM q0 by rw[hc];exact hq]at Xg;rw[show c.z=spM q0 by rw[hc];exact hq]at Xo;exact⟨ht,.inr ⟨25,0,v,[],_,_,rfl,Xg,Xo,λi hi h=>by have:=(hSV i h).1;omega,by omega,λh=>by have:=(hSV _ h).1;omega,rfl,rfl,rfl,rfl,rfl,hn,s,r,vi,hm⟩⟩
 have Xp:=WS (w:=w) (sp:=z.v) (q:=q0) (F:=88) (caps:=#[pP b12,pP b5]) ⟨_,_,rfl⟩ VUu (by rw[<-U];exact V)
  (λi h1 h2 h=>by have:=Xb i h;omega) (λh=>by have:=Xb _ h;omega) (λXc a' v' l S' S2 w1 h=>by
   obtain⟨-,-,-,rfl,rfl,-⟩:=h
   exact⟨by omega,λh=>by have:=(hSV _ h).1;omega⟩)
 refine Xp.mono ?_;rintro e w' ⟨w2,fx,fy,⟨w1,Xr,hp⟩,rfl,rfl⟩;rw[<-U]at Xr;rw[Xl]at hp;subst hc;have T1:AB (λi=>i=k\/AS m b1 b2 i\/SG i\/SV i) w w1:=(g0.touch _).trans' Xr (λi hi h=>h.imp id (λh=>h.imp id .inl));have Xf:∀s r vi,A1 w1 SV (plus SG W0) (λi=>i=w.heap.size+1) ⟨k,z,m,p1,b1,p2,b2,n,g,R,w.heap.size+1,w.heap.size+5⟩ v s r vi->JD w1 SV z k m p1 b1 p2 b2 n g v s.L r vi:=λs r vi hm=>⟨hz.1,hm.vm,hm.ext,hm.tab,_,hm.row⟩
 have E:∀(W1 W2:World) (L:List Ob) (r vi:Int),JD W1 SV z k m p1 b1 p2 b2 n g v L r vi->AB (λi=>w.heap.size<=i) W1 W2->JD W2 SV z k m p1 b1 p2 b2 n g v L r vi:=λW1 W2 L r vi h t=>
  h.touch t (λi hi h=>by have:=(hSV i hi).1;omega) (λi hi h=>by have:=Z i hi;omega) Ω Ω Ω Ω (λi hi h=>by have:=(hD i hi).1;omega)
 have Xe:∀(W:World) (z1 z2:Value),AB (λi=>w.heap.size<=i) W ((W.setCell ⟨w.heap.size,0,none⟩ z1).setCell ⟨w.heap.size,1,none⟩ z2):=λW z1 z2=>
  ((AB.refl (λi=>w.heap.size<=i) W).setCell (a:=⟨w.heap.size,0,none⟩) (λ_=>ϑ _) z1).setCell (a:=⟨w.heap.size,1,none⟩) (λ_=>ϑ _) z2
 rcases hp with⟨⟨s,r,vi,hm,Xn,Xs⟩,he,rfl⟩|⟨Xc,a',v',l,S',S2,⟨rfl,rfl,rfl,rfl,rfl,hn,s,r,vi,hm⟩,he,Xu⟩
 ·have Xd:fx=0/\fy=0:=by simpa using he
  obtain⟨rfl,rfl⟩:=Xd;have Xt:=((AB.refl (λi=>w.heap.size<=i) w1).setCell (a:=⟨w.heap.size+2+1,0,none⟩) (λ_=>by show w.heap.size<=w.heap.size+2+1;omega) (iI 0)).setCell (a:=⟨w.heap.size+2+1,1,none⟩) (λ_=>by show w.heap.size<=w.heap.size+2+1;omega) (iI 0);have Xh:=Xt.trans (Xe _ (iI 0) (iI 0));exact⟨T1.trans' Xh (λi hi h=>by omega),0,0,s.L,r,vi,rfl,E _ _ _ _ _ (Xf s r vi hm) Xh,.inl ⟨rfl,Xn,Xs⟩⟩
 ·have Xd:fx=25/\fy=a':=by simpa using he
  obtain⟨rfl,rfl⟩:=Xd;obtain⟨q1,q2,q3,q4⟩:=Xu;obtain⟨q,hq⟩:=hfail.resolve_left hn;obtain rfl:=Xm q hq;subst hq
  have Y:∀i,i<w.heap.size->¬S2 i->¬(i=w.heap.size+1\/S2 i\/i=w.heap.size+2+1):=λi hi hs h=>by
   rcases h with h|h|h
   ·omega
   ·exact hs h
   ·omega
  have J:=Xf s r vi hm
  have Xw:JD w2 S2 (spM q0) k m p1 b1 p2 b2 n g v' s.L r vi:=⟨hz.1,q2,J.ext.touch q1 (Y _ (Z _ (.inl rfl)) (λh=>(hSV _ h).2 (.inr (.inl (.inl rfl))))) (Y _ Xk hv1) (Y _ (Z _ (.inr (.inl rfl))) (λh=>(hSV _ h).2 (.inr (.inl (.inr (.inl rfl)))))) (Y _ Xq hv2) (Y _ (Z _ (.inr (.inr rfl))) (λh=>(hSV _ h).2 (.inr (.inl (.inr (.inr rfl)))))),
   q1.tab J.tab.lt (Y _ Xv hvt) J.tab,by obtain⟨wk,hr⟩:=J.row;exact⟨wk,hr.touch q1 (Y _ Xi (λh=>(hSV _ h).2 (.inl rfl)))⟩⟩
  refine⟨(T1.trans' q1 (λi hi h=>?_)).trans' (Xe _ _ _) (λi hi h=>by omega),25,fy,s.L,r,vi,rfl,E _ _ _ _ _ Xw (Xe _ _ _),.inr ⟨rfl,hn⟩⟩;rcases h with h|h|h
  ·omega
  ·exact .inr (.inr (.inr h))
  ·omega
def LM(a b c d:Int):Value:=.agg #[iI a,iI b,iI c,iI d]
theorem TS(W:World)(blk off:Nat)(p q r s:Value)(h0:W.cell? ⟨blk,off,none⟩=some p)(h1:W.cell? ⟨blk,off+1,none⟩=some q)(h2:W.cell? ⟨blk,off+2,none⟩=some r)(h3:W.cell? ⟨blk,off+3,none⟩=some s):(loadVar 97 ⟨blk,off,none⟩).run prog W=.ok (.agg #[p,q,r,s]) W:=by
 have a1:(isAgg 97).run prog W=.ok true W:=by kernel_rfl
 have a2:(sizeOf 97).run prog W=.ok 4 W:=by kernel_rfl
 simp[loadVar,Sem.run_bind,a1,a2,Result.andThen,loadCells,go_sem,h0,h1,h2,h3]
def VA2(w:World)(SV:Nat->Prop)(z:Sp)(m p1 b1 p2 b2 n:Nat)(v:Vm)(rs:List Int)(room:Int)(e:Ending)(w':World):Prop:=
 ((room<1\/4096<room)/\e=.returned (.tuple #[LM 0 0 0 0,iI 5])/\Gr w w') ∨
 (1<=room/\room<=4096/\AB (λi=>AS m b1 b2 i\/SV i) w w'/\z.I v SV w' ∧
  ((∃L r vi,e=.returned (.tuple #[LM (L.length:Nat) (sizes L:Nat) r vi,iI 0])/\Ext w' m p1 b1 p2 b2 n L/\BF v rs n L/\(L=[]->r=1/\vi=0)) ∨
   (e=.returned (.tuple #[LM 0 0 0 0,iI 25])/\Ext w' m p1 b1 p2 b2 n []/\¬CE v rs n)))
section
variable{p1 b1 p2 b2:Nat}{L0:List Ob}
theorem J9(w:World)(o:Obj)(T:Nat)(xs:List Value):Rec ((w.alloc o).alloc (.cells xs.toArray T)) (w.heap.size+1) T xs:=by
 have:=Rec.new (w.alloc o) T xs
 simp_all
theorem XX(w:World)(o o':Obj)(T:Nat)(xs:List Value):Rec ((w.alloc o).alloc (.cells xs.toArray T)) (w.heap.size+1) T xs/\Rec (((w.alloc (.cells xs.toArray T)).alloc o')) w.heap.size T xs:=by
 have:=Rec.new (w.alloc o) T xs;rw[γ]at this;exact⟨this,(Rec.new w T xs).gr ((Gr.refl _).alloc _)⟩
theorem L6(W:World)(b:Nat)(z0 z1 z2 z3:Value):AB (λi=>i=b) W ((((W.setCell ⟨b,0,none⟩ z0).setCell ⟨b,1,none⟩ z1).setCell ⟨b,2,none⟩ z2).setCell ⟨b,3,none⟩ z3):=
 ((((AB.refl (λi=>i=b) W).setCell (a:=⟨b,0,none⟩) (λ_=>rfl) z0).setCell (a:=⟨b,1,none⟩) (λ_=>rfl) z1).setCell (a:=⟨b,2,none⟩) (λ_=>rfl) z2).setCell (a:=⟨b,3,none⟩) (λ_=>rfl) z3
theorem ZDS{W:World}{z0 z1 z2 z3:Value}(h:AB S w W):AB S w ((((W.setCell ⟨w.heap.size+1,0,none⟩ z0).setCell ⟨w.heap.size+1,1,none⟩ z1).setCell ⟨w.heap.size+1,2,none⟩ z2).setCell ⟨w.heap.size+1,3,none⟩ z3):=by
 have hx:∀j:Nat,(⟨w.heap.size+1,j,none⟩:Addr).block<w.heap.size->S (⟨w.heap.size+1,j,none⟩:Addr).block:=λj h=>absurd h (by grind);exact(((h.setCell (hx 0) z0).setCell (hx 1) z1).setCell (hx 2) z2).setCell (hx 3) z3
theorem Xbg(hz:z.Ok/\¬z.M)(hfail:CE v rs n\/∃q,z=spM q)(hp:∀a,Rch v rs a->z.Rd v a)(hD:∀i,z.D i->i<w.heap.size/\¬AS m b1 b2 i)(hV:z.I v SV w)(hE:Ext w m p1 b1 p2 b2 n L0)(hT:AP w)(hA:E8 (AS m b1 b2) w A rs)(hlen:rs.length<=maxLen)
  (hvm:∀i,SV i->¬AS m b1 b2 i) (hv1:¬SV p1) (hv2:¬SV p2) (hvt:¬SV 1) (htm:¬AS m b1 b2 1) (room:Int):
  Calls prog 48 #[z.v,.slice A rs.length cp,pP m,iI room] w (VA2 w SV z m p1 b1 p2 b2 n v rs room):=by
 have HE:=hE;have HV:=(hz.1.ct hV);have HZ:=hz;have HF:=hfail;have HP:=hp;have HD:=hD;have HT:=hT;have HA:=hA;have hn1:=hE.nb.1;have dn:((n:Int)==0)=false:=by simp;omega
 have Yr:∀i,AS m b1 b2 i->i<w.heap.size:=λi hi=>by
  rcases hi with rfl|rfl|rfl
  ·exact hE.hm
  ·exact hE.v1.hb
  ·exact hE.v2.hb
 have Xe:p1<w.heap.size:=hE.v1.hp;have Xj:p2<w.heap.size:=hE.v2.hp;have Yw:=hT.lt
 have Xg:¬AS m b1 b2 p1:=λh=>by
  rcases h with h|h|h
  ·exact hE.am.1 h.symm
  ·exact hE.v1.ne h
  ·exact hE.ab.1 h
 have Xc:¬AS m b1 b2 p2:=λh=>by
  rcases h with h|h|h
  ·exact hE.am.2.2.1 h.symm
  ·exact hE.ab.2.1 h
  ·exact hE.v2.ne h
 have J:=Yr;obtain⟨N,hN⟩:∃N,N=rs.length:=⟨_,rfl⟩;have HN:=ι hN;rw[<-hN]at hlen⊢;have h5:=(XX w (.cells #[.slice A N cp] 61) (.cells #[.int .i64 0,.int .i64 0,.int .i64 0,.int .i64 0] 97) 61 [.slice A N cp]).2;have h8:=(XX w (.cells #[.slice A N cp] 61) (.cells #[] 61) 97 [iI 0,iI 0,iI 0,iI 0]).1;have Yg:=h5;have U:=h8;have Xl:Gr w ((w.alloc (.cells #[.slice A N cp] 61)).alloc (.cells #[.int .i64 0,.int .i64 0,.int .i64 0,.int .i64 0] 97)):=((Gr.refl w).alloc _).alloc _;have Ya:((w.alloc (.cells #[.slice A N cp] 61)).alloc (.cells #[.int .i64 0,.int .i64 0,.int .i64 0,.int .i64 0] 97)).heap.size=w.heap.size+2:=by rw[γ,γ]
 obtain⟨wa,Xf⟩:∃wa,wa=((w.alloc (.cells #[.slice A N cp] 61)).alloc (.cells #[.int .i64 0,.int .i64 0,.int .i64 0,.int .i64 0] 97)):=⟨_,rfl⟩;rw[show (w.alloc (.cells ([.slice A N cp]:List Value).toArray 61)).alloc (.cells #[.int .i64 0,.int .i64 0,.int .i64 0,.int .i64 0] 97)=wa from Xf.symm]at Yg;rw[show (w.alloc (.cells #[.slice A N cp] 61)).alloc (.cells ([.int .i64 0,.int .i64 0,.int .i64 0,.int .i64 0]:List Value).toArray 97)=wa from Xf.symm]at U;rw[<-Xf]at Xl Ya;have Yf:=Xl;have Xy:=ι Xf;have Xt:=(HE.gr Xl);have Xv:Hid (∀i,AD SV w i->i<w.heap.size/\¬AS m b1 b2 i):=⟨λi hi=>⟨hi.2,hvm i hi.1⟩⟩;have Yk:=(ξ hv1 (ξ hv2 (ξ hvt (ξ htm (ξ Xg Xc)))));clear hV hz hfail hp hD hE hT hA h5 h8 Xf Xl hvm hv1 hv2 hvt htm Xg Xc Yr hN;by_cases Xr:room<1\/4096<room
 ·have Xw:Hid (∀W,cQ 85 #[iI room] W (.tuple #[.pointer none,iI 5])):=⟨λW=>(VgV room W).mono λe w' h=>by
   rcases h with⟨-,h1,h2⟩|⟨h1,h2,-⟩
   ·exact⟨h1,h2⟩
   ·omega⟩
  have Xa:=Xr;unfold Sp.v;go_enter func48,ntmps48;go_upto_region 1 with(fail);rw[<-Xy.o];have y0:=U.cc 0;have y1:=U.cc 1;have y2:=U.cc 2;have y3:=U.cc 3;have yf:=U.free
  go_wp2_with(first
   | (go_at_call 84;refine(EL Xt).mono ?_;rintro e w1 ⟨rfl,rfl⟩)
   | (go_at_call 85;refine(Xw.o _).mono ?_;rintro e w1 ⟨rfl,rfl⟩))
  have R:=((((U.set 0 (iI 0)).set 1 (iI 0)).set 2 (iI 0)).set 3 (iI 0));have hl:=TS _ _ 0 _ _ _ _ (R.cc 0) (R.cc 1) (R.cc 2) (R.cc 3);refine ζK (v:=.tuple #[.agg #[iI 0,iI 0,iI 0,iI 0],iI 5]) ?_ rfl (.inl ⟨Xa,rfl,?_⟩)
  ·rw[results_cell_tmp rfl];simp[asAddr,Result.andThen,hl]
  ·exact(ZDS (Yf.touch _)).gr
 ·have Xk:1<=room/\room<=4096:=Ω
  have Xw:Hid (∀W,Calls prog 85 #[iI room] W λe w'=>e=.returned (.tuple #[pP W.heap.size,iI 0])/\Gr W w'/\BY w' (λk=>W.heap.size<=k) W.heap.size [] room.toNat false):=⟨λW=>(VgV room W).mono λe w' h=>by
   rcases h with⟨h1,-⟩|⟨-,-,h1,h2,h3⟩
   ·omega
   ·exact⟨h1,h2,h3⟩⟩
  have Xa:=Xk;unfold Sp.v;go_enter func48,ntmps48;go_upto_region 1 with(fail);rw[<-Xy.o];obtain⟨gs,Yo⟩:∃gs,gs=wa.heap.size:=⟨_,rfl⟩;have Yu:=Yo
  go_upto_region 8 with(first
   | (go_at_call 84;refine(EL Xt).mono ?_;rintro e w1 ⟨rfl,rfl⟩)
   | (go_at_call 85;refine(Xw.o _).mono ?_;rintro e ws ⟨rfl,Ys,Xx⟩;have Z:=Ys;have Yc:=Xx.cut)
   | (go_at_call 86;refine(Zca (Xt.gr Z)).mono ?_;rintro e w3 ⟨rfl,Zb,Yy⟩;have Xi:=Zb;have Zc:=Yy))
  have Yd:Hid (BY ws (AD (λk=>w.heap.size+2<=k) ws) (w.heap.size+2) [] room.toNat false):=⟨by have:=Yc;rw[Ya]at this;exact this⟩;have Yt:=Z.size;have hz3:=Xi.size;have Yv:w.heap.size+2<=w3.heap.size:=Ω
  have E:∀i,AS m b1 b2 i->i<w.heap.size:=J;obtain⟨hv1,hv2,hvt,htm,Xg,Xc⟩:=Yk;have g2:Gr w3 ((w3.alloc (.cells #[.iface z.T z.rv,.pointer (some ⟨m,0,none⟩),.pointer (some ⟨w.heap.size+2,0,none⟩),.pointer none,.int .i64 0,.int .i64 0,.int .i64 0,.int .i64 0] 161)).alloc (.cells #[.pointer (some ⟨w3.heap.size,0,none⟩)] 158)):=((Gr.refl w3).alloc _).alloc _;have Xd:((w3.alloc (.cells #[.iface z.T z.rv,.pointer (some ⟨m,0,none⟩),.pointer (some ⟨w.heap.size+2,0,none⟩),.pointer none,.int .i64 0,.int .i64 0,.int .i64 0,.int .i64 0] 161)).alloc (.cells #[.pointer (some ⟨w3.heap.size,0,none⟩)] 158)).heap.size=w3.heap.size+2:=by rw[γ,γ]
  have Xm:=J9 w3 (.cells #[.iface z.T z.rv,.pointer (some ⟨m,0,none⟩),.pointer (some ⟨w.heap.size+2,0,none⟩),.pointer none,.int .i64 0,.int .i64 0,.int .i64 0,.int .i64 0] 161) 158 [pP w3.heap.size];have rk:=(Rec.new w3 161 [.iface z.T z.rv,pP m,pP (w.heap.size+2),.pointer none,iI 0,iI 0,iI 0,iI 0]).gr ((Gr.refl _).alloc (.cells #[.pointer (some ⟨w3.heap.size,0,none⟩)] 158));obtain⟨W,hW⟩:∃W,W=((w3.alloc (.cells #[.iface z.T z.rv,.pointer (some ⟨m,0,none⟩),.pointer (some ⟨w.heap.size+2,0,none⟩),.pointer none,.int .i64 0,.int .i64 0,.int .i64 0,.int .i64 0] 161)).alloc (.cells #[.pointer (some ⟨w3.heap.size,0,none⟩)] 158)):=⟨_,rfl⟩;rw[<-hW]at g2 Xd⊢;rw[show (w3.alloc (.cells #[.iface z.T z.rv,.pointer (some ⟨m,0,none⟩),.pointer (some ⟨w.heap.size+2,0,none⟩),.pointer none,.int .i64 0,.int .i64 0,.int .i64 0,.int .i64 0] 161)).alloc (.cells ([.pointer (some ⟨w3.heap.size,0,none⟩)]:List Value).toArray 158)=W from hW.symm]at Xm;rw[show (w3.alloc (.cells ([.iface z.T z.rv,.pointer (some ⟨m,0,none⟩),.pointer (some ⟨w.heap.size+2,0,none⟩),.pointer none,.int .i64 0,.int .i64 0,.int .i64 0,.int .i64 0]:List Value).toArray 161)).alloc (.cells #[.pointer (some ⟨w3.heap.size,0,none⟩)] 158)=W from hW.symm]at rk;have tW:AB (AS m b1 b2) w W:=((Yf.trans Z).touch _ |>.trans Xi).trans (g2.touch _)
  have V:∀i,i<w.heap.size->¬AS m b1 b2 i->¬(i=w3.heap.size\/AS m b1 b2 i\/AD (λk=>w.heap.size+2<=k) ws i):=λi hi hn h=>by
   rcases h with h|h|h
   ·omega
   ·exact hn h
   ·have:=h.1;omega
  have Xh:=Q3I (w:=W) (SV:=AD SV w) (SG:=AD (λk=>w.heap.size+2<=k) ws) (z:=z) (k:=w3.heap.size) (m:=m) (g:=w.heap.size+2) (R:=room.toNat) (b12:=w3.heap.size+1) (b5:=w.heap.size) (cp:=cp) (v:=v) (rs:=rs) (A:=A)
   HZ HF HP (λi hi=>⟨by have:=(HD i hi).1;omega,V i (HD i hi).1 (HD i hi).2⟩) (HZ.1.fr HV tW (λi _ h=>⟨λhi=>(Xv.o i hi).2 h,λhi=>(HD i hi).2 h⟩) (λ_ h=>h)) (Zc.gr g2) ((Yd.o.touch Xi (λi hi _ h=>by have:=E i h;have:=hi.1;omega)).gr g2) rk (tW.tab HT.lt htm HT)
   (Xm.cc 0) (by rw[<-HN.o];exact(((Yg.gr Z).touch Xi (λh=>by have:=E _ h;omega)).gr g2).cell (j:=0) rfl) Ω Ω
   ((HA.mono (T':=λi=>i=w3.heap.size\/AS m b1 b2 i\/AD (λk=>w.heap.size+2<=k) ws i) (λb hb h=>by
    rcases h with h|h|h
    ·omega
    ·exact h
    ·have:=h.1;omega)).touch tW (λ_ _ h=>.inr (.inl h))) (by rw[<-HN.o];exact hlen)
   (λi hi=>⟨by have:=hi.2;omega,λh=>by
    rcases h with h|h|h
    ·have:=hi.2;omega
    ·exact(Xv.o i hi).2 h
    ·have:=hi.2;have:=h.1;omega⟩) (λi hi=>by have:=hi.2;omega) (V _ Xe Xg) (V _ Xj Xc) (V _ Yw htm) (λh=>hv1 h.1) (λh=>hv2 h.1) (λh=>hvt h.1) (λh=>by have:=E _ h;omega) (λh=>by have:=h.2;omega) (λi hi h=>by have:=E i hi;have:=h.1;omega)
  have Xp:=Xh;have Xz:=tW;have Yi:=Xm;have Yb:=(((U.gr Z).touch Xi (λh=>by have:=E _ h;omega)).gr g2);have Xu:=(ξ Yv (ξ Xd Yt))
  have Yp:Hid (∀i,w.heap.size<=i->i<w.heap.size+2\/i=w3.heap.size+1->¬(i=w3.heap.size\/AS m b1 b2 i\/AD (λk=>w.heap.size+2<=k) ws i\/AD SV w i)):=⟨λi h1 h2 h=>by
   rcases h with h|h|h|h
   ·omega
   ·have:=E i h;omega
   ·have:=h.1;have:=h.2;omega
   ·have:=h.2;omega⟩
  unfold Sp.v at Xp;clear Xh tW Xm rk hW g2 V Xd E Xg Xc hv1 hv2 hvt htm Yo Yu;have hcf:=VUu;have hmf:∀(fn:Fn) (first cap:Array Value) (w:World),(Instr.makeFunc fn first cap).run prog w=.ok (.func fn first cap) w:=λ_ _ _ _=>rfl
  go_wp2_with(first
   | (go_at_call 87;refine Xp.mono ?_;rintro e w5 ⟨Xs,x,y,L,r,vi,rfl,Yh,(⟨rfl,Za,Ye⟩|⟨rfl,Zd⟩)⟩ <;> (have Yl:=Xs;have Xn:=Yh;have Yn:=Yi.touch Xs (Yp.o _ (by have:=Xu.1;omega) (.inr rfl));have R8:=Yb.touch Xs (Yp.o _ Ω (.inl Ω));have x12:=Yn.cc 0;have l12:=Yn.lt;have l8:=R8.lt;have e0:=R8.cc 0;have e1:=R8.cc 1;have e2:=R8.cc 2;have e3:=R8.cc 3;have ef:=R8.free;obtain⟨wk,O⟩:=Yh.row;have k4:=O.cc 4;have k5:=O.cc 5;have k6:=O.cc 6;have k7:=O.cc 7;have lk:=O.lt;have Xo:=R8))
   | (go_at_call 86;refine(Zca (Xn.ext.gr ((Gr.refl _).alloc _))).mono ?_;rintro e w6 ⟨rfl,Yj,Yz⟩;have Xb:=(Xo.gr ((Gr.refl _).alloc (.cells #[.int .i64 25,.int .i64 y] 163))).touch Yj (λh=>by have:=J _ h;omega);have f0:=Xb.cc 0;have f1:=Xb.cc 1;have f2:=Xb.cc 2;have f3:=Xb.cc 3;have ff:=Xb.free;have Ym:=Xb;have Yq:=Yj;have Yx:=Yz))
  ·have B:=λW=>(Gr.refl W).alloc (.cells #[.int .i64 0,.int .i64 y] 163);have R:=(((((Xo).set 0 (iI (L.length:Nat))).set 1 (iI (sizes L:Nat))).set 2 (iI r)).set 3 (iI vi)).gr (B _);have hl:=TS _ _ 0 _ _ _ _ (R.cc 0) (R.cc 1) (R.cc 2) (R.cc 3);have tf:=L6 w5 (w.heap.size+1) (iI (L.length:Nat)) (iI (sizes L:Nat)) (iI r) (iI vi)
   have hT:AB (λi=>AS m b1 b2 i\/SV i) w w5:=(Xz.mono (λi _ h=>.inl h)).trans' Yl (λi hi h=>by
    rcases h with h|h|h|h
    ·have:=Xu.1;omega
    ·exact .inl h
    ·have:=h.1;omega
    ·exact .inr h.1)
   have Xq:=(hT.trans' tf (λi hi h=>by omega)).trans ((B _).touch _);refine ζK (v:=.tuple #[.agg #[iI (L.length:Nat),iI (sizes L:Nat),iI r,iI vi],iI 0]) ?_ rfl (.inr ⟨Xa.1,Xa.2,Xq,?_,.inl ⟨L,r,vi,rfl,?_,Za,Ye⟩⟩)
   ·rw[results_cell_tmp rfl];simp[asAddr,Result.andThen,hl]
   ·exact HZ.1.mono (HZ.1.gr (HZ.1.fr Xn.vm tf (λi _ h=>⟨λhi=>by have:=hi.2;omega,λhi=>by have:=(HD i hi).1;omega⟩) (λ_ h=>h)) (B _)) (λi hi=>hi.1)
   ·have Y:∀i,i<w.heap.size->i≠w.heap.size+1:=λi h=>by omega
    exact(Xn.ext.touch tf (Y _ (J _ (.inl rfl))) (Y _ Xe) (Y _ (J _ (.inr (.inl rfl)))) (Y _ Xj) (Y _ (J _ (.inr (.inr rfl))))).gr (B _)
  ·have B:=(Gr.refl w5).alloc (.cells #[.int .i64 25,.int .i64 y] 163);have R:=(((((Ym).set 0 (iI 0)).set 1 (iI 0)).set 2 (iI 0)).set 3 (iI 0));have hl:=TS _ _ 0 _ _ _ _ (R.cc 0) (R.cc 1) (R.cc 2) (R.cc 3);have tf:=L6 w6 (w.heap.size+1) (iI 0) (iI 0) (iI 0) (iI 0)
   have hT:AB (λi=>AS m b1 b2 i\/SV i) w w5:=(Xz.mono (λi _ h=>.inl h)).trans' Yl (λi hi h=>by
    rcases h with h|h|h|h
    ·have:=Xu.1;omega
    ·exact .inl h
    ·have:=h.1;omega
    ·exact .inr h.1)
   have Xq:=((hT.trans (B.touch _)).trans (Yq.mono (λi _ h=>.inl h))).trans' tf (λi hi h=>by omega);refine ζK (v:=.tuple #[.agg #[iI 0,iI 0,iI 0,iI 0],iI 25]) ?_ rfl (.inr ⟨Xa.1,Xa.2,Xq,?_,.inr ⟨rfl,?_,Zd⟩⟩)
   ·rw[results_cell_tmp rfl];simp[asAddr,Result.andThen,hl]
   ·exact HZ.1.mono (HZ.1.fr (HZ.1.fr (HZ.1.gr Xn.vm B) Yq (λi _ h=>⟨λhi=>(Xv.o i hi).2 h,λhi=>(HD i hi).2 h⟩) (λ_ h=>h)) tf (λi _ h=>⟨λhi=>by have:=hi.2;omega,λhi=>by have:=(HD i hi).1;omega⟩) (λ_ h=>h)) (λi hi=>hi.1)
   ·have Y:∀i,i<w.heap.size->i≠w.heap.size+1:=λi h=>by omega
    exact Yx.touch tf (Y _ (J _ (.inl rfl))) (Y _ Xe) (Y _ (J _ (.inr (.inl rfl)))) (Y _ Xj) (Y _ (J _ (.inr (.inr rfl))))
def J6M(w:World)(SV:Nat->Prop)(q m p1 b1 p2 b2 n:Nat)(v:Vm)(rs:List Int)(room:Int)(e:Ending)(w':World):Prop:=
 ((room<1\/4096<room)/\e=.returned (.tuple #[LM 0 0 0 0,iI 5])/\Gr w w') ∨
 (1<=room/\room<=4096/\AB (λi=>AS m b1 b2 i\/SV i) w w'/\AC w' SV q v ∧
  ((∃L r vi,e=.returned (.tuple #[LM (L.length:Nat) (sizes L:Nat) r vi,iI 0])/\Ext w' m p1 b1 p2 b2 n L/\BF v rs n L/\(L=[]->r=1/\vi=0)) ∨
   (e=.returned (.tuple #[LM 0 0 0 0,iI 25])/\Ext w' m p1 b1 p2 b2 n []/\¬CE v rs n)))
theorem UY(hV:AC w SV q v)(hE:Ext w m p1 b1 p2 b2 n L0)(hT:AP w)(hA:E8 (AS m b1 b2) w A rs)(hlen:rs.length<=maxLen)
  (hvm:∀i,SV i->¬AS m b1 b2 i) (hv1:¬SV p1) (hv2:¬SV p2) (hvt:¬SV 1) (htm:¬AS m b1 b2 1) (room:Int):
  Calls prog 48 #[spV q,.slice A rs.length cp,pP m,iI room] w (J6M w SV q m p1 b1 p2 b2 n v rs room):=
 Xbg (z:=spM q) ⟨QT q,λh=>h⟩ (.inr ⟨q,rfl⟩) (λ_ _=>⟨λ_=>trivial,λ_ _=>trivial⟩) (λ_ h=>h.elim) hV hE hT hA hlen hvm hv1 hv2 hvt htm room
end
section
attribute [local go_sem] Oper.semAt_some
structure O2(v:Vm)(rs:List Int)(c:Cf):Prop where
 cf:GX v.pl.pg v.n c
 sd:CE v rs v.n
 inn:∀L,BF v rs v.n L->(∀o∈L,c.fr<=o.1/\o.1+o.2<=c.tp)/\c.to+sizes L<=c.lm
def V1i(w:World)(S:Nat->Prop)(q:Nat)(v:Vm)(rs:List Int)(e:Ending)(w':World):Prop:=
 ∃L,BF v rs v.n L/\e=.returned (.tuple #[iI (sizes L:Nat),iI 0])/\AB S w w'/\AC w' (AD S w) q v
structure XY(w wx:World)(S:Nat->Prop)(q m p1 b1 p2 b2 b11:Nat)(v:Vm)(rs:List Int)(c:Cf)(L:List Ob)(r vi:Int):Prop where
 t:AB S w wx
 vm:AC wx (AD S w) q v
 ex:Ext wx m p1 b1 p2 b2 v.n L
 mks:BF v rs v.n L
 st:Rec wx b11 97 [iI (L.length:Nat),iI (sizes L:Nat),iI r,iI vi]
 bx:Rec wx w.heap.size 143 [iI c.fr,iI c.tp,iI c.to,iI c.lm,iI c.bk,iI c.st,iI c.ah]
 r6:Rec wx (w.heap.size+1) 3 [iI 0]
 r7:Rec wx (w.heap.size+2) 27 [iI 0]
 lm:w.heap.size+3<=m
 l1:w.heap.size+3<=p1
 l2:w.heap.size+3<=b1
 l3:w.heap.size+3<=p2
 l4:w.heap.size+3<=b2
 l5:w.heap.size+3<=b11
section
variable{r:Nat}{c:Cf}
theorem Qwc(hV:AC w S q v)(hR:AR w r g rs)(hT:AP w)(htS:¬S 1)(hc:O2 v rs c):
  Calls prog 134 #[pP q,pP r,cfV c] w (V1i w S q v rs):=by
 have HV:=hV.cut;have HR:=hR;have HT:=hT;have Zw:=htS;have HC:=hc;have Jh:=hT.lt;have Xs:=hc.cf;have Jg:1<=v.n:=by have:=Xs.fr;have:=Xs.tp;have:=Xs.tn;have:=hV.ok.page.1;omega
 have hn2:=hV.ok.n2;have Jl:rs.length≠0:=λe=>hR.ne (ζv e);have Jq:=hR.le;have HX:=(λW=>QG v.n Jg Ω W);have Je:=(ξ Xs.st.1 Xs.st.2);obtain⟨n,Yj⟩:∃n,n=rs.length:=⟨_,rfl⟩;have HN:=ι Yj;rw[<-Yj]at Jl Jq;have d0:((n:Int)==0)=false:=by simp;omega
 have g1:Gr w (((w.alloc (.cells #[.int .i64 c.fr,.int .i64 c.tp,.int .i64 c.to,.int .i64 c.lm,.int .i64 c.bk,.int .i64 c.st,.int .i64 c.ah] 143)).alloc (.cells #[.int .i64 0] 3)).alloc (.cells #[.int .i64 0] 27)):=(((Gr.refl w).alloc _).alloc _).alloc _;have Zl:=g1;clear hV hR hT htS hc Xs Yj g1;refine(π (n:=5)).1 ?_;refine callsIn_of_wp_marks func134 rfl trivial ?_ rfl;simp only[ntmps134,ζS,ζz,ζ6,Nat.reduceAdd,Nat.reduceSub,ζJ,ζI,ζX,ζO,ζV,ζq];unfold cfV;gi_upto_region 1 with(fail);obtain⟨W0,Xm⟩:∃W0,W0=(((w.alloc (.cells #[.int .i64 c.fr,.int .i64 c.tp,.int .i64 c.to,.int .i64 c.lm,.int .i64 c.bk,.int .i64 c.st,.int .i64 c.ah] 143)).alloc (.cells #[.int .i64 0] 3)).alloc (.cells #[.int .i64 0] 27)):=⟨_,rfl⟩;have Zu:W0.heap.size=w.heap.size+3:=by rw[Xm];simp only[γ]
 have Zm:Gr w W0:=by rw[Xm];exact Zl
 have rb:Rec W0 w.heap.size 143 [iI c.fr,iI c.tp,iI c.to,iI c.lm,iI c.bk,iI c.st,iI c.ah]:=by rw[Xm];exact(Rec.new w _ [iI c.fr,iI c.tp,iI c.to,iI c.lm,iI c.bk,iI c.st,iI c.ah]).gr (((Gr.refl _).alloc _).alloc _)
 have r6:Rec W0 (w.heap.size+1) 3 [iI 0]:=by rw[Xm];exact(J9 w _ 3 [iI 0]).gr ((Gr.refl _).alloc _)
 have r7:Rec W0 (w.heap.size+2) 27 [iI 0]:=by
  rw[Xm];have:=J9 (w.alloc (.cells #[.int .i64 c.fr,.int .i64 c.tp,.int .i64 c.to,.int .i64 c.lm,.int .i64 c.bk,.int .i64 c.st,.int .i64 c.ah] 143)) (.cells #[.int .i64 0] 3) 27 [iI 0];rw[γ]at this;exact this
 rw[<-Xm];clear Xm Zl;have Xc:=Zm;have Zq:=rb;have Jf:=r6;have Jo:=r7;obtain⟨z0,z1,z2,z3,z4,z5,z6,zl⟩:=rb.k7;have Yv:=(λ(W:World) (g:Gr w W)=>VX (HR.gr g));rw[<-HN.o]at Yv;have Zo:=(λ(W:World) (g:Gr w W)=>ZP (HV.gr g) HC.cf);unfold cfV at Zo;have Jc:=(λ(W:World) (g:Gr w W)=>KQ (HV.gr g));clear rb r6 r7 Zm
 gi_upto_region 7 with(first
  | (refine⟨trivial,?_⟩;gi_at_call 155;refine(π.2 (Yv _ Xc)).mono ?_;rintro e w1 ⟨rfl,rfl⟩)
  | (refine⟨trivial,?_⟩;gi_at_call 156;refine(π.2 (Zo _ Xc)).mono ?_;rintro e w1 ⟨rfl,U⟩;have Xq:=U;clear U)
  | (refine⟨trivial,?_⟩;gi_at_call 47;refine(π.2 (Jc _ (Xc.trans Xq))).mono ?_;rintro e w2 ⟨rfl,rfl⟩)
  | (refine⟨trivial,?_⟩;gi_at_call 46;refine(π.2 (HX _)).mono ?_;rintro e w3 ⟨m,p1,b1,p2,b2,rfl,Zx,Zi,Xj,Xu,Xi,Xv,Xk⟩;have V:=(Xq.trans Zx);have Xr:=Zi;have HB:=(ξ (δ Xq.size Xj) (ξ (δ Xq.size Xu) (ξ (δ Xq.size Xi) (ξ (δ Xq.size Xv) (δ Xq.size Xk)))));clear Zx Zi Xj Xu Xi Xv Xk))
 gi_cut [11,12]from 15 (λs11 s12 wx=>∃(Xa:Nat) (L:List Ob) (rv vi:Int),s11=pP Xa/\s12=iI 0/\Hid (XY w wx S q m p1 b1 p2 b2 Xa v rs c L rv vi))
 case first=>
  have Ji:=HB;obtain⟨Xj,Xu,Xi,Xv,Xk⟩:=Ji;rw[Zu]at Xj Xu Xi Xv Xk;have Yz:=Xr.hm;have Yu:=Xr.v1.hp;have Yg:=Xr.v1.hb;have Yt:=Xr.v2.hp;have Yi:=Xr.v2.hb
  have Xn:∀i,AS m b1 b2 i->w.heap.size+3<=i/\i<w3.heap.size:=λi hi=>by
   rcases hi with rfl|rfl|rfl
   ·exact⟨Xj,Yz⟩
   ·exact⟨Xi,Yg⟩
   ·exact⟨Xk,Yi⟩
  have Yx:=Xn;have Ym:=(λ(W:World) (g:Gr w3 W)=>WQ (HR.gr ((Xc.trans V).trans g)));rw[<-HN.o]at Ym
  have Yf:Hid (∀(W:World) (g1 cp:Nat),Gr w3 W->w3.heap.size<=g1->W.ownsRow 0 3 1 (.slice (some ⟨g1,0,none⟩) n cp) n (zs rs)->Calls prog 48 #[.iface 78 (pP q),.slice (some ⟨g1,0,none⟩) n cp,pP m,iI c.st] W λe w'=>
    ∃(L:List Ob) (rv vi:Int),e=.returned (.tuple #[.agg #[iI (L.length:Nat),iI (sizes L:Nat),iI rv,iI vi],iI 0])/\AB (λi=>AS m b1 b2 i\/AD S w i) W w'/\AC w' (AD S w) q v/\Ext w' m p1 b1 p2 b2 v.n L/\BF v rs v.n L):=⟨λW g1 cp hg U ho=>by
   rw[HN.o]at ho⊢;have Yq:=(Xc.trans V).trans hg;refine(UY (HV.gr Yq) (Xr.gr hg) (Yq.tab HT.lt HT) (λi hi=>?_) (by unfold maxLen;have:=HN.o;omega) (λi hi h=>by have:=(Xn i h).1;have:=hi.2;omega) (λh=>by have:=h.2;omega) (λh=>by have:=h.2;omega) (λh=>Zw h.1) (λh=>by have:=(Xn _ h).1;omega) (c.st:Int)).mono ?_
   ·exact⟨g1,0,rfl,(BH ho rfl).2,λh=>by have:=(Xn _ h).2;omega,by rw[ξE];exact BU ho (MS hi)⟩
   ·rintro e w' (⟨h,-⟩|⟨-,-,ht,hv,(⟨L,r',vi,rfl,he,hm,-⟩|⟨-,-,hn⟩)⟩)
    ·have:=Je;omega
    ·exact⟨L,r',vi,rfl,ht,hv,he,hm⟩
    ·exact absurd HC.sd hn⟩
  have Yy:Hid (∀(W1 W2 W3:World) (Xa:Nat) (L:List Ob) (rv vi:Int),Gr w3 W1->AB (λi=>AS m b1 b2 i\/AD S w i) W1 W2->AC W2 (AD S w) q v->Ext W2 m p1 b1 p2 b2 v.n L->BF v rs v.n L->AB (λi=>i=Xa) W2 W3->w3.heap.size<=Xa →
    Rec W3 Xa 97 [iI (L.length:Nat),iI (sizes L:Nat),iI rv,iI vi]->XY w W3 S q m p1 b1 p2 b2 Xa v rs c L rv vi):=⟨λW1 W2 W3 Xa L rv vi hg ht hv he hm ht3 hb hr=>by
   have hz3:=(Xc.trans V).size;have hz13:=V.size;have Yq:=(Xc.trans V).trans hg
   have Zc:∀i,i<w.heap.size+3->w.heap.size<=i->¬(AS m b1 b2 i\/AD S w i):=λi h1 h2 h=>by
    rcases h with h|h
    ·have:=(Xn i h).1;omega
    ·have:=h.2;omega
   refine⟨((Yq.touch _).trans (ht.mono (T:=λi=>AS m b1 b2 i\/S i) (λi _ h=>h.imp id (λh=>h.1)))).trans' (T:=λi=>i=Xa) ht3 (λi hi h=>by omega) |>.mono (λi hi h=>h.elim (λh=>by have:=(Xn i h).1;omega) id),hv.touch ht3 (λi hi _ h=>by have:=hi.2;omega),he.touch ht3 Ω Ω Ω Ω Ω,hm,hr,?_,?_,?_,Xj,Xu,Xi,Xv,Xk,by omega⟩
   ·exact((Zq.gr (V.trans hg)).touch ht (Zc _ Ω Ω)).touch ht3 Ω
   ·exact((Jf.gr (V.trans hg)).touch ht (Zc _ Ω Ω)).touch ht3 Ω
   ·exact((Jo.gr (V.trans hg)).touch ht (Zc _ Ω Ω)).touch ht3 Ω⟩
  have Xh:=Zq.gr V;have x5:=Xh.cc 5;have Zf:=Xh.lt;have KS:Hid (∀W',Gr w3 W'->W'.cell? ⟨w.heap.size,5,none⟩=some (iI c.st)):=⟨λW' h=>(h.cell Zf 5).trans x5⟩
  have KT:Hid (∀W1 W',Gr w3 W1->AB (λi=>AS m b1 b2 i\/AD S w i) W1 W'->W'.cell? ⟨w.heap.size,5,none⟩=some (iI c.st)):=⟨λW1 W' h t=>(t.cell (τ Zf h.size) (λh=>by
   rcases h with h|h
   ·have:=(Yx _ h).1;omega
   ·have:=h.2;omega) 5).trans ((h.cell Zf 5).trans x5)⟩
  obtain⟨Sx,Yp⟩:∃Sx:World->Prop,Sx=λW'=>W'.cell? ⟨w.heap.size,5,none⟩=some (iI c.st):=⟨_,rfl⟩;have y1:∀p':AA Sx,p'.w.cell? ⟨w.heap.size,5,none⟩=some (iI c.st):=λp=>AA.get Yp p;have Zn:Sx w3.drew:=by rw[Yp];exact x5
  have I:=ι Yp;have inst:Inhabited (AA Sx):=⟨⟨_,Zn⟩⟩;clear Yp x5 Xh z0 z1 z2 z3 z4 z5 z6 zl Xn Xj Xu Xi Xv Xk Yz Yu Yg Yt Yi;refine YL Sx (.two [0,1,2,4,5,6] 3 (.two [] 7 (.one [8,9,10] 11 (.one [] 12 (.fin [13]))) 11 (.one [] 7 (.one [8,9,10] 12 (.fin [13])))) 11 (.one [] 3 (.one [] 7 (.one [8,9,10] 12 (.fin [13]))))) GB Zn ?_;refine PQ ?_;simp only[AF,μ,ν]
  repeat(go_big_quiet_step (fail))
  refine ζb ⟨?_,?_⟩
  ·gi_wp2_with(refine⟨trivial,?_⟩;gi_at_call 49;refine(π.2 (Ym _ (Gr.refl w3).drew)).mono ?_;rintro e w4 ⟨g1,c1,rfl,Xt,Xy,Yh⟩;have Y:=ι ((Gr.refl w3).drew.trans Xt);have Yo:=ι Yh;have Yr:=ι Xy;clear Xt Yh Xy);refine⟨AA.of (by rw[I.o];exact KS.o _ Y.o),?_⟩;refine PQ ?_;simp only[AF,μ,ν];refine ζb ⟨?_,?_⟩
   ·gi_wp2_with(refine⟨trivial,?_⟩;gi_at_call 48;refine(π.2 (Yf.o _ g1 c1 Y.o Yr.o Yo.o)).mono ?_;rintro e w5 ⟨L,rv,vi,rfl,E,Xg,Xe,Xf⟩;have J:=ι E;have Yc:=ι Xg;have Ya:=ι Xe;have Yn:=ι Xf;clear E Xg Xe Xf);refine⟨AA.of (by rw[I.o];exact KT.o _ _ Y.o J.o),?_⟩;refine LH ?_;have u5:=KT.o _ _ Y.o J.o;have Zk:=AT u5;gi_wp2;refine⟨AA.of (by rw[I.o];exact(((Gr.refl w5).alloc _).cell Zk 5).trans u5),?_⟩;refine IN ?_;simp only[AF,μ,ν];refine ζb ?_;gi_wp2;refine⟨AA.of (by rw[I.o];exact(((Gr.refl w5).alloc _).cell Zk 5).trans u5),?_⟩;refine MH ?_;gi_wp2
    gi_meet
    exact⟨_,L,rv,vi,rfl,rfl,⟨Yy.o _ _ _ _ L rv vi Y.o J.o Yc.o Ya.o Yn.o (((Gr.refl w5).alloc _).touch _) (δ Y.o.size J.o.size) (Rec.new w5 _ [iI (L.length:Nat),iI (sizes L:Nat),iI rv,iI vi])⟩⟩
   ·have x4:=KS.o _ Y.o;have Zr:=AT x4;gi_wp2;refine⟨AA.of (by rw[I.o];exact(((Gr.refl w4).alloc _).cell Zr 5).trans x4),?_⟩;refine IN ?_;simp only[AF,μ,ν];refine ζb ?_;have Xb:=ι (Rec.new w4 97 [iI 0,iI 0,iI 0,iI 0]);have O:=ι (Y.o.alloc (.cells #[.int .i64 0,.int .i64 0,.int .i64 0,.int .i64 0] 97))
    have Xz:Hid (¬(AS m b1 b2 w4.heap.size\/AD S w w4.heap.size)):=⟨λh=>by
     have:=Y.o.size;rcases h with h|h
     ·have:=(Yx _ h).2;omega
     ·have:=h.2;have:=(Xc.trans V).size;omega⟩
    have Yb:Hid (¬w.heap.size=w4.heap.size):=⟨by have:=Y.o.size;omega⟩;have Zj:=ι (CU Yo.o ((Gr.refl w4).alloc (.cells #[.int .i64 0,.int .i64 0,.int .i64 0,.int .i64 0] 97)));have Yk:Hid (w3.heap.size<=w4.heap.size):=⟨Y.o.size⟩;obtain⟨bA,Xp⟩:∃bA,bA=w4.heap.size:=⟨_,rfl⟩;obtain⟨WA,Xl⟩:∃WA,WA=w4.alloc (.cells #[.int .i64 0,.int .i64 0,.int .i64 0,.int .i64 0] 97):=⟨_,rfl⟩;rw[show w4.alloc (.cells ([.int .i64 0,.int .i64 0,.int .i64 0,.int .i64 0]:List Value).toArray 97)=WA from Xl.symm]at Xb;rw[<-Xl]at O Zj⊢;rw[<-Xp]at Xb Xz Yb Yk⊢;clear Xp Xl x4 Zr;gi_wp2_with(refine⟨trivial,?_⟩;gi_at_call 48;refine(π.2 (Yf.o _ g1 c1 O.o Yr.o Zj.o)).mono ?_;rintro e w5 ⟨L,rv,vi,rfl,E,Xg,Xe,Xf⟩;have J:=ι E;have Yc:=ι Xg;have Ya:=ι Xe;have Yn:=ι Xf;have Z:=ι (Xb.o.touch E (Xz.o));have q0:=Z.o.cc 0;have q1:=Z.o.cc 1;have q2:=Z.o.cc 2;have q3:=Z.o.cc 3;have qf:=Z.o.free;have ql:=Z.o.lt;clear E Xg Xe Xf);refine⟨AA.of (by rw[I.o];exact KT.o _ _ O.o J.o),?_⟩;refine LH ?_;gi_wp2;have R5:=(((Z.o.set 0 (iI (L.length:Nat))).set 1 (iI (sizes L:Nat))).set 2 (iI rv)).set 3 (iI vi);have t5:=L6 w5 bA (iI (L.length:Nat)) (iI (sizes L:Nat)) (iI rv) (iI vi);have KF:=(t5.cell (AT (KT.o _ _ O.o J.o)) Yb.o 5).trans (KT.o _ _ O.o J.o);refine⟨AA.of (by rw[I.o];exact KF),?_⟩;refine MH ?_;gi_wp2
    gi_meet
    exact⟨_,L,rv,vi,rfl,rfl,⟨Yy.o _ _ _ _ L rv vi O.o J.o Yc.o Ya.o Yn.o t5 Yk.o R5⟩⟩
  ·gi_wp2;have x3:=KS.o _ (Gr.refl w3);have Jn:=AT x3;refine⟨AA.of (by rw[I.o];exact KS.o _ ((Gr.refl w3).alloc _).drew),?_⟩;refine IN ?_;simp only[AF,μ,ν];refine ζb ?_;have Xb:=ι ((Rec.new w3 97 [iI 0,iI 0,iI 0,iI 0]).gr (Gr.refl _).drew);have O:=ι ((Gr.refl w3).alloc (.cells #[.int .i64 0,.int .i64 0,.int .i64 0,.int .i64 0] 97)).drew
   have Xz:Hid (¬(AS m b1 b2 w3.heap.size\/AD S w w3.heap.size)):=⟨λh=>by
    rcases h with h|h
    ·have:=(Yx _ h).2;omega
    ·have:=h.2;have:=(Xc.trans V).size;omega⟩
   have Yb:Hid (¬w.heap.size=w3.heap.size):=⟨by omega⟩;have Yk:Hid (w3.heap.size<=w3.heap.size):=⟨ϑ _⟩;obtain⟨WA,Xl⟩:∃WA,WA=(w3.alloc (.cells #[.int .i64 0,.int .i64 0,.int .i64 0,.int .i64 0] 97)).drew:=⟨_,rfl⟩;rw[show (w3.alloc (.cells ([.int .i64 0,.int .i64 0,.int .i64 0,.int .i64 0]:List Value).toArray 97)).drew=WA from Xl.symm]at Xb;rw[<-Xl]at O⊢;clear Xl;obtain⟨bA,Xp⟩:∃bA,bA=w3.heap.size:=⟨_,rfl⟩;rw[<-Xp]at Xb Xz Yb;rw[show w3.heap.size<=w3.heap.size↔w3.heap.size<=bA by rw[Xp]]at Yk;rw[show w3.heap.size=bA from Xp.symm];clear Xp x3 Jn;gi_wp2_with(refine⟨trivial,?_⟩;gi_at_call 49;refine(π.2 (Ym _ O.o)).mono ?_;rintro e w4 ⟨g1,c1,rfl,Xt,Xy,Yh⟩;have Y:=ι (O.o.trans Xt);have Zt:=ι (Xb.o.gr Xt);have Yo:=ι Yh;have Yr:=ι (δ O.o.size Xy);clear Xt Yh Xy);refine⟨AA.of (by rw[I.o];exact KS.o _ Y.o),?_⟩;refine IN ?_;simp only[AF,μ,ν];refine ζb ?_;gi_wp2_with(refine⟨trivial,?_⟩;gi_at_call 48;refine(π.2 (Yf.o _ g1 c1 Y.o Yr.o Yo.o)).mono ?_;rintro e w5 ⟨L,rv,vi,rfl,E,Xg,Xe,Xf⟩;have J:=ι E;have Yc:=ι Xg;have Ya:=ι Xe;have Yn:=ι Xf;have Z:=ι (Zt.o.touch E (Xz.o));have q0:=Z.o.cc 0;have q1:=Z.o.cc 1;have q2:=Z.o.cc 2;have q3:=Z.o.cc 3;have qf:=Z.o.free;have ql:=Z.o.lt;clear E Xg Xe Xf);refine⟨AA.of (by rw[I.o];exact KT.o _ _ Y.o J.o),?_⟩;refine LH ?_;gi_wp2;have R5:=(((Z.o.set 0 (iI (L.length:Nat))).set 1 (iI (sizes L:Nat))).set 2 (iI rv)).set 3 (iI vi);have t5:=L6 w5 bA (iI (L.length:Nat)) (iI (sizes L:Nat)) (iI rv) (iI vi);have KF:=(t5.cell (AT (KT.o _ _ Y.o J.o)) Yb.o 5).trans (KT.o _ _ Y.o J.o);refine⟨AA.of (by rw[I.o];exact KF),?_⟩;refine MH ?_;gi_wp2
   gi_meet
   exact⟨_,L,rv,vi,rfl,rfl,⟨Yy.o _ _ _ _ L rv vi Y.o J.o Yc.o Ya.o Yn.o t5 Yk.o R5⟩⟩
 case rest=>
  obtain⟨Xa,L,rv,vi,rfl,rfl,HI⟩:=hcut;clear z0 z1 z2 z3 z4 z5 z6 zl;obtain⟨Zg,Yw⟩:=HC.inn L HI.o.mks;have Jd:=ι Zg;have Zs:=ι Yw;clear Zg Yw;gi_wp2_with(refine⟨trivial,?_⟩;gi_at_call 144;refine(π.2 (JR (some ⟨m,0,none⟩))).mono ?_;rintro e w1 ⟨rfl,rfl⟩);obtain⟨W1,Xx⟩:∃W1,W1=wc.alloc (.cells #[.pointer (some ⟨m,0,none⟩)] 93):=⟨_,rfl⟩;have U:Gr wc W1:=by rw[Xx];exact(Gr.refl wc).alloc _
  have hs1:W1.heap.size=wc.heap.size+1:=by rw[Xx,γ]
  have k4:W1.cell? ⟨wc.heap.size,0,none⟩=some (pP m):=by
   rw[Xx];exact(Boxed.new wc 93 (pP m)).cell
  rw[<-Xx];have hex:=HI.o.ex;have Yz:=hex.hm;have Yu:=hex.v1.hp;have Yg:=hex.v1.hb;have Yt:=hex.v2.hp;have Yi:=hex.v2.hb;have hwz:=HI.o.t.size;have Zb:AP wc:=HI.o.t.tab Jh Zw HT;have Jr:=ι Zb;have Zy:=Zb.lt;have Ze:=HI.o.bx;have hrl:=Ze.lt;clear Xx Zb hex;have tI:∀(j:Nat) A B,(AB (λi=>W1.heap.size<=i) W1 A/\j<=L.length)->AB (λi=>W1.heap.size<=i/\i<W1.heap.size+2+4) A B->(AB (λi=>W1.heap.size<=i) W1 B/\j<=L.length):=λj A B h t=>⟨h.1.trans (t.mono (λi _ h=>h.1)),h.2⟩
  refine LD (K:=4) (s0:=0) rfl Ω (gf:=187) (lb:=#[pP wc.heap.size]) rfl trivial (enters_of func187 (by kernel_rfl) rfl)
   (OB _ wc.heap.size m p1 b1 p2 b2 v.n L _) (λ_=>rfl)
   (λ(j:Nat) A=>AB (λi=>W1.heap.size<=i) W1 A/\j<=L.length) (λ_ _=>False) tI (λ_ _ _ h _=>h)
   (λj A h=>⟨(HI.o.ex.gr U).touch h.1 Ω Ω Ω Ω Ω,(U.tab Zy Jr.o).touch' h.1 Ω,(h.1.cell Ω Ω 0).trans k4,h.2⟩)
   ⟨AB.refl _ _,ζg _⟩ ?round ?done ?stop
  case round=>
   intro lp j x W3 hsz3 Xd Xo;dsimp only[GG];gi_wp2;refine⟨Gr.refl _,λW4 ht4 hI4=>?_⟩
   have Ys:j<L.length:=by
    rcases υ j L.length with h|h
    ·exact h
    ·unfold EH at Xo;rw[ζF h]at Xo;cases Xo
   obtain rfl:x=L[j]:=by unfold EH at Xo;rw[η Ys]at Xo;exact(Option.some.inj Xo).symm
   obtain⟨i1,i2⟩:=Jd.o _ (κ Ys);have Yl:=(Ze.gr U).touch hI4.1 Ω;obtain⟨c0,c1,cl⟩:=Yl.k2;have Zp:=(HI.o.ex.good.sz _ (κ Ys)).2;obtain⟨sa,Zh⟩:∃s,s=L[j].1:=⟨_,rfl⟩;obtain⟨sz,Xw⟩:∃s,s=L[j].2:=⟨_,rfl⟩;rw[<-Zh]at i1 i2 Zp⊢;rw[<-Xw]at i2 Zp⊢;have e0:decide ((sa:Int)<(c.fr:Int))=false:=ζ Ω;have e1:decide ((c.tp:Int)<(sa:Int)+(sz:Int))=false:=ζ Ω;have e2:decide (sa<c.fr)=false:=ζ Ω;have Jk:=ι hI4;clear Xd hI4 Xo ht4 Zh Xw;gi_wp2;exact⟨AB.refl _ _,j+1,rfl,Jk.o.1,Ys⟩
  case done=>
   rintro D j W3 hD rfl Xd hK;have hs5l:=HI.o.l5;have hb11l:=HI.o.st.lt;have Zd:=(HI.o.st.gr U).touch Xd.1 Ω;have Xh:=(Ze.gr U).touch Xd.1 Ω;have Ye:=(HI.o.r6.gr U).touch Xd.1 (by have:=HI.o.r6.lt;omega);have Yd:=(HI.o.r7.gr U).touch Xd.1 (by have:=HI.o.r7.lt;omega);have a1:=Zd.cc 1;have al:=Zd.lt;have c3:=Xh.cc 3;have c2:=Xh.cc 2;have cl:=Xh.lt;have q0:=Ye.cc 0;have q1:=Ye.free 0;have ql:=Ye.lt;have p0:=Yd.cc 0;have p1':=Yd.free 0;have pl:=Yd.lt;have Jm:=Zs.o;have hlm:=HC.cf.ln;have Jj:=HI.o.vm;obtain⟨sz,Xw⟩:∃s,s=sizes L:=⟨_,rfl⟩;have Ja:=ι Xw;rw[<-Xw]at a1 Jm;have e0:decide ((c.lm:Int)-(c.to:Int)<(sz:Int))=false:=ζ Ω;have HK:=ι hK;have HD:=ι hD;have Zv:=ι Xd;have Xb:=ι Ye;have Zz:=ι Yd;have hs3:=Xd.1.size;clear hK hD Xd Xw Zd Xh Ye Yd;gi_wp2
   have tg:AB (λi=>i=w.heap.size+1\/i=w.heap.size+2) W3 ((W3.setCell ⟨w.heap.size+1,0,none⟩ (.int .i64 (sz:Int))).setCell ⟨w.heap.size+1+1,0,none⟩ (.int .i64 0)):=
    ((AB.refl _ W3).setCell (a:=⟨w.heap.size+1,0,none⟩) (λ_=>.inl rfl) _).setCell (a:=⟨w.heap.size+1+1,0,none⟩) (λ_=>.inr rfl) _
   have b6:Rec ((W3.setCell ⟨w.heap.size+1,0,none⟩ (.int .i64 (sz:Int))).setCell ⟨w.heap.size+1+1,0,none⟩ (.int .i64 0)) (w.heap.size+1) 3 [iI (sz:Int)]:=
    (Xb.o.set 0 (iI (sz:Int))).touch ((AB.refl (λi=>i=w.heap.size+1+1) _).setCell (a:=⟨w.heap.size+1+1,0,none⟩) (λ_=>rfl) _) Ω
   have b7:Rec ((W3.setCell ⟨w.heap.size+1,0,none⟩ (.int .i64 (sz:Int))).setCell ⟨w.heap.size+1+1,0,none⟩ (.int .i64 0)) (w.heap.size+2) 27 [iI 0]:=
    (Zz.o.touch ((AB.refl (λi=>i=w.heap.size+1) W3).setCell (a:=⟨w.heap.size+1,0,none⟩) (λ_=>rfl) (iI (sz:Int))) Ω).set 0 (iI 0)
   have hD:=HD.o;have Za:=(tg.block D (ζn.1 HK.o).1 Ω).trans HK.o;generalize ((W3.setCell ⟨w.heap.size+1,0,none⟩ (.int .i64 (sz:Int))).setCell ⟨w.heap.size+1+1,0,none⟩ (.int .i64 0))=W5 at *
   have k6:=b6.cc 0;have k7:=b7.cc 0;rw[show w.heap.size+2=w.heap.size+1+1 from rfl]at k7;refine⟨by simp,.inl ⟨_,_,rfl,run_takeDeferred Za,?_⟩⟩;have Jp:=cell_kept k6 (grownBy_putObj' _ D (.deferred none)) (λr e=>by cases e;exact⟨_,Za,rfl⟩);have Jb:=cell_kept k7 (grownBy_putObj' _ D (.deferred none)) (λr e=>by cases e;exact⟨_,Za,rfl⟩);have tD:AB (λi=>W1.heap.size<=i) W5 (W5.putObj D (.deferred none)):=C5 _ D _ Ω;refine⟨.tuple #[iI (sz:Int),iI 0],?_,?_⟩
   ·simp[results,f134,go_sem,Jp,Jb]
   ·refine⟨L,HI.o.mks,by rw[Ja.o],?_,?_⟩
    ·exact(((HI.o.t.trans (U.touch _)).trans' Zv.o.1 (λi hi h=>by omega)).trans' tg (λi hi h=>by omega)).trans' tD (λi hi h=>by omega)
    ·exact(((Jj.gr U).touch Zv.o.1 (λi hi _ h=>by have:=hi.2;omega)).touch tg (λi hi _ h=>by have:=hi.2;omega)).touch tD (λi hi _ h=>by have:=hi.2;omega)
  case stop=>
   rintro D c W3 hD h hK;exact h.elim
end
end
theorem TR(h:AE v){t:Nat}(ht:t<=v.n)(hE:A9 v f t=0)(hG:BQ v v1 (BO v f t)){a:Nat}(h1:f<=a)(h2:a<t):v1.ldE a=0:=by
 have hF:BO v f t=BR v ((f:Int)/v.pl.pg).toNat (CT v f t):=by unfold BO;grind
 rw[hG.ldE h Ω,hF];by_cases h0:v.pt.getD (a/v.pl.pg) 0=0
 ·rw[θ];rw[N9];refine⟨?_,h0⟩;have e1:((f:Int)/(v.pl.pg:Int)).toNat=f/v.pl.pg:=by grind
  have e2:CT v f t=(t-1)/v.pl.pg+1-f/v.pl.pg:=by
   unfold CT
   grind
  have g1:f/v.pl.pg<=a/v.pl.pg:=ζa h1;have g2:a/v.pl.pg<=(t-1)/v.pl.pg:=ζa Ω;omega
 ·split
  ·rfl
  ·rw[h.ldE_of Ω,ψ h0]
theorem Z2(hf:f<=v.n):A9 v f f=0/\BO v f f=[]:=by
 have hE:A9 v f f=0:=by unfold A9;omega
 refine⟨hE,?_⟩;unfold BO
 simp_all
theorem Z25(h:AE v){c:Cf}(hc:O2 v rs c)(hM:BF v rs v.n L)(hE:A9 v c.to ((c.to+sizes L:Nat):Int)=0)(hG:BQ v v1 (BO v c.to ((c.to+sizes L:Nat):Int)))
  (hm:∀a:Nat,c.fr<=a->a<c.tp->v.ldE a=0):DE v1 rs L c.to/\FI v1 L:=by
 obtain⟨Z,htot⟩:=hc.inn L hM;have hw:=hG.wider h;have hp:=h.page;have Y:=hc.cf;have hln:=Y.ln;have hto:=Y.to;refine⟨⟨hG.ok,?_,by omega,λo ho=>?_,λa h1 h2=>TR h Ω hE hG h1 h2,by rw[hG.n];omega⟩,λo ho m hmo=>?_⟩
 ·rw[hG.n];exact hw.marks hM
 ·have hi:=Z o ho;have hs:1<=o.2:=(hM.mkd.good.sz o ho).1
  have hsz:1<=sizes L:=by
   have:∀l:List Ob,o∈l->o.2<=sizes l:=λl=>by
    induction l with
    | nil=>intro h;cases h
    | cons b r ih=>
     intro h;simp only[sizes];rcases ζC.1 h with rfl|h
     ·omega
     ·have:=ih h;omega
   grind
  have hup:c.tp<=upN c.tp v.pl.pg:=by
   unfold upN;have h1:=ζu (c.tp+v.pl.pg-1) v.pl.pg;have h2:=ξR (c.tp+v.pl.pg-1) (show 0<v.pl.pg by omega)
   grind
  have hap:=Y.ap;omega
 ·have hi:=Z o ho;have:=hm (o.1+m) Ω Ω;exact(hw.le _ (by exact this)).1
structure TB(v:Vm)(rs:List Int)(c:Cf)(L:List Ob)(v1 v2:Vm)(k kq:Nat):Prop where
 gr:BQ v v1 (BO v c.to ((c.to+sizes L:Nat):Int))
 cx:DE v1 rs L c.to
 fo:FI v1 L
 ke:k=(AQ v1 rs k).length
 st:CpS v1 rs L c.to (AQ v1 rs k) k 0 v2
 q1:∀j,j<kq->(c.fr/v.pl.pg+j)*v.pl.pg<c.tp
 q2:c.tp<=(c.fr/v.pl.pg+kq)*v.pl.pg
theorem VQN(v:Vm)(rs:List Int)(k:Nat)(h:j<=(AQ v rs k).length):(AQ v rs (k+1)).take j=(AQ v rs k).take j:=by
 obtain⟨X,hX⟩:=UE v rs k
 grind
theorem YnT(h:k<(AQ v rs k).length):AQ v rs (k+1)=DD (AQ v rs k) (DH v ((AQ v rs k).getD k 0)):=by
 show (if _ then _ else _)=_
 rw[θ h]
theorem XeB(c:DE v rs L to){X:List Int}(hR:∀a∈O++X,Rch v rs a)(hl:∀a∈l,a=0\/a∈O):l.map (λa=>BP v (O++X) to a)=l.map (λa=>BP v O to a):=by
 apply ξG;intro a ha;exact Vqd v X to (λh=>by have:=(C9 (c.mks.sound.rd _ (hR 0 h))).1;omega) (hl a ha)
def CpJ(w3:World)(S3:Nat->Prop)(K M q g:Nat)(v:Vm)(rs:List Int)(L:List Ob)(to:Nat)(i:Nat)(W:World)(out:List Int):Prop:=
 ∃O v' Si,(∀b,Si b->plus S3 w3 b)/\C2 W Si K M q v to O v'/\CpS v rs L to O 0 0 v'/\O=DD [] (rs.take i)/\out=(rs.take i).map (λa=>BP v O to a)/\AB (λb=>b=g\/(b=K\/b=M)\/S3 b) w3 W
structure CpL(w3 wr:World)(S3 Si:Nat->Prop)(K M q r g:Nat)(v:Vm)(rs out:List Int)(L:List Ob)(to k:Nat)(v':Vm):Prop where
 sub:∀b,Si b->plus S3 w3 b
 cat:C2 wr Si K M q v to (AQ v rs k) v'
 st:CpS v rs L to (AQ v rs k) k 0 v'
 oe:out=rs.map (λa=>BP v (AQ v rs k) to a)
 t:AB (λb=>b=g\/(b=K\/b=M)\/S3 b) w3 wr
 rt:AR wr r g out
def YZS(w:World)(S:Nat->Prop)(q r g:Nat)(v:Vm)(rs:List Int)(c:Cf)(e:Ending)(w':World):Prop:=
 ∃L,BF v rs v.n L/\AB (λb=>b=g\/S b) w w' ∧
  ((A9 v c.to ((c.to+sizes L:Nat):Int)≠0/\e=.returned (.tuple #[iI 0,iI (A9 v c.to ((c.to+sizes L:Nat):Int))])/\G5 w' (plus S w) q v []/\AR w' r g rs) ∨
   (A9 v c.to ((c.to+sizes L:Nat):Int)=0/\e=.returned (.tuple #[iI ((c.to+sizes L:Nat):Int),iI 0]) ∧
   ∃v1 v2 k kq,TB v rs c L v1 v2 k kq/\AC w' (plus S w) q (umN v2 (c.fr/v.pl.pg) kq)/\AR w' r g (rs.map (λa=>BP v1 (AQ v1 rs k) c.to a))))
theorem C2.touch{T:Nat->Prop}{v':Vm}(h:C2 w S K M q v to O v')(t:AB T w w')(hK:¬T K)(hM:¬T M)(hS:∀b,S b->b<w.heap.size->¬T b):C2 w' S K M q v to O v':=
 ⟨h.rc.touch t hK,h.mp.touch t hM,h.vm.touch t hS,h.nK,h.nM⟩
structure XH(w3:World)(S3:Nat->Prop)(K M r g:Nat):Prop where
 r3:r<w3.heap.size
 g3:g<w3.heap.size
 rK:r≠K
 rM:r≠M
 gK:g≠K
 gM:g≠M
 rS:¬S3 r
 gS:¬S3 g
structure UmI(w3 wx:World)(S3:Nat->Prop)(K M q r g:Nat)(v:Vm)(out:List Int)(tt q0 j pg tp:Nat):Prop where
 t:AB (λb=>b=g\/(b=K\/b=M)\/S3 b) w3 wx
 vm:∃Sj,(∀b,Sj b->plus S3 w3 b)/\AC wx Sj q (umN v q0 j)/\¬Sj K
 rc:Rec wx K 209 [pP q,.map (some M),iI tt]
 rt:AR wx r g out
 q1:∀i,i<j->(q0+i)*pg<tp
theorem UmI.gr{wx:World}{r:Nat}{out:List Int}{tt q0 pg tp:Nat}(h:UmI w3 wx S3 K M q r g v out tt q0 j pg tp)(g':Gr wx w'):UmI w3 w' S3 K M q r g v out tt q0 j pg tp:=by
 obtain⟨h1,⟨Sj,h2,h3,h4⟩,h5,h6,h7⟩:=h;exact⟨h1.trans (g'.touch _),⟨Sj,h2,h3.gr g',h4⟩,h5.gr g',h6.gr g',h7⟩
section
variable{r:Nat}
theorem Q0I(hcat:C2 w3 S3 K M q v1 to [] v1)(cx:DE v1 rs L to)(fo:FI v1 L)(hR:AR w3 r g rs)(hrs:∀a∈rs,0<=a/\a<=2147483647)(sp:XH w3 S3 K M r g):
  Calls prog 135 #[pP r,.func (.func 136) #[pP K] #[]] w3 λe w'=>e=.returned (.tuple #[])/\∃out v' Si,CpL w3 w' S3 Si K M q r g v1 rs out L to 0 v':=by
 have h0:CpJ w3 S3 K M q g v1 rs L to 0 w3 []:=⟨[],v1,S3,λb h=>.inl h,hcat,⟨ξJ,(λ_ h=>by cases h),Cpd.nil cx.ok to,(λj hj=>absurd hj (ζQ _)),.inr ⟨rfl,rfl⟩⟩,rfl,rfl,AB.refl _ _⟩;refine(WL (F:=136) (pre:=#[pP K]) (caps:=#[]) (CpJ w3 S3 K M q g v1 rs L to) (λ_ _=>by kernel_rfl) hR h0 ?_ ?_).mono ?_
 ·rintro i hi W out ho ⟨O,v',Si,h1,h2,h3,h4,h5,h6⟩ hz;refine⟨O,v',Si,h1,h2,h3,?_,?_,h6⟩
  ·rw[IG hi,TK,<-h4,hz];exact(θ (.inl rfl)).symm
  ·rw[IG hi,ζ2,<-h5,hz]
   show out++[0]=out++[BP v1 O to 0]
   rw[N7 v1 _ (h3.zero cx)]
 ·rintro i hi W out ho ⟨O,v',Si,h1,h2,h3,h4,h5,h6⟩ V B W0 Z;obtain⟨q1,q2⟩:=hrs _ (κ hi);obtain⟨a,ha⟩:∃a:Nat,(a:Int)=rs[i]:=⟨rs[i].toNat,by omega⟩;have hr:Rch v1 rs a:=by rw[ha];exact Rch.root (κ hi) B
  have Y:=Zz2 (h2.gr Z) cx fo h3 (a:=a) (.inr hr) Ω;rw[ha]at Y;refine Y.mono ?_;rintro e W' ⟨Xa,rfl,ht,I,U⟩;have hzW:=h6.size;have hz0:=Z.size;have J:∀b,b<w3.heap.size->¬S3 b->¬Si b:=λb hb hn h=>(h1 b h).elim hn (λh=>by omega);have D:(a:Int)∈CG O a:=MY.2 (.inr ⟨rfl,by omega⟩);have E:0<=BP v1 (CG O (a:Int)) to a:=by have:=(TV v1 (to:Int) D).1;omega
  rw[<-ha]at U I⊢;refine⟨_,rfl,(V.gr Z).touch ht (λh=>?_) (λh=>?_),λW'' t''=>⟨CG O a,Xa,plus Si W0,λb hb=>?_,I.touch t'' (Ne.symm sp.gK) (Ne.symm sp.gM) (λb hb _ e=>?_),U,?_,?_,?_⟩⟩
  ·rcases h with(h|h)|h
   ·exact sp.rK h
   ·exact sp.rM h
   ·exact J _ sp.r3 sp.rS h
  ·rcases h with(h|h)|h
   ·exact sp.gK h
   ·exact sp.gM h
   ·exact J _ sp.g3 sp.gS h
  ·rcases hb with h|h
   ·exact h1 b h
   ·right;omega
  ·subst e;rcases hb with h|h
   ·exact J _ sp.g3 sp.gS h
   ·have:=sp.g3;omega
  ·rw[IG hi,TK,<-h4,<-ha]
  ·obtain⟨X,hX⟩:=U8 O (a:Int);rw[IG hi,ζ2,<-ha,Int.max_eq_left E];congr 1;rw[h5]
   have hl:∀b∈rs.take i,b=0\/b∈O:=λb hb=>by
    by_cases h0:b=0
    ·exact .inl h0
    ·right;rw[h4];exact Q2.2 (.inr ⟨hb,h0⟩)
   rw[hX];exact(XeB cx (by rw[<-hX];exact U.rch) hl).symm
  ·refine((h6.trans (Z.touch _)).trans' ht (λb hb h=>?_)).trans (t''.mono (λb _ h=>.inl h));rcases h with h|h
   ·exact .inr (.inl h)
   ·exact(h1 b h).elim (λh=>.inr (.inr h)) (λh=>by omega)
 ·rintro e w' ⟨rfl,out,-,⟨O,v',Si,h1,h2,h3,h4,h5,h6⟩,V⟩;rw[ζ7]at h4 h5;have hO:O=AQ v1 rs 0:=h4;subst hO;exact⟨rfl,out,v',Si,h1,h2,h3,h5,h6,V⟩
end
section
variable{r:Nat}{c:Cf}
theorem Qj5(hV:AC w S q v)(hR:AR w r g rs)(hT:AP w)(htS:¬S 1)(hrS:¬S r)(hgS:¬S g)(hc:O2 v rs c)(hm:∀a:Nat,c.fr<=a->a<c.tp->v.ldE a=0)(hrs:∀a∈rs,0<=a/\a<=2147483647):
  Calls prog 94 #[pP q,pP r,cfV c] w (YZS w S q r g v rs c):=by
 have HV:=hV.cut;have HR:=hR;have HT:=hT;have D:=(ξ htS (ξ hrS hgS));have HC:=hc;have HM:=hm;have Jh:=hrs;have Xq:=hc.cf;have Ji:=hV.ok.page;have Zu:=hV.ok;have hn2:=hV.ok.n2;have Jr:=hT.lt;have hrl:=hR.lt;have hto:=Xq.to;have hlm:=Xq.ln;have Jg:=Xq.fr;have Xa:=((Gr.refl w).alloc (.cells #[.int .i64 c.fr,.int .i64 c.tp,.int .i64 c.to,.int .i64 c.lm,.int .i64 c.bk,.int .i64 c.st,.int .i64 c.ah] 143));have rb:=Rec.new w 143 [iI c.fr,iI c.tp,iI c.to,iI c.lm,iI c.bk,iI c.st,iI c.ah];obtain⟨W0,Xv⟩:∃W0,W0=w.alloc (.cells #[.int .i64 c.fr,.int .i64 c.tp,.int .i64 c.to,.int .i64 c.lm,.int .i64 c.bk,.int .i64 c.st,.int .i64 c.ah] 143):=⟨_,rfl⟩;have hsz0:W0.heap.size=w.heap.size+1:=by rw[Xv,γ]
 rw[<-Xv]at Xa;rw[show w.alloc (.cells ([.int .i64 c.fr,.int .i64 c.tp,.int .i64 c.to,.int .i64 c.lm,.int .i64 c.bk,.int .i64 c.st,.int .i64 c.ah]:List Value).toArray 143)=W0 from Xv.symm]at rb;have Jw:=rb;have Zw:=(Qwc (HV.gr Xa) (HR.gr Xa) (Xa.tab Jr HT) (λh=>htS h.1) hc);obtain⟨z0,z1,z2,z3,z4,z5,z6,zl⟩:=rb.k7;have Yy:=Xq;have Zm:=Zu;unfold cfV at Zw⊢;clear hV hR hT htS hrS hgS hc hm hrs rb Xq Zu;go_enter func94,ntmps94;go_upto_region 1 with(fail);rw[<-Xv];clear Xv;go_upto_region 4 with(go_at_call 134;refine Zw.mono ?_;rintro e w1 ⟨L,hM,rfl,Yl,Xx⟩;have Yd:=hM;have Yg:=Yl;have Yq:=Xx;have Xp:=(Jw.touch Yl (λh=>by have:=h.2;omega));have Za:=ι ((HR.gr Xa).touch Yl (λh=>D.2.1 h.1) (λh=>D.2.2 h.1));obtain⟨y0,y1,y2,yl⟩:=Xp.k3;clear hM Yl Xx);obtain⟨Je,Yn⟩:=HC.inn L Yd;obtain⟨nn,Yv⟩:∃nn,nn=sizes L:=⟨_,rfl⟩;have Ya:=ι Yv;rw[<-Yv]at Yn⊢;have Xs:(c.to:Int)+(nn:Int)=((c.to+nn:Nat):Int):=by push_cast;rfl
 have Ze:Hid (Calls prog 117 #[pP q,iI c.to,iI ((c.to:Int)+(nn:Int))] w1 λe w'=>e=.returned (iI (A9 v c.to ((c.to+nn:Nat):Int)))/\AB (AD S w) w1 w'/\G5 w' (plus (AD S w) w1) q v (BO v c.to ((c.to+nn:Nat):Int))):=⟨by
  rw[Xs];by_cases h0:nn=0
  ·subst h0;have hq:=Z2 (v:=v) (f:=c.to) Ω;rw[ξo,hq.1,hq.2];refine(YP Yq c.to c.to Ω (ϑ _)).mono ?_;rintro e w' ⟨rfl,hg⟩;exact⟨rfl,hg.touch _,v,BQ.refl Zm,(Yq.gr hg).mono (λb hb=>.inl hb.1)⟩
  ·refine(P6 Yq c.to (c.to+nn) Ω Ω).mono ?_;rintro e w' ⟨rfl,ht,v',hg,hv⟩
   exact⟨rfl,ht.mono (λb _ hb=>hb.1),v',hg,hv.mono (λb hb=>hb.imp (λh=>h.1) id)⟩⟩
 clear z0 z1 z2 z3 z4 z5 z6 zl Yv Xs;obtain⟨E,hE⟩:∃E,E=A9 v c.to ((c.to+nn:Nat):Int):=⟨_,rfl⟩;have HE:=ι hE;rw[<-hE]at Ze;clear hE;by_cases Yj:E=0
 ·subst Yj;have Jz:=@run_makeMap prog;have hmf:∀(fn:Fn) (first cap:Array Value) (w:World),(Instr.makeFunc fn first cap).run prog w=.ok (.func fn first cap) w:=λ_ _ _ _=>rfl;go_upto_region 8 with(go_at_call 117;refine Ze.o.mono ?_;rintro e w2 ⟨rfl,B,Yc⟩;have Xy:=ι B;have Zb:=ι Yc;have Xc:=ι (Xp.touch B (λh=>by have:=h.2;omega));have Zv:=ι (Za.o.touch B (λh=>D.2.1 h.1) (λh=>D.2.2 h.1));have x2:=Xc.o.cc 2;have xl:=Xc.o.lt;clear B Yc);obtain⟨v1,Yk,Xx⟩:=Zb.o;rw[Ya.o]at Yk;have hE:=HE.o;rw[Ya.o]at hE;obtain⟨cx,fo⟩:=Z25 Zm HC Yd hE.symm Yk HM;have hz1:=Yg.size;have hz2:=Xy.o.size;have Xd:∀b,AD (plus (AD S w) w1) w2 b->plus S w b/\b<w2.heap.size:=λb hb=>⟨hb.1.elim (λh=>.inl h.1) (λh=>.inr Ω),hb.2⟩
  have Xi:=J9 w2 (.map #[] 0) 209 [pP q,.map (some w2.heap.size),iI c.to];have Xf:Gr w2 ((w2.alloc (.map #[] 0)).alloc (.cells #[.pointer (some ⟨q,0,none⟩),.map (some w2.heap.size),.int .i64 c.to] 209)):=((Gr.refl w2).alloc _).alloc _;have Xh:=(BC.made (P:=prog) (K:=3) w2).gr ((Gr.refl _).alloc (.cells #[.pointer (some ⟨q,0,none⟩),.map (some w2.heap.size),.int .i64 c.to] 209));obtain⟨M,hM⟩:∃M,M=w2.heap.size:=⟨_,rfl⟩;obtain⟨W3,Yf⟩:∃W3,W3=((w2.alloc (.map #[] 0)).alloc (.cells #[.pointer (some ⟨q,0,none⟩),.map (some w2.heap.size),.int .i64 c.to] 209)):=⟨_,rfl⟩;have hsz3:W3.heap.size=M+2:=by rw[Yf,γ,γ,hM]
  have hMw:w.heap.size<M:=by rw[hM];exact Xc.o.lt
  have hMw2:M<=w2.heap.size/\w2.heap.size<=M:=Ω
  rw[show (w2.alloc (.map #[] 0)).alloc (.cells ([.pointer (some ⟨q,0,none⟩),.map (some w2.heap.size),.int .i64 c.to]:List Value).toArray 209)=W3 from Yf.symm]at Xi;rw[<-Yf]at Xf Xh⊢;rw[<-hM]at Xi Xh Xd⊢;have hr1:=Za.o.lt;have hr2:=Zv.o.lt;have Yo:C2 W3 (AD (plus (AD S w) w1) w2) (M+1) M q v1 c.to [] v1:=⟨by simpa[AH]using Xi,Xh.congr (λy=>by simp[KD]),Xx.cut.gr Xf,λh=>by have:=(Xd _ h).2;omega,λh=>by have:=(Xd _ h).2;omega⟩;have Ys:XH W3 (AD (plus (AD S w) w1) w2) (M+1) M r g:=⟨by omega,by omega,by omega,by omega,by omega,by omega,λh=>(Xd _ h).1.elim D.2.1 (λh=>by omega),λh=>(Xd _ h).1.elim D.2.2 (λh=>by omega)⟩;have Jl:=ι (Q0I Yo cx fo (Zv.o.gr Xf) Jh Ys);have Yb:=ι (ξ cx fo);have Ye:=ι Xf;have Yz:=ι Yk;have Ja:=ι Xd;have U:=ι Ys;have Js:=(Xc.o.gr Xf).cell (j:=2) rfl;have Jx:=(Xc.o.gr Xf).lt;clear Yk Xx cx fo Yf hM Xf Xh Xi Yo Ys Xd x2 xl y0 y1 y2 yl hE;go_upto_region 9 with(go_at_call 135;refine Jl.o.mono ?_;rintro e w4 ⟨rfl,Yt,v',Si,hL⟩;have HL:=ι hL;clear hL)
  have Yr:Hid (∀W' S',AB (λb=>b=g\/(b=M+1\/b=M)\/AD (plus (AD S w) w1) w2 b) W3 W'->Gr W' S'->Rec S' w.heap.size 143 [iI c.fr,iI c.tp,iI c.to,iI c.lm,iI c.bk,iI c.st,iI c.ah]):=⟨λW' S' t g'=>((Xc.o.gr Ye.o).touch t (λh=>by
   have h2:=Xc.o.lt;have h3:=Ye.o.size;rcases h with h|h|h
   ·omega
   ·omega
   ·rcases h.1 with h|h
    ·have:=h.2;omega
    ·omega)).gr g'⟩
  have V:=Yr.o _ _ HL.o.t (Gr.refl _);have u2:=V.cc 2;have ul:=V.lt;clear V Js Jx Jz;go_wp2
  go_loopw [12] (λs12 wr=>∃(k:Nat) (v':Vm) (Si:Nat->Prop),Hid (CpL W3 wr (AD (plus (AD S w) w1) w2) Si (M+1) M q r g v1 rs Yt L c.to k v')/\s12=iI ((c.to:Int)+AH v1 ((AQ v1 rs k).take k))) (λs12 _=>((c.to:Int)+sizes L+1-intOf s12).toNat)
  case atStart=>exact⟨0,v',Si,HL,by simp[AH]⟩
  case round=>
   obtain⟨k,Xk,Zn,Y,rfl⟩:=hrel;obtain⟨cx,fo⟩:=Yb.o;have O:=Y.o.st.lt;have c2:=Y.o.cat.rc.cc 2;have Xr:=cx.sum Y.o.st.nd Y.o.st.rch;have Zi:=F6 v1 ((AQ v1 rs k).take k);have Zp:=RD v1 (AQ v1 rs k) k;have Xo:=cx.top;have Zf:v1.n=v.n:=Yz.o.n;clear u2 ul;by_cases hk:k<(AQ v1 rs k).length
   ·have Zh:=(C9 (cx.mks.sound.rd _ (Y.o.st.rch _ (κ hk)))).2.1;have Jv:=KH v1 hk;have Zk:=RD v1 (AQ v1 rs k) (k+1);have Zr:=ι (ZQS Y.o.cat cx fo Y.o.st hk);have HK:=ι hk;have Jk:Hid (AH v1 ((AQ v1 rs k).take k)+1<=AH v1 ((AQ v1 rs k).take (k+1))):=⟨by omega⟩;obtain⟨aa,Zc⟩:∃aa:Nat,(aa:Int)=c.to+AH v1 ((AQ v1 rs k).take k):=⟨((c.to:Int)+AH v1 ((AQ v1 rs k).take k)).toNat,by omega⟩;obtain⟨tt,Xm⟩:∃tt:Nat,(tt:Int)=c.to+AH v1 (AQ v1 rs k):=⟨((c.to:Int)+AH v1 (AQ v1 rs k)).toNat,by omega⟩;have Jn:=ι Zc;rw[<-Zc]at Zr⊢;rw[<-Xm]at c2;have e0:decide ((aa:Int)<(tt:Int))=true:=φ Ω;have e1:decide (aa<tt)=true:=φ Ω;have HB:=ι (ξ Zk Xr);clear hk Zh Jv Zk Zc Xm cx fo O Xr Zi Zp Xo Zf;go_wp2_with(go_at_call 137;refine Zr.o.mono ?_;rintro e w5 ⟨v3,rfl,Xt,Zo,Jc⟩;have Xl:=ι Xt;have Jy:=ι Zo;have Jf:=ι Jc;clear Xt Zo Jc);go_round
    case rel=>
     have Zy:=YnT HK.o;refine⟨k+1,v3,plus Zn wr,⟨⟨λb hb=>?_,by rw[Zy];exact Jy.o,by rw[Zy];exact Jf.o,?_,?_,?_⟩⟩,?_⟩
     ·have:=Y.o.t.size;rcases hb with h|h
      ·exact Y.o.sub b h
      ·right;omega
     ·rw[Y.o.oe];obtain⟨X,hX⟩:=UE v1 rs k;have Zt:∀a∈AQ v1 rs k++X,Rch v1 rs a:=λa ha=>ZQ Yb.o.1 (k+1) a (by rw[hX];exact ha);rw[hX]
      exact(XeB Yb.o.1 Zt (λa ha=>by
       by_cases h0:a=0
       ·exact .inl h0
       ·exact .inr (Zqu v1 rs k a ha h0))).symm
     ·refine Y.o.t.trans' Xl.o (λb hb h=>?_);rcases h with h|h
      ·exact .inr (.inl h)
      ·exact(Y.o.sub b h).elim (λh=>.inr (.inr h)) (λh=>by omega)
     ·refine Y.o.rt.touch Xl.o (λh=>?_) (λh=>?_)
      ·rcases h with(h|h)|h
       ·exact U.o.rK h
       ·exact U.o.rM h
       ·exact(Y.o.sub _ h).elim U.o.rS (λh=>by have:=U.o.r3;omega)
      ·rcases h with(h|h)|h
       ·exact U.o.gK h
       ·exact U.o.gM h
       ·exact(Y.o.sub _ h).elim U.o.gS (λh=>by have:=U.o.g3;omega)
     ·rw[VQN v1 rs k (by have:=HK.o;omega)]
    case measure=>
     have h1:=Jk.o;have h2:=HB.o;have h3:=Jn.o;simp only[intOf];omega
   ·have Yh:k=(AQ v1 rs k).length:=by
     rcases O with h|h
     ·exact absurd h hk
     ·exact h.1
    have Zq:=(cx.done Yh).2;rw[ψh (ξn Yh.symm)];obtain⟨tt,Xm⟩:∃tt:Nat,(tt:Int)=c.to+AH v1 (AQ v1 rs k):=⟨((c.to:Int)+AH v1 (AQ v1 rs k)).toNat,by omega⟩;have Zl:tt=c.to+sizes L:=Ω
    rw[<-Xm]at c2⊢;have e0:decide ((tt:Int)<(tt:Int))=false:=ζ Ω;have Xz:Xk.pl.pg=v.pl.pg:=Y.o.st.cp.sm.pg.trans Yz.o.pg;have Yw:=ι (λ(W:World) (g':Gr wr W)=>IJ (Y.o.cat.vm.gr g'));rw[Xz]at Yw;have Zg:=ι (ξ Yh (ξ Zq Zl));have Ua:Hid (Rec wr (M+1) 209 [pP q,.map (some M),iI tt]):=⟨by have:=Y.o.cat.rc;rw[<-Xm]at this;exact this⟩;obtain⟨pg,Xg⟩:∃pg,pg=v.pl.pg:=⟨_,rfl⟩;have Xn:=ι Xg;have Zs:=Yy.af;have htp:=Yy.tp;have htpn:=Yy.tn;rw[<-Xg]at Yw Ji Zs Jg;obtain⟨q0,Xw⟩:∃q0,q0=c.fr/pg:=⟨_,rfl⟩
    have Yp:q0*pg=c.fr:=by
     have:=ζu c.fr pg;rw[Zs,ζT]at this;rw[Xw];omega
    have Yu:=ι Xw;have g1:((c.fr:Int).tdiv (pg:Int))=(q0:Int):=by rw[Xw];rfl
    have g2:((c.fr:Int)/(pg:Int))=(q0:Int):=by rw[Xw];rfl
    have hpg0:(pg:Int)≠0:=Ω
    have hq0n:q0<=524288:=by have:=ζ1 c.fr pg;omega
    have Jd:=ι Yp;have V:=Yr.o _ _ Y.o.t (Gr.refl _);obtain⟨u0,u1,ul⟩:=V.k2;have Jq:Hid (UmI W3 wr (AD (plus (AD S w) w1) w2) (M+1) M q r g Xk Yt tt q0 0 pg c.tp):=⟨Y.o.t,⟨Zn,Y.o.sub,Y.o.cat.vm,Y.o.cat.nK⟩,Ua.o,Y.o.rt,λi hi=>absurd hi (ζQ _)⟩;have HHK:=ι hk;have Jt:Hid (Xk.pl.pg=pg):=⟨by rw[Xz,Xg]⟩;clear V cx fo O Xr Zi Zp Xo Zf hk Yh Zq Xm Zl Xg Xw Xz Yp Je Yn;go_upto_region 12 with(fail);obtain⟨Sx,J⟩:∃Sx:World->Prop,Sx=λW'=>W'.cell? ⟨w.heap.size,0,none⟩=some (iI c.fr):=⟨_,rfl⟩;have x1:∀p':AA Sx,p'.w.cell? ⟨w.heap.size,0,none⟩=some (iI c.fr):=λp=>AA.get J p;have Z:Sx wr.drew:=by rw[J];exact u0
    have Ju:=ι J;have I:Inhabited (AA Sx):=⟨⟨_,Z⟩⟩;clear J;refine AW Sx 6 [([0,1,2],3)] [4,5] Z ?_;refine AI ?_;go_wp2_with(go_at_call 138;refine(Yw.o _ (Gr.refl wr).drew).mono ?_;rintro e w5 ⟨rfl,rfl⟩);refine⟨.inr (AA.of Z),?_⟩;refine BE ?_;clear x1 Z I;clear Ju Sx;go_wp2
    go_loopw [13] (λs13 wx=>∃j:Nat,Hid (UmI W3 wx (AD (plus (AD S w) w1) w2) (M+1) M q r g Xk Yt tt q0 j pg c.tp)/\s13=iI ((q0+j:Nat):Int)) (λs13 _=>c.tp-(intOf s13).toNat*pg)
    case atStart=>exact⟨0,⟨Jq.o.gr (Gr.refl wr).drew⟩,rfl⟩
    case round=>
     obtain⟨j,HU,rfl⟩:=hrel;clear u0 u1 ul c2;obtain⟨Sj,Zx,Zd,Zj⟩:=HU.o.vm;have V:=Yr.o _ _ HU.o.t (Gr.refl _);have u1:=V.cc 1;have Yx:=IJ (Zd.gr (Gr.refl wr).drew);rw[(LG Xk q0 j).2.1,Jt.o]at Yx;have Ym:=ι Yx;have Jb:=ι Zd;have Xb:=ι (ξ Zx Zj);obtain⟨qq,Xu⟩:∃qq,qq=q0+j:=⟨_,rfl⟩;obtain⟨pp,Xj⟩:∃pp,pp=qq*pg:=⟨_,rfl⟩
     have hppb:pp<=1048576:=by
      rcases ζB j with h0|h0
      ·rw[Xj,Xu,h0,ξo,Jd.o];omega
      ·have:=HU.o.q1 (j-1) Ω;have e:pp=(q0+(j-1))*pg+pg:=by rw[Xj,Xu,show q0+j=(q0+(j-1))+1 by omega,ξf,ξx]
       omega
     have hqb:qq<=pp:=by rw[Xj];exact ξY _ Ω
     have hmul:((qq:Int)*(pg:Int))=(pp:Int):=by rw[Xj];push_cast;rfl
     have Xe:=ι (ξ Xu Xj);rw[<-Xu];clear V Yx Zd Zx Zj Xu Xj;by_cases O:pp<c.tp
     ·have e1:decide ((pp:Int)<(c.tp:Int))=true:=φ Ω;have e2:decide (pp<c.tp)=true:=φ O;have Yi:=ι O;have Jp:=ι (λ(W:World) (g':Gr wr W)=>MP (Jb.o.gr g') (qq:Int));clear O;go_upto_region 13 with(fail);obtain⟨Sx,J⟩:∃Sx:World->Prop,Sx=λW'=>W'.cell? ⟨w.heap.size,1,none⟩=some (iI c.tp):=⟨_,rfl⟩;have x1:∀p':AA Sx,p'.w.cell? ⟨w.heap.size,1,none⟩=some (iI c.tp):=λp=>AA.get J p;have Z:Sx wr.drew:=by rw[J];exact u1
      have I:Inhabited (AA Sx):=⟨⟨_,Z⟩⟩;clear J;refine AW Sx 7 [([0,1,4,5],2)] [3,6] Z ?_;refine AI ?_;go_wp2_with(go_at_call 138;refine Ym.o.mono ?_;rintro e w5 ⟨rfl,rfl⟩);refine⟨.inr (AA.of Z),?_⟩;refine BE ?_;clear x1 Z I;clear Sx;go_wp2_with(go_at_call 139;refine(Jp.o _ (Gr.refl wr).drew).mono ?_;rintro e w5 ⟨rfl,Xt,Zz⟩;have Xl:=ι Xt;have Jm:=ι Zz;clear Xt Zz);go_round
      case rel=>
       have Jj:=HU.o.t.size;refine⟨j+1,⟨⟨?_,⟨plus Sj wr.drew,λb hb=>?_,?_,λh=>?_⟩,?_,?_,λi hi=>?_⟩⟩,?_⟩
       ·refine(HU.o.t.trans ((Gr.refl wr).drew.touch _)).trans' Xl.o (λb hb h=>?_);exact(Xb.o.1 b h).elim (λh=>.inr (.inr h)) (λh=>by omega)
       ·rcases hb with h|h
        ·exact Xb.o.1 b h
        ·right;exact δ Jj h
       ·have:=Jm.o;rw[Xe.o.1]at this;exact this
       ·rcases h with h|h
        ·exact Xb.o.2 h
        ·have:=HU.o.rc.lt;exact absurd this (ξe h)
       ·exact(HU.o.rc.gr (Gr.refl wr).drew).touch Xl.o Xb.o.2
       ·refine(HU.o.rt.gr (Gr.refl wr).drew).touch Xl.o (λh=>?_) (λh=>?_)
        ·exact(Xb.o.1 _ h).elim U.o.rS (λh=>by have:=U.o.r3;omega)
        ·exact(Xb.o.1 _ h).elim U.o.gS (λh=>by have:=U.o.g3;omega)
       ·rcases υ i j with h|h
        ·exact HU.o.q1 i h
        ·obtain rfl:i=j:=Ω
         rw[<-Xe.o.1,<-Xe.o.2];exact Yi.o
       ·rw[show q0+(j+1)=qq+1 by rw[Xe.o.1];omega]
        go_num
      case measure=>
       have h1:=Yi.o;have h2:=Xe.o.2;simp only[intOf];rw[show ((qq:Int)+1).toNat=qq+1 by omega,χ,ξf,ξx,<-h2];omega
     ·have e1:decide ((pp:Int)<(c.tp:Int))=false:=ζ Ω;have e2:decide (pp<c.tp)=false:=ζ O;have Yi:=ι O;have c2:=HU.o.rc.cc 2;have c2l:=HU.o.rc.lt;clear O;go_upto_region 13 with(fail);obtain⟨Sx,J⟩:∃Sx:World->Prop,Sx=λW'=>W'.cell? ⟨w.heap.size,1,none⟩=some (iI c.tp):=⟨_,rfl⟩;have x1:∀p':AA Sx,p'.w.cell? ⟨w.heap.size,1,none⟩=some (iI c.tp):=λp=>AA.get J p;have Z:Sx wr.drew:=by rw[J];exact u1
      have I:Inhabited (AA Sx):=⟨⟨_,Z⟩⟩;clear J;refine AW Sx 7 [([0,1,4,5],2)] [3,6] Z ?_;refine AI ?_;go_wp2_with(go_at_call 138;refine Ym.o.mono ?_;rintro e w5 ⟨rfl,rfl⟩);refine⟨.inr (AA.of Z),?_⟩;refine BE ?_;clear x1 Z I;clear Sx;go_wp2;go_ret2;have hz3:=Ye.o.size;have Jo:AB (λb=>b=g\/S b) w W3:=(((Xa.touch _).trans (Yg.mono (λi _ h=>.inr h.1))).trans (Xy.o.mono (λi _ h=>.inr h.1))).trans (Ye.o.touch _);have hE:=HE.o;rw[Ya.o]at hE;refine⟨L,Yd,?_,.inr ⟨hE.symm,?_,v1,Xk,k,j,⟨Yz.o,Yb.o.1,Yb.o.2,Zg.o.1,Y.o.st,?_,?_⟩,?_,?_⟩⟩
      ·refine(Jo.trans' HU.o.t (λb hb h=>?_)).trans ((Gr.refl wr).drew.touch _);rcases h with h|h|h
       ·exact .inl h
       ·omega
       ·exact(Ja.o b h).1.elim .inr (λh=>by omega)
      ·rw[<-Zg.o.2.2];exact BG rfl rfl
      ·intro i hi;rw[<-Xn.o,<-Yu.o];exact HU.o.q1 i hi
      ·rw[<-Xn.o,<-Yu.o,<-Xe.o.1,<-Xe.o.2];have:=Yi.o;omega
      ·rw[<-Xn.o,<-Yu.o];refine(Jb.o.gr (Gr.refl wr).drew).mono (λb hb=>?_);exact(Xb.o.1 b hb).elim (λh=>(Ja.o b h).1) (λh=>.inr Ω)
      ·rw[<-Y.o.oe];exact HU.o.rt.gr (Gr.refl wr).drew
 ·have d0:(E !=0)=true:=by simpa using Yj
  go_wp2_with(go_at_call 117;refine Ze.o.mono ?_;rintro e w2 ⟨rfl,B,Yc⟩;have Xy:=ι B;have Zb:=ι Yc;clear B Yc);go_ret2;refine⟨L,Yd,?_,.inl ⟨?_,?_,?_,?_⟩⟩
  ·exact(((Xa.touch _).trans (Yg.mono (λi _ h=>.inr h.1))).trans (Xy.o.mono (λi _ h=>.inr h.1)))
  ·rw[<-Ya.o,<-HE.o];exact Yj
  ·rw[<-Ya.o,<-HE.o];exact BG rfl rfl
  ·have hF:BO v c.to ((c.to+nn:Nat):Int)=[]:=by unfold BO;rw[ψ (λh=>Yj (HE.o.trans h.1))]
   obtain⟨v',hg,hv⟩:=Zb.o;rw[hF]at hg;have:=Yg.size;exact⟨v',hg,hv.mono (λb hb=>hb.elim (λh=>.inl h.1) (λh=>.inr Ω))⟩
  ·exact Za.o.touch Xy.o (λh=>D.2.1 h.1) (λh=>D.2.2 h.1)
end
end Go.Proofs.YtggjoonlcjjgkaaGreatDoor
