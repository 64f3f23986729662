/- Part 6 of what QueueNobody leans on: my own lemmas, merged by shake.py. -/
import Derived.Test.YtggjoonlcjjgkaaGreatDoorQueueNobodyE
import Derived.Deep.LoopGhost
namespace Go.Proofs.YtggjoonlcjjgkaaGreatDoor
open _root_.Go.Proofs.Tryz
set_option maxHeartbeats 6400000
set_option maxRecDepth 100000
open Go.RowKit
variable{lb:Array Value}{b lost':Bool}{a r vi:Int}{X:Int->Prop}{O l rs st':List Int}{L:List Ob}{s:MkS}{K M R b12 b5 cp f g j k m n q to:Nat}{G S S3 SV SW:Nat->Prop}{A:Option Addr}{z:Sp}{α σ:Type}{u u':Value}{v v1:Vm}{w w' w3:World}
section
variable{F:Fence}{P:Program}
def UC(K:Nat)(F:Fence)(n:Nat)(P:Program)(g:Nat)(lb:Array Value)(encs:α->Array Value)(Inv:σ->World->Prop)(gives:σ->α->Prop)(next:σ->α->σ->Prop)(fin:σ->Prop)(s0:σ)(w:World):Prop:=
 ∀(l:Nat) (J:σ->World->Prop) (Jx:World->Prop) (W:World),Gr w W->(∀s A B,J s A->AB (λk=>W.heap.size<=k/\k<W.heap.size+K) A B->J s B)->(∀A B,Jx A->AB (λk=>W.heap.size<=k/\k<W.heap.size+K) A B->Jx B)->(∀s A,J s A->Inv s A) →
  (∀s x W1,J s W1->W.heap.size+K<=W1.heap.size->gives s x->YieldAt F (n-1) P l (encs x) W1 λe W'=>((e=.returned (.bool true)/\∃s',next s x s'/\J s' W')\/(e=.returned (.bool false)/\Jx W'))/\AB (λk=>k<W.heap.size\/W.heap.size+K<=k) W1 W') →
  J s0 W->CallsIn F n P g (#[.func (.yield l) #[] #[]]++lb) W λe W'=>(∃v,e=.returned v)/\((∃s,fin s/\J s W')\/Jx W')
def Y3E(B K:Nat)(I:σ->World->Prop)(Ix:Code->World->Prop)(next:σ->α->σ->Prop)(s:σ)(x:α)(W:World):Exit->Act->World->Prop
 | .normal,_,W'=>AB (λk=>k<B\/B+K<=k) W W'/\∃s',next s x s'/\I s' W'
 | .ret,_,W'=>AB (λk=>k<B\/B+K<=k) W W'/\Ix .ret W'
 | .exit id,_,W'=>AB (λk=>k<B\/B+K<=k) W W'/\Ix (.exit id) W'
 | .goto t,_,W'=>AB (λk=>k<B\/B+K<=k) W W'/\Ix (.goto t) W'
 | _,_,_=>False
theorem ME.toU{encs:α->Array Value}{Inv:σ->World->Prop}{gives:σ->α->Prop}{next:σ->α->σ->Prop}{fin:σ->Prop}{s0:σ}(h:ME F n P g lb encs Inv gives next fin s0 w):UC 0 F n P g lb encs Inv gives next fin s0 w:=by
 intro l J Jx W hg hJ U hI hY h0;refine h l (λs A=>J s A/\W.heap.size<=A.heap.size) Jx W hg (λs A B hs hAB=>⟨hJ s A B hs.1 (hAB.touch _),γ hs.2 hAB.size⟩) (λA B hs hAB=>U A B hs (hAB.touch _)) (λs A hs=>hI s A hs.1) ?_ ⟨h0,ν _⟩ |>.mono ?_
 ·rintro s x W1 ⟨hs,Y⟩ hx;refine(hY s x W1 hs Y hx).mono ?_;rintro e W' ⟨⟨he,s',hn,Z⟩|⟨he,hx'⟩,ht⟩
  ·exact .inl ⟨he,s',hn,Z,γ Y ht.size⟩
  simp_all
 grind
theorem LB{g:Operand}{ps:Array Tmp}{assign body:Code}{Q:Exit->Act->World->Prop}{a:Act}
  (hro:F.round=none) (h1:1<=n) {gf:Nat}  (hg:a.eval g=.func (.func gf) #[] lb) (hFg:F.fn gf) (eg:∀args w,(callFunc gf args).run P w=.ok (.enter gf args) w)
  {encs:α->Array Value} {Inv:σ->World->Prop} {gives:σ->α->Prop} {next:σ->α->σ->Prop} {fin:σ->Prop} {s0:σ}  (hseq:UC K F (n-1) P gf lb encs Inv gives next fin s0 w)
  (hps:∀x,(encs x).size=ps.size)
  (I:σ->World->Prop) (Ix:Code->World->Prop) (hI:∀s A B,I s A->AB (λk=>w.heap.size<=k/\k<w.heap.size+2+K) A B->I s B) (hIx:∀c A B,Ix c A->AB (λk=>w.heap.size<=k/\k<w.heap.size+2+K) A B->Ix c B)
  (hInv:∀s A,I s A->Inv s A) (h0:I s0 w)
  (hround:∀(l:Nat) (s:σ) (x:α) (W:World),w.heap.size+2+K<=W.heap.size->I s W->gives s x →
   assign.wpIn (F.inRound l) (n-1-1) P (Exit.then (λa' Wa=>Gr W Wa/\∀W2,AB (λk=>k=w.heap.size+1) Wa W2->I s W2->body.wpIn (F.inRound l) (n-1-1) P (Y3E w.heap.size (2+K) I Ix next s x W2) a' W2) (λ_ _ _=>False))
    {tmps:=(ps.zip (encs x)).foldl (λt (p,v)=>t.setIfInBounds p v) a.tmps,defers:=[]} W)
  (hdone:∀(D:Nat) (s:σ) (W:World),D=w.heap.size->fin s->I s W->W.heap[D]?=some (.deferred (some []))->Q .normal {a with defers:={target:=.collected D,args:=#[]} :: a.defers} W)
  (hstop:∀(D:Nat) (c:Code) (W:World),D=w.heap.size->Ix c W->W.heap[D]?=some (.deferred (some []))->c.wpIn F n P Q {a with defers:={target:=.collected D,args:=#[]} :: a.defers} W):
  (Code.rangeFunc g ps assign body).wpIn F n P Q a w:=by
 refine wpIn_rangeFunc ?_;intro fn Xm;rw[hro];obtain⟨Z,U⟩:∃Z:LoopState->Option Code->Loop,Z=λst pe=>{state:=st,pending:=pe,fn,tmps:=a.tmps,params:=ps,assign,body,defers:=w.heap.size}:=⟨_,rfl⟩;obtain⟨W1,Xc⟩:∃W1,(w.alloc (.deferred (some []))).alloc (.loop (Z .ready none))=W1:=⟨_,rfl⟩
 have Xl:W1.heap[w.heap.size+1]?=some (.loop (Z .ready none)):=by
  rw[<-Xc];have:=ξD (w.alloc (.deferred (some []))) (.loop (Z .ready none));rwa [β]at this
 have Xo:W1.heap[w.heap.size]?=some (.deferred (some [])):=by
  rw[<-Xc];exact(Below.heap_alloc _ _ _ (by simp)).trans (ξD w _)
 have Xj:Gr w W1:=by rw[<-Xc];exact((Gr.refl w).alloc _).alloc _
 have tt:∀{A B:World},Gr A B->AB (λk=>w.heap.size<=k/\k<w.heap.size+2+K) A B:=λh=>h.touch _;have Y:∀{A:World} {k:Nat} {o:Obj},A.heap[k]?=some o->k<A.heap.size:=λh=>(ζo.1 h).1
 refine⟨w.heap.size+1,[{target:=.collected w.heap.size,args:=#[]}],W1,{target:=.fn (.func gf) lb,args:=#[.func (.yield (w.heap.size+1)) #[] #[]]},W1,gf,
  #[.func (.yield (w.heap.size + 1)) #[] #[]] ++ lb, W1, ?_, ?_, ?_, ?_, λ_ => h1, ?_⟩
 ·rw[<-Xc,U];exact run_enterLoop_outer _ _ _ _ _
 ·simp only[resolve,hg];simp[go_sem]
 ·intro f' Xi;simp[Target.leads]at Xi;subst Xi;exact hFg
 ·simp[invoke,go_sem,eg]
 ·have hs1:W1.heap.size=w.heap.size+2:=by rw[<-Xc];simp
  refine(hseq (w.heap.size+1)
   (λs W=>I s W/\W.heap[w.heap.size+1]?=some (.loop (Z .ready none))/\W.heap[w.heap.size]?=some (.deferred (some [])))
   (λW=>∃c,Ix c W/\W.heap[w.heap.size+1]?=some (.loop (Z .done (some c)))/\W.heap[w.heap.size]?=some (.deferred (some [])))
   W1 Xj
   (λs A B hs ht=>⟨hI s A B hs.1 (ht.mono (λk _ h=>by omega)),(ht.block _ (Y hs.2.1) Ω).trans hs.2.1,(ht.block _ (Y hs.2.2) Ω).trans hs.2.2⟩)
   (λA B hs ht=>by
    obtain⟨c,hc,hl,hk⟩:=hs
    exact⟨c,hIx c A B hc (ht.mono (λk _ h=>by omega)),(ht.block _ (Y hl) Ω).trans hl,(ht.block _ (Y hk) Ω).trans hk⟩)
   (λs A hs=>hInv s A hs.1) ?_ ⟨hI _ _ _ h0 (tt Xj),Xl,Xo⟩).mono ?_
  ·rintro s x W ⟨hi,hl,hk⟩ hszW Xk;have Xe:w.heap.size+1<W.heap.size:=Y hl;have hy:=run_yield (P:=P) (args:=encs x) hl (by rw[U];exact hps x);rw[U]at hy;refine⟨fn,_,assign,body,hy,roundIn_of_wpIn Xm (wpIn_mono (hround _ s x W Ω hi Xk) ?_)⟩;rintro e a' Wa hp;cases e with
   | normal=>?_
   | _=>exact False.elim hp
   obtain⟨Xb,Xa⟩:=hp
   replace hl:=(Xb.block Xe).trans hl
   replace hk:=(Xb.block Ω).trans hk
   replace Xe:=Y hl
   replace hi:=hI _ _ _ hi (tt Xb)
   revert Xa Xb;generalize W=W0;intro Xb Xa;obtain⟨W,rfl⟩:∃W,W=Wa:=⟨_,rfl⟩;refine⟨_,run_beginRound hl (by rw[U]),?_⟩;have Xg:(W.putObj (w.heap.size+1) (.loop {Z .ready none with state:=.busy})).heap[w.heap.size+1]?=some (.loop {Z .ready none with state:=.busy}):=ξw Xe;have Xh:(W.putObj (w.heap.size+1) (.loop {Z .ready none with state:=.busy})).heap[w.heap.size]?=some (.deferred (some [])):=(ζn Ω).trans hk;refine wpIn_mono (Xa _ ⟨rfl,rfl,rfl,by simp,λk _ hn=>ζn hn⟩ (hI _ _ _ hi ((DP W (w.heap.size+1) _).mono (λk _ h=>by omega)))) ?_
   have fin:∀(jump:Option Code) (W3:World),AB (λk=>k<w.heap.size\/w.heap.size+(2+K)<=k) (W.putObj (w.heap.size+1) (.loop {Z .ready none with state:=.busy})) W3 →
     (Instr.endRound (w.heap.size+1) jump).run P W3=.ok (.bool jump.isNone) (W3.putObj (w.heap.size+1) (.loop (Z (if jump.isNone then .ready else .done) jump))) ∧
     (W3.putObj (w.heap.size+1) (.loop (Z (if jump.isNone then .ready else .done) jump))).heap[w.heap.size+1]?=some (.loop (Z (if jump.isNone then .ready else .done) jump)) ∧
     (W3.putObj (w.heap.size+1) (.loop (Z (if jump.isNone then .ready else .done) jump))).heap[w.heap.size]?=some (.deferred (some [])):=λjump W3 J=>by
    have Xf:=(J.block _ (Y Xg) Ω).trans Xg;have:=run_endRound (P:=P) jump Xf;rw[U]at this⊢;exact⟨this,ξw (Y Xf),(ζn Ω).trans ((J.block _ (Y Xh) Ω).trans Xh)⟩
   have Xd:∀(o:Obj) (W3:World),AB (λk=>k<w.heap.size\/w.heap.size+(2+K)<=k) (W.putObj (w.heap.size+1) (.loop {Z .ready none with state:=.busy})) W3->AB (λk=>k<W1.heap.size\/W1.heap.size+K<=k) W0 (W3.putObj (w.heap.size+1) o):=λo W3 h3=>
    (((Xb.touch _).trans ((DP W (w.heap.size+1) _).mono (λk _ h=>by omega))).trans (h3.mono (λk _ h=>by omega))).trans ((DP W3 (w.heap.size+1) o).mono (λk _ h=>by omega))
   rintro e a3 W3 hp;cases e with
   | normal=>
    obtain⟨J,s',Xn,E⟩:=hp;obtain⟨hr,O,V⟩:=fin none W3 J;exact⟨_,_,hr,.inl ⟨rfl,s',Xn,hI _ _ _ E ((DP W3 (w.heap.size+1) _).mono (λk _ h=>by omega)),O,V⟩,Xd _ _ J⟩
   | ret=>
    obtain⟨J,E⟩:=hp;obtain⟨hr,O,V⟩:=fin (some .ret) W3 J;exact⟨_,_,hr,.inr ⟨rfl,.ret,hIx _ _ _ E ((DP W3 (w.heap.size+1) _).mono (λk _ h=>by omega)),O,V⟩,Xd _ _ J⟩
   | exit id=>
    obtain⟨J,E⟩:=hp;obtain⟨hr,O,V⟩:=fin (some (.exit id)) W3 J;exact⟨_,_,hr,.inr ⟨rfl,.exit id,hIx _ _ _ E ((DP W3 (w.heap.size+1) _).mono (λk _ h=>by omega)),O,V⟩,Xd _ _ J⟩
   | goto t=>
    obtain⟨J,E⟩:=hp;obtain⟨hr,O,V⟩:=fin (some (.goto t)) W3 J;exact⟨_,_,hr,.inr ⟨rfl,.goto t,hIx _ _ _ E ((DP W3 (w.heap.size+1) _).mono (λk _ h=>by omega)),O,V⟩,Xd _ _ J⟩
   | panic ch=>exact hp.elim
   | outgrown=>exact hp.elim
  ·rintro e W2 ⟨⟨v,rfl⟩,(⟨s,hS,hi,hl,hk⟩|⟨c,hi,hl,hk⟩)⟩
   ·exact⟨none,_,by have:=run_endLoop (P:=P) hl (by rw[U];simp);rw[U]at this;exact this,hdone _ s _ rfl hS (hI _ _ _ hi ((DP W2 (w.heap.size+1) _).mono (λk _ h=>by omega))) ((ζn Ω).trans hk)⟩
   ·exact⟨some c,_,by have:=run_endLoop (P:=P) hl (by rw[U];simp);rw[U]at this;exact this,hstop _ c _ rfl (hIx _ _ _ hi ((DP W2 (w.heap.size+1) _).mono (λk _ h=>by omega))) ((ζn Ω).trans hk)⟩
end
open Go.Shelf Word
section
attribute [local go_sem] Oper.semAt_some
theorem N8(n':Nat)(box m p1 b1 p2 b2 n:Nat)(L:List Ob)(w:World):
  UC 4 Fence.wide n' prog 187 #[pP box] GE (Zxj box m p1 b1 p2 b2 n L) (EI L) (λj _ j'=>j'=j+1) (λj=>j=L.length) 0 w:=by
 intro l J Jx W hg hJ Xn hI hY h0;refine τ.2 ((τ (n:=5)).1 ?_);refine callsIn_of_wp_marks func187 rfl trivial ?_ rfl;have I:=hI _ _ h0;have c0:=I.2.2.1;have k0:=I.1.c0;have Ya:=h0;have Xj:=hI;simp only[ntmps187,ζS,ζA,ζ6,Nat.reduceAdd,Nat.reduceSub,ζJ,ζI,ζX,ζO,ζV,ζr];have hbox:box<W.heap.size:=AT c0;have hmw:=I.1.hm
 gi_wp2_with(first
  | (refine⟨trivial,?_⟩;gi_at_call 122;refine(τ.2 (DN (I.1.gr ((Gr.refl W).alloc _)))).mono ?_;rintro e w1 ⟨rfl,rfl⟩)
  | (refine⟨trivial,?_⟩;gi_at_call 188;refine(τ.2 (Xig (some ⟨p1,0,none⟩))).mono ?_;rintro e w1 ⟨rfl,rfl⟩))
 obtain⟨W0,Xb⟩:∃W0,W0=(W.alloc (.cells #[.func (.yield l) #[] #[]] 118)).alloc (.cells #[.pointer (some ⟨p1,0,none⟩)] 150):=⟨_,rfl⟩;have Xy:Gr W W0:=by rw[Xb];exact((Gr.refl W).alloc _).alloc _
 have hsz0:W0.heap.size=W.heap.size+2:=by rw[Xb];simp
 have bY:W0.cell? ⟨W.heap.size,0,none⟩=some (.func (.yield l) #[] #[]):=by rw[Xb];exact((Boxed.new W _ _).alloc _).cell
 have bV:W0.cell? ⟨W.heap.size+1,0,none⟩=some (pP p1):=by
  rw[Xb];have:=Boxed.new (W.alloc (.cells #[.func (.yield l) #[] #[]] 118)) 150 (pP p1);rw[β]at this;exact this.cell
 rw[<-Xb];have Y:=I.1.good;have hnb:=I.1.nb;have Xq:J 0 W0:=hJ _ _ _ Ya (Xy.touch _);have Xu:A4 L ((0:Nat):Int)=0:=LO (ζh _) (λi hi h=>by omega) (λh=>by omega)
 have tI:∀s A B,LU n L J W.heap.size (W.heap.size+1) p1 (.func (.yield l) #[] #[]) s A->AB (λk=>W0.heap.size<=k/\k<W0.heap.size+2+0) A B->LU n L J W.heap.size (W.heap.size+1) p1 (.func (.yield l) #[] #[]) s B:=λs A B h t=>
  ⟨h.st,h.ps,by obtain⟨j,hj,e⟩:=h.j;exact⟨j,hJ _ _ _ hj (t.mono (λk _ h=>by omega)),e⟩,(t.cell (AT h.y) (by show ¬(W0.heap.size<=W.heap.size/\_);omega) 0).trans h.y,(t.cell (AT h.v) (by show ¬(W0.heap.size<=W.heap.size+1/\_);omega) 0).trans h.v⟩
 refine LB (K:=0) (s0:=(BV n L,0)) rfl Ω (gf:=217) (lb:=#[pP (W.heap.size+1)]) rfl trivial (enters_of func217 (by kernel_rfl) rfl)
  (ZNp _ (W.heap.size+1) p1 b1 n (BV n L) _).toU (λ_=>rfl)
  (LU n L J W.heap.size (W.heap.size+1) p1 (.func (.yield l) #[] #[])) (λc A=>c=.ret/\Jx A) tI (λc A B h t=>⟨h.1,Xn _ _ h.2 (t.mono (λk _ h=>by omega))⟩)
  (λs A h=>by
   obtain⟨j,hj,-⟩:=h.j;have hi:=Xj _ _ hj
   exact⟨by rw[h.st];exact hi.1.v1,by rw[h.st,H9],hi.2.1,h.v,h.ps⟩)
  ⟨rfl,ζh _,⟨0,Xq,Xu⟩,bY,bV⟩ ?round ?done ?stop
 case round=>
  intro lp s x W3 hsz3 Xg Xt;gi_wp2;refine⟨Gr.refl _,λW4 ht4 hI4=>?_⟩;obtain⟨O,Xh,⟨j,hj,U⟩,hy,hv⟩:=hI4;obtain⟨hx,Xr⟩:=Xt;have E:=Xj _ _ hj;rw[O]at hx Xr
  have Z:j<L.length:=by
   rcases χ j L.length with h|h
   ·exact h
   ·have:=VO Y (a:=(s.2:Int)) (by rw[U];omega);omega
  have Xx:x=L[j].1:=by
   have:=(MU Y (a:=(s.2:Int)) (by rw[U];exact Z)).1;rw[hx,this];congr 2
  subst Xx;have Xw:J j W4.drew:=hJ _ _ _ hj ((Gr.refl W4).drew.touch _);have Xi:W.heap.size+4<=W4.drew.heap.size:=by have:=ht4.size;show W.heap.size+4<=W4.heap.size;omega
  obtain⟨fn,tmps,assign,body,Yb,hR⟩:=ZVe (m':=2) (l2:=lp) (hY j L[j] W4.drew Xw Xi (ζa Z));have HZ:=(PS (E.1.gr (Gr.refl W4).drew) ((Gr.refl W4).drew.tab E.2.1.lt E.2.1) Z);have cbx:=E.2.2.1;have HS:=(θ O (θ U Z));clear O U hj E hx Xr Xg;dsimp only[GE]at Yb
  have Xl:=hR.mono (R':=λe W'=>∃bb:Bool,e=.returned (.bool bb)/\((bb=true/\J (j+1) W')\/(bb=false/\Jx W'))/\AB (λk=>k<W.heap.size\/W.heap.size+4<=k) W4.drew W') (by
   rintro e W' ⟨⟨he,s',rfl,Xv⟩|⟨he,hx⟩,ht⟩
   ·exact⟨true,he,.inl ⟨rfl,Xv⟩,ht⟩
   ·exact⟨false,he,.inr ⟨rfl,hx⟩,ht⟩)
  clear hR;gi_wp2;obtain⟨Sx,Xd⟩:∃S:World->Prop,S=λA=>A.cell? ⟨W.heap.size,0,none⟩=some (.func (.yield l) #[] #[]):=⟨_,rfl⟩;have x1:∀p:AA Sx,p.w.cell? ⟨W.heap.size,0,none⟩=some (.func (.yield l) #[] #[]):=λp=>AA.get Xd p;have Xa:Sx W4.drew:=by rw[Xd];exact hy
  have Xo:=ι Xd;clear Xd;have Xk:Inhabited (AA Sx):=⟨⟨_,Xa⟩⟩;refine FZ Sx 7 [([0,1,3],2),([],4),([],5)] [6] (λ_=>trivial) (by kernel_rfl) (by kernel_rfl) Xa ?_;refine C0 ?_;simp only[AC,ζ,ξ]
  repeat(go_big_quiet_step (fail))
  refine ψ ?_;gi_wp2;refine⟨.inr (AA.of Xa),?_⟩;refine C0 ?_;simp only[AC,ζ,ξ];refine ψ ?_;gi_wp2_with(refine⟨trivial,?_⟩;gi_at_call 189;refine(CallsIn.inRound lp (τ.2 HZ)).mono ?_;rintro e w' ⟨rfl,rfl⟩);refine⟨.inr (AA.of Xa),?_⟩;refine C0 ?_;simp only[AC,ζ,ξ];refine ψ ?_;gi_wp2;refine Xl.mono ?_;rintro e W5 ⟨bb,rfl,Xe,Xc⟩;have Xm:=(Xc.cell (AT hy) (by show ¬(W.heap.size<W.heap.size\/W.heap.size+4<=W.heap.size);omega) 0).trans hy;have Xz:=(Xc.cell (AT hv) (by show ¬(W.heap.size+1<W.heap.size\/W.heap.size+4<=W.heap.size+1);omega) 0).trans hv;gi_wp2;refine⟨.inr (AA.of (by rw[Xo.o];exact Xm)),?_⟩;refine GH ?_;simp only[AC,ζ,ξ]
  repeat(go_big_quiet_step (fail))
  refine ψ ?_;refine ζb ?_;have T5:=(((Gr.refl W4).drew.touch (λk=>k<W0.heap.size\/W0.heap.size+(2+0)<=k)).trans (Xc.mono (λk _ h=>by omega)));have Xs:=(Y.sz _ (π Z));clear x1 Xa Xo Xk Xl Xc;clear Sx;cases bb with
  | true=>
   have Xf:J (j+1) W5:=by
    rcases Xe with⟨_,h⟩|⟨h,_⟩
    ·exact h
    ·cases h
   clear Xe;gi_wp2;exact⟨T5,(BV n L,L[j].1+1),rfl,rfl,by have:=Xs;show L[j].1+1<=n;omega,⟨j+1,Xf,by have:=ZjB Y Z;push_cast;exact this⟩,Xm,Xz⟩
  | false=>
   have Xf:Jx W5:=by
    rcases Xe with⟨h,_⟩|⟨_,h⟩
    ·cases h
    ·exact h
   clear Xe;gi_wp2;exact⟨T5,rfl,Xf⟩
 case done=>
  rintro D s W3 hD V Xg hK;obtain⟨O,Xh,⟨j,hj,U⟩,hy,hv⟩:=Xg
  have Z:¬j<L.length:=λh=>by
   have:=MU Y (a:=(s.2:Int)) (by rw[U];exact h);unfold TP at V;rw[O]at V;exact V this.2
  have Xp:j=L.length:=by have:=NM L (s.2:Int);omega
  have HE:=(θ Xp hj);have HD:=hD;clear O Xh U hy hv V Xp hj hD Z;gi_wp2;refine⟨by simp,.inl ⟨_,_,rfl,run_takeDeferred hK,?_⟩⟩;refine⟨.tuple #[],ζl rfl _ _ _,⟨_,rfl⟩,.inl ⟨j,HE.1,hJ _ _ _ HE.2 ((DP W3 D _).mono (λk _ h=>by have:=HD;omega))⟩⟩
 case stop=>
  rintro D c W3 hD ⟨rfl,hx⟩ hK;have hK:=hK;have HD:=hD;clear hK hD;gi_wp2;refine⟨by simp,.inl ⟨_,_,rfl,run_takeDeferred hK,?_⟩⟩;refine⟨.tuple #[],ζl rfl _ _ _,⟨_,rfl⟩,.inr (Xn _ _ hx ((DP W3 D _).mono (λk _ h=>by have:=HD;omega)))⟩
end
structure MkC where
 k:Nat
 z:Sp
 m:Nat
 p1:Nat
 b1:Nat
 p2:Nat
 b2:Nat
 n:Nat
 g:Nat
 R:Nat
 wk:Nat
 B:Nat
variable{c:MkC}
def MkC.T(c:MkC)(G:Nat->Prop)(i:Nat):Prop:=i=c.k\/AS c.m c.b1 c.b2 i\/G i
structure DC(c:MkC)(SV G SW:Nat->Prop):Prop where
 sv':∀i,SV i->i<c.B/\¬c.T G i
 sw':∀i,SW i->i<c.B/\¬c.T G i
 tab':1<c.B/\¬c.T G 1
 p1':c.p1<c.B/\¬c.T G c.p1
 p2':c.p2<c.B/\¬c.T G c.p2
 k1:¬AS c.m c.b1 c.b2 c.k
 k2:¬G c.k
 kB:c.k<c.B
 mg:∀i,AS c.m c.b1 c.b2 i->¬G i
 mB:∀i,AS c.m c.b1 c.b2 i->i<c.B
 sd':∀i,c.z.D i->i<c.B/\¬c.T G i
theorem DC.sv(h:DC c SV G SW):∀i,SV i->¬c.T G i:=λi hi=>(h.sv' i hi).2
theorem DC.sw(h:DC c SV G SW):∀i,SW i->¬c.T G i:=λi hi=>(h.sw' i hi).2
theorem DC.sd(h:DC c SV G SW):∀i,c.z.D i->¬c.T G i:=λi hi=>(h.sd' i hi).2
theorem MkC.vm(hz:c.z.Ok)(hs:DC c SV G SW){T':Nat->Prop}(h:c.z.I v SV w)(t:AB T' w w')(hT:∀i,T' i->c.T G i):c.z.I v SV w':=hz.fr h t (λk _ hk=>⟨λh=>hs.sv k h (hT k hk),λh=>hs.sd k h (hT k hk)⟩) (λ_ h=>h)
theorem DC.tab(h:DC c SV G SW):¬c.T G 1:=h.tab'.2
theorem DC.p1(h:DC c SV G SW):¬c.T G c.p1:=h.p1'.2
theorem DC.p2(h:DC c SV G SW):¬c.T G c.p2:=h.p2'.2
theorem DC.plus(h:DC c SV G SW){w:World}(hw:c.B<=w.heap.size):DC c SV (plus G w) SW:=by
 have Y:∀i,i<c.B/\¬c.T G i->i<c.B/\¬c.T (Go.Proofs.YtggjoonlcjjgkaaGreatDoor.plus G w) i:=λi hi=>⟨hi.1,λht=>by
  rcases ht with h1|h1|h1|h1
  ·exact hi.2 (.inl h1)
  ·exact hi.2 (.inr (.inl h1))
  ·exact hi.2 (.inr (.inr h1))
  ·omega⟩
 exact⟨λi hi=>Y i (h.sv' i hi),λi hi=>Y i (h.sw' i hi),Y _ h.tab',Y _ h.p1',Y _ h.p2',h.k1,λh1=>h1.elim h.k2 (λh2=>by have:=h.kB;omega),h.kB,λi hi h1=>h1.elim (h.mg i hi) (λh2=>by have:=h.mB i hi;omega),h.mB,λi hi=>Y i (h.sd' i hi)⟩
def IX(c:MkC)(L:List Ob)(r vi:Int):List Value:=[c.z.v,pP c.m,pP c.g,pP c.wk,iI (L.length:Nat),iI (sizes L:Nat),iI r,iI vi]
structure A1(w:World)(SV G SW:Nat->Prop)(c:MkC)(v:Vm)(s:MkS)(r vi:Int):Prop where
 vm:c.z.I v SV w
 ext:Ext w c.m c.p1 c.b1 c.p2 c.b2 c.n s.L
 stk:BY w G c.g s.st c.R s.lost
 wk:CP w SW c.wk c.z.v []
 row:Rec w c.k 161 (IX c s.L r vi)
 tab:AP w
 sep:DC c SV G SW
 bB:c.B<=w.heap.size
 zk:c.z.Ok/\¬c.z.M
theorem A1.gr(h:A1 w SV G SW c v s r vi)(g:Gr w w'):A1 w' SV G SW c v s r vi:=
 ⟨h.zk.1.gr h.vm g,h.ext.gr g,h.stk.gr g,h.wk.gr g,h.row.gr g,g.tab h.tab.lt h.tab,h.sep,γ h.bB g.size,h.zk⟩
theorem A1.set(h:A1 w SV G SW c v s r vi){r' vi':Int}(hj:(IX c s.L r vi).set j u=IX c s.L r' vi'):A1 (w.setCell ⟨c.k,j,none⟩ u) SV G SW c v s r' vi':=by
 have t:AB (λi=>i=c.k) w (w.setCell ⟨c.k,j,none⟩ u):=(AB.refl (λi=>i=c.k) w).setCell (a:=⟨c.k,j,none⟩) (λ_=>rfl) u;have hs:=h.sep;refine⟨MkC.vm h.zk.1 hs h.vm t (λi e=>.inl e),?_,h.stk.touch t (λi hi _ e=>hs.k2 (e▸hi)),h.wk.touch t (λi hi _ e=>hs.sw i hi (.inl e)),hj▸h.row.set j u,t.tab h.tab.lt (λe=>hs.tab (.inl e)) h.tab,hs,γ h.bB t.size,h.zk⟩;exact h.ext.touch t (λe=>hs.k1 (e▸.inl rfl)) (λe=>hs.p1 (.inl e)) (λe=>hs.k1 (e▸.inr (.inl rfl))) (λe=>hs.p2 (.inl e)) (λe=>hs.k1 (e▸.inr (.inr rfl)))
theorem N9(j:Nat)(u:Value):AB (c.T G) w (w.setCell ⟨c.k,j,none⟩ u):=(AB.refl _ w).setCell (a:=⟨c.k,j,none⟩) (λ_=>.inl rfl) u
def CM(w:World)(SV G SW:Nat->Prop)(c:MkC)(v:Vm)(P:MkS->Int->Int->Prop)(N:Prop)(e:Ending)(w':World):Prop:=
 AB (c.T G) w w'/\((e=.returned (.tuple #[])/\∃s r vi,A1 w' SV (plus G w) SW c v s r vi/\P s r vi)\/(e=.panicked [{v:=GV 25 0,recovered:=false}]/\N/\∃s r vi,A1 w' SV (plus G w) SW c v s r vi))
section
variable{P:MkS->Int->Int->Prop}{N:Prop}
theorem A1.sub{G':Nat->Prop}(h:A1 w SV G SW c v s r vi)(hg:∀i,G i->G' i)(hs:DC c SV G' SW):A1 w SV G' SW c v s r vi:=⟨h.vm,h.ext,h.stk.mono hg,h.wk,h.row,h.tab,hs,h.bB,h.zk⟩
theorem A1.up(h:A1 w' SV G SW c v s r vi)(hw:c.B<=w.heap.size):A1 w' SV (plus G w) SW c v s r vi:=h.sub (λ_ h=>.inl h) (h.sep.plus hw)
theorem A1.back{w0:World}(h:A1 w' SV (plus (plus G w0) w) SW c v s r vi)(hz:w0.heap.size<=w.heap.size)(hs:DC c SV G SW)(hw:c.B<=w0.heap.size):A1 w' SV (plus G w0) SW c v s r vi:=
 h.sub (λ_ h=>h.elim id (λh=>.inr (γ hz h))) (hs.plus hw)
theorem IF{a b d:World}(h:AB (c.T G) a b)(k:AB (c.T (plus G a)) b d):AB (c.T G) a d:=
 h.trans' k (λi hi ht=>by
  rcases ht with h1|h1|h1|h1
  ·exact .inl h1
  ·exact .inr (.inl h1)
  ·exact .inr (.inr h1)
  ·omega)
theorem CM.ok(t:AB (c.T G) w w')(h:A1 w' SV (plus G w) SW c v s r vi)(p:P s r vi):CM w SV G SW c v P N (.returned (.tuple #[])) w':=⟨t,.inl ⟨rfl,s,r,vi,h,p⟩⟩
theorem CM.no(t:AB (c.T G) w w')(h:A1 w' SV (plus G w) SW c v s r vi)(n:N):CM w SV G SW c v P N (.panicked [{v:=GV 25 0,recovered:=false}]) w':=⟨t,.inr ⟨rfl,n,s,r,vi,h⟩⟩
end
theorem VEk(L:List Ob)(o:Ob):sizes (DB L o)=sizes L+o.2:=by
 induction L with
 | nil=>simp[DB,sizes]
 | cons q t ih=>
  unfold DB
  split
  ·simp only[sizes];omega
  ·simp only[sizes,ih];omega
theorem Jqz(h:AO n L)(ha:Hs L a):AZ L a<L.length/\obS L (AZ L a)=a:=by
 obtain⟨o,ho,rfl⟩:=ha;obtain⟨j,hj,rfl⟩:=ζp ho;have hz:=(h.sz _ ho).1;rw[NW h hj (ψs _) Ω]
 grind [JH]
theorem Z8n(hn:¬Hs L a)(hf:AZ L a<L.length):obS L (AZ L a)≠a:=by
 rw[(JH hf).1];exact λe=>hn ⟨_,π hf,e⟩
theorem BY.set2{i:Nat}(h:BY w G g l R b)(hk:¬G k):BY ((w.setCell ⟨k,i,none⟩ u).setCell ⟨k,j,none⟩ u') G g l R b:=
 (h.touch ((AB.refl (λx=>x=k) w).setCell (a:=⟨k,i,none⟩) (λ_=>rfl) u) (λ_ hx _ e=>hk (e▸hx))).touch ((AB.refl (λx=>x=k) _).setCell (a:=⟨k,j,none⟩) (λ_=>rfl) u') (λ_ hx _ e=>hk (e▸hx))
theorem VNW{z:Int}(he:C5 L c.n a z=0):((IX c L r vi).set 4 (iI ((L.length:Nat)+1))).set 5 (iI ((sizes L:Nat)+z))=IX c (CX L c.n a z) r vi:=by
 have hz:=(YLm he).1;have h1:=ZoS he;have h2:sizes (CX L c.n a z)=sizes L+z.toNat:=by unfold CX;rw[μ he,VEk]
 unfold IX
 grind
theorem A1.pushed{w4 w5:World}(h:A1 w SV G SW c v s r vi){L':List Ob}(t4:AB (AS c.m c.b1 c.b2) w w4)(x4:Ext w4 c.m c.p1 c.b1 c.p2 c.b2 c.n L')
  (t5:AB G ((w4.setCell ⟨c.k,4,none⟩ u).setCell ⟨c.k,5,none⟩ u') w5) (s5:BY w5 (plus G ((w4.setCell ⟨c.k,4,none⟩ u).setCell ⟨c.k,5,none⟩ u')) c.g st' c.R lost') (hm:((IX c s.L r vi).set 4 u).set 5 u'=IX c L' r vi):
  A1 w5 SV (plus G w) SW c v ⟨L',st',lost'⟩ r vi/\AB (c.T G) w w5:=by
 have hs:=h.sep
 have tk:AB (λi=>i=c.k) w4 ((w4.setCell ⟨c.k,4,none⟩ u).setCell ⟨c.k,5,none⟩ u'):=
  ((AB.refl (λi=>i=c.k) w4).setCell (a:=⟨c.k,4,none⟩) (λ_=>rfl) u).setCell (a:=⟨c.k,5,none⟩) (λ_=>rfl) u'
 have hz:w.heap.size<=((w4.setCell ⟨c.k,4,none⟩ u).setCell ⟨c.k,5,none⟩ u').heap.size:=γ t4.size tk.size;have Y:¬G c.k:=hs.k2
 refine⟨⟨MkC.vm h.zk.1 hs (MkC.vm h.zk.1 hs (MkC.vm h.zk.1 hs h.vm t4 (λi e=>.inr (.inl e))) tk (λi e=>.inl e)) t5 (λi e=>.inr (.inr e)),?_,s5.mono (λi hi=>hi.imp id (λh'=>γ hz h')),((h.wk.touch t4 (λi hi _ e=>hs.sw i hi (.inr (.inl e)))).touch tk (λi hi _ e=>hs.sw i hi (.inl e))).touch t5 (λi hi _ e=>hs.sw i hi (.inr (.inr e))),
   (hm▸((h.row.touch t4 hs.k1).set 4 u).set 5 u').touch t5 Y,?_,hs.plus h.bB,γ h.bB (γ hz t5.size),h.zk⟩,?_⟩
 ·have e1:=x4.touch tk (λe=>hs.k1 (e▸.inl rfl)) (λe=>hs.p1 (.inl e)) (λe=>hs.k1 (e▸.inr (.inl rfl))) (λe=>hs.p2 (.inl e)) (λe=>hs.k1 (e▸.inr (.inr rfl)));exact e1.touch t5 (hs.mg _ (.inl rfl)) (λe=>hs.p1 (.inr (.inr e))) (hs.mg _ (.inr (.inl rfl))) (λe=>hs.p2 (.inr (.inr e))) (hs.mg _ (.inr (.inr rfl)))
 ·have a1:=t4.tab h.tab.lt (λe=>hs.tab (.inr (.inl e))) h.tab;have a2:=tk.tab a1.lt (λe=>hs.tab (.inl e)) a1;exact t5.tab a2.lt (λe=>hs.tab (.inr (.inr e))) a2
 ·exact((t4.mono (λi _ hi=>.inr (.inl hi))).trans (tk.mono (λi _ hi=>.inl hi))).trans (t5.mono (λi _ hi=>.inr (.inr hi)))
theorem QK(w:World)(k:Nat):cQ 176 #[pP k,.bool true] w (.tuple #[]):=by
 go_enter func176,ntmps176;go_wp2;refine ζy (ζl rfl _ _ _) rfl ?_
 simp_all
theorem VS(h:A1 w SV G SW c v s r vi):Calls prog 176 #[pP c.k,.bool false] w λe w'=>e=.panicked [{v:=GV 25 0,recovered:=false}]/\w=w':=by
 have c3:=h.row.cc 3;have HF:=(XZ h.zk.1.nn h.wk 25 0);go_enter func176,ntmps176;go_wp2_with(go_at_call 154;refine HF.mono ?_;rintro e w1 ⟨rfl,rfl⟩);exact⟨rfl,rfl,rfl⟩
def Sp.Rd(z:Sp)(v:Vm)(a:Int):Prop:=(0<a->z.P a)/\∀i:Int,v.plE a i 1=0->z.P (a+1+i)
def XLt(s:MkS)(v:Vm)(rs:List Int)(c:MkC)(X:Int->Prop)(a r vi:Int)(s':MkS)(r' vi':Int):Prop:=B8 v rs c.n c.R X s'/\DG s s'/\(a≠0->Hs s'.L a)/\r'=r/\vi'=vi
theorem VVL(h:A1 w SV G SW c v s r vi)(hp:∀a,Rch v rs a->c.z.Rd v a)(hi:B8 v rs c.n c.R X s)(ha:a≠0->Rch v rs a):Calls prog 126 #[pP c.k,iI a] w (CM w SV G SW c v (XLt s v rs c X a r vi) (¬CE v rs c.n)):=by
 have H:=h;have HI:=hi;by_cases h0:a=0
 ·subst h0;clear h hi ha hp;go_enter func126,ntmps126;go_wp2;refine ζy (ζl rfl _ _ _) rfl ?_;exact CM.ok (AB.refl _ _) (H.up H.bB) ⟨HI,DG.refl _,λh=>absurd rfl h,rfl,rfl⟩
 ·have hR:=ha h0;have HR:=hR;have d0:(a==0)=false:=by simpa using h0
  have c0:=h.row.cc 0;have c1:=h.row.cc 1;unfold Sp.v at c0;have D:=(LH h.ext h.tab a);unfold F5 at D;have Xb:=hi.mkd.good;by_cases hs:Hs s.L a
  ·obtain⟨f1,f2⟩:=Jqz Xb hs;rw[f2,κ f1]at D;have HS:=hs;clear h hi ha hp h0 hR hs Xb f1 f2;go_enter func126,ntmps126;go_wp2_with(go_at_call 168;refine D.mono ?_;rintro e w1 ⟨rfl,rfl⟩);refine ζy (ζl rfl _ _ _) rfl ?_;exact CM.ok (AB.refl _ _) (H.up H.bB) ⟨HI,DG.refl _,λ_=>HS,rfl,rfl⟩
  ·have Xh:=(λhf=>Z8n hs hf);have Yh:=hs;obtain⟨st,Xf⟩:∃st,st=obS s.L (AZ s.L a):=⟨_,rfl⟩;obtain⟨sz,Xk⟩:∃sz,sz=obZ s.L (AZ s.L a):=⟨_,rfl⟩;obtain⟨fb,Xg⟩:∃fb,fb=decide (AZ s.L a<s.L.length):=⟨_,rfl⟩;rw[<-Xf,<-Xk,<-Xg]at D;rw[<-Xf]at Xh;have Xj:=Xg
   have Xo:fb=false\/(fb=true/\(st==a)=false):=by
    cases hb:fb with
    | false=>exact .inl rfl
    | true=>exact .inr ⟨rfl,by have:=Xh (of_decide_eq_true (Xj.symm.trans hb));simpa using this⟩
   have V:=(λW (g:Gr w W)=>(MQ h.zk.1 (h.zk.1.gr h.vm g) a (hp a hR).1).mono λ_ _ hh=>θ hh.1 (hh.2.ro h.zk.2));unfold Sp.v at V;have Xz:s.L.length<=1048576:=γ Xb.len h.ext.nb.2;have Yb:sizes s.L<=1048576:=γ (FK Xb) h.ext.nb.2;by_cases hE:v.rdE a=0
   ·have HE:=hE;obtain⟨-,-,p,f,k,hh,Xv⟩:=FT hE;have Xc:=C9 hE;have Xe:=(λW=>KW ⟨p,f,k⟩ W);have ho:v.osz a=B9 ⟨p,f,k⟩:=by unfold Vm.osz;rw[hh]
    rw[<-ho]at Xe;rw[hE,hh]at V;unfold AJ at V Xe;obtain⟨z,hz⟩:∃z,z=v.osz a:=⟨_,rfl⟩;rw[<-hz]at Xe Xc;have HZ:=ι hz;have Xl:=ι (λW (g:Gr w W)=>Zc1 (h.ext.gr g) (g.tab h.tab.lt h.tab) a z);unfold UE at Xl;have Y:=h.sep;have Yd:=ι (λ(W W':World) (g:Gr w W) (t:AB (AS c.m c.b1 c.b2) W W') (x:Ext W' c.m c.p1 c.b1 c.p2 c.b2 c.n s.L)=>(⟨MkC.vm h.zk.1 Y (h.zk.1.gr h.vm g) t (λi e=>.inr (.inl e)),x,(h.stk.gr g).touch t (λi hi _ e=>Y.mg i e hi),(h.wk.gr g).touch t (λi hi _ e=>Y.sw i hi (.inr (.inl e))),(h.row.gr g).touch t Y.k1,t.tab (g.tab h.tab.lt h.tab).lt (λe=>Y.tab (.inr (.inl e))) (g.tab h.tab.lt h.tab),Y,γ h.bB (γ g.size t.size),h.zk⟩:A1 W' SV G SW c v s r vi));by_cases hA:C5 s.L c.n a z=0
    ·have HA:=ι hA;rw[hA]at Xl;have Xr:=ι (VNW (c:=c) (r:=r) (vi:=vi) hA);have Xs:=h.sep.k2;have Ya:=ι Xs;have Xu:=ι (hi.push hR hE (by rw[<-hz];exact hA));rw[<-hz]at Xu;have hz1:1<=z:=Xc.2.1;have hz2:z<=256:=Xc.2.2;obtain⟨LN,Xn⟩:∃LN:Nat,LN=s.L.length:=⟨_,rfl⟩;obtain⟨SN,Xq⟩:∃SN:Nat,SN=sizes s.L:=⟨_,rfl⟩;rw[<-Xn]at Xz Xr;rw[<-Xq]at Yb Xr;have Z:=ι (θ Xn Xq);clear h hi ha hp h0 hR hs Xb Xf Xk Xg hE Xh Xj hh Xv ho hz hA Y Xs Xc Xn Xq;rcases Xo with rfl|⟨rfl,d3⟩
     all_goals
      go_enter func126,ntmps126
      go_wp2_with(first
       | (go_at_call 168;refine D.mono ?_;rintro e w1 ⟨rfl,rfl⟩)
       | (go_at_call 104;refine(V _ (Gr.refl _)).mono ?_;rintro e w1 ⟨rfl,O⟩;have J:=ι (O.alloc (.cells #[.int .i64 p,.int .i64 f,.int .i64 k] 72));clear O)
       | (go_at_call 176;(with_reducible refine(QK _ _).mono ?_);rintro e w2 ⟨rfl,rfl⟩)
       | (go_at_call 69;refine(Xe _).mono ?_;rintro e w3 ⟨rfl,B⟩;have U:=ι (J.o.trans B);have Yc:=(H.gr (J.o.trans B)).row.cell (j:=1) rfl;clear B)
       | (go_at_call 177;refine(Xl.o _ U.o).mono ?_;rintro e w4 ⟨rfl,I,Xd⟩;have Yg:=ι Xd;have Xp:=ι I;have Xi:=ι (H.gr U.o);have Xm:=ι (Xi.o.row.touch I Xi.o.sep.k1);have y2:=Xm.o.cc 2;have y4:=Xm.o.cc 4;have y5:=Xm.o.cc 5;have yf:=Xm.o.free;have Yf:=ι (Xi.o.stk.touch I (λi hi _ e=>Xi.o.sep.mg i e hi));rw[<-Z.o.1]at y4;rw[<-Z.o.2]at y5;clear I Xd)
       | (go_at_call 178;refine(Y4L (Yf.o.set2 Ya.o) a).mono ?_;intro e w5 hp;have Ye:(∃b,e=.returned (.bool b)):=by {rcases hp with⟨_,rfl,_⟩|⟨_,rfl,_⟩ <;> exact⟨_,rfl⟩};have HP:=ι hp;obtain⟨pb,rfl⟩:=Ye;clear hp))
      refine ζy (ζl rfl _ _ _) rfl ?_;have Xt:=Xr.o;rw[Z.o.1,Z.o.2]at Xt
      have Xx:∀st' lost',s.push c.R (CX s.L c.n a z) a=⟨CX s.L c.n a z,st',lost'⟩->AB G ((w4.setCell ⟨c.k,4,none⟩ (.int .i64 ((s.L.length:Nat)+1))).setCell ⟨c.k,5,none⟩ (.int .i64 ((sizes s.L:Nat)+z))) w5/\BY w5 (plus G ((w4.setCell ⟨c.k,4,none⟩ (.int .i64 ((s.L.length:Nat)+1))).setCell ⟨c.k,5,none⟩ (.int .i64 ((sizes s.L:Nat)+z)))) c.g st' c.R lost'->CM w SV G SW c v (XLt s v rs c X a r vi) (¬CE v rs c.n) (.returned (.tuple #[])) w5:=λst' lost' hpe ⟨E,Xa⟩=>by
       obtain⟨q1,q2,q3⟩:=Xu.o;rw[hpe]at q1 q2 q3;obtain⟨m5,t5⟩:=Xi.o.pushed Xp.o Yg.o E Xa Xt;exact CM.ok ((U.o.touch _).trans t5) (m5.sub (λi hi=>hi.imp id (λh'=>γ U.o.size h')) (H.sep.plus H.bB)) ⟨q1,q2,λ_=>q3,rfl,rfl⟩
      rcases HP.o with⟨hf,-,E,Xa⟩|⟨hf,-,E,Xa⟩
      ·refine Xx s.st true (ϑ Ω) ⟨?_,?_⟩
       ·rw[Z.o.1,Z.o.2]at E;exact E
       ·rw[Z.o.1,Z.o.2]at Xa;exact Xa
      ·refine Xx (s.st++[a]) s.lost (μ hf) ⟨?_,?_⟩
       ·rw[Z.o.1,Z.o.2]at E;exact E
       ·rw[Z.o.1,Z.o.2]at Xa;exact Xa
    ·obtain⟨y,hy⟩:∃y,y=C5 s.L c.n a z:=⟨_,rfl⟩;have d2:(y==0)=false:=by rw[hy];simpa using hA
     have Xw:=ι hA;have HY:=ι hy;clear h hi ha hp h0 hR hs Xb Xf Xk Xg hE Xh Xj hh Xv ho hz hA hy Y;rcases Xo with rfl|⟨rfl,d3⟩
     all_goals
      go_enter func126,ntmps126
      go_wp2_with(first
       | (go_at_call 168;refine D.mono ?_;rintro e w1 ⟨rfl,rfl⟩)
       | (go_at_call 104;refine(V _ (Gr.refl _)).mono ?_;rintro e w1 ⟨rfl,O⟩;have J:=ι (O.alloc (.cells #[.int .i64 p,.int .i64 f,.int .i64 k] 72));clear O)
       | (go_at_call 176;(with_reducible refine(VS Xy.o).mono ?_);rintro e w2 ⟨rfl,rfl⟩)
       | (go_at_call 176;(with_reducible refine(QK _ _).mono ?_);rintro e w2 ⟨rfl,rfl⟩)
       | (go_at_call 69;refine(Xe _).mono ?_;rintro e w3 ⟨rfl,B⟩;have U:=ι (J.o.trans B);have Yc:=(H.gr (J.o.trans B)).row.cell (j:=1) rfl;clear B)
       | (go_at_call 177;refine(Xl.o _ U.o).mono ?_;rintro e w4 ⟨rfl,I,Xd⟩;rw[<-HY.o];have Xp:=ι ((U.o.touch (c.T G)).trans (I.mono (λi _ hi=>.inr (.inl hi))));have Xy:=ι (Yd.o _ _ U.o I (by rw[show CX s.L c.n a z=s.L from ϑ Xw.o]at Xd;exact Xd));clear I Xd))
      exact⟨rfl,CM.no Xp.o (Xy.o.up H.bB) (HI.mkd.fail HR Yh (by rw[<-HZ.o];exact Xw.o))⟩
   ·have HE:=hE;obtain⟨y,hy⟩:∃y,y=v.rdE a:=⟨_,rfl⟩;have d2:(y==0)=false:=by rw[hy];simpa using hE
    rw[<-hy]at V;unfold AJ at V;clear h hi ha hp h0 hR hs Xb Xf Xk Xg hE hy Xh Xj;rcases Xo with rfl|⟨rfl,d3⟩
    all_goals
     go_enter func126,ntmps126
     go_wp2_with(first
      | (go_at_call 168;refine D.mono ?_;rintro e w1 ⟨rfl,rfl⟩)
      | (go_at_call 104;refine(V _ (Gr.refl _)).mono ?_;rintro e w1 ⟨rfl,O⟩;have J:=ι O;clear O)
      | (go_at_call 176;refine(VS (H.gr (J.o.alloc _))).mono ?_;rintro e w2 ⟨rfl,rfl⟩))
     exact⟨rfl,CM.no ((J.o.alloc _).touch _) ((H.gr (J.o.alloc _)).up H.bB) (ZFY HR HE)⟩
def Yr9(s:MkS)(v:Vm)(rs:List Int)(c:MkC)(X:Int->Prop)(a r:Int)(s':MkS)(r' _vi':Int):Prop:=B8 v rs c.n c.R X s'/\DG s s'/\Cl v s'.L a/\r'=r
theorem ZUP(h:A1 w SV G SW c v s r vi)(hp:∀a,Rch v rs a->c.z.Rd v a)(hi:B8 v rs c.n c.R X s)(ha:Hs s.L a):Calls prog 131 #[pP c.k,iI a] w (CM w SV G SW c v (Yr9 s v rs c X a r) (¬CE v rs c.n)):=by
 have H:=h;have HI:=hi;obtain⟨hR,hE⟩:=hi.mkd.hs ha;obtain⟨-,-,p,f,k,hh,hsm⟩:=FT hE;have HR:=(θ hR (θ hE hh));have Xb:=(hp a hR);have B:=(λW (g:Gr w W)=>(MQ h.zk.1 (h.zk.1.gr h.vm g) a (hp a hR).1).mono λ_ _ hh=>θ hh.1 (hh.2.ro h.zk.2));have HP:=hp;rw[hE,hh]at B;unfold Sp.v AJ at B;have c0:=h.row.cc 0;unfold Sp.v at c0;have HN:=(Rec.new w 72 [iI p,iI f,iI k]);clear h hi ha hp hR hE hh;go_enter func131,ntmps131
 go_wp2_with(first
  | (go_at_call 104;refine(B _ (Gr.refl _)).mono ?_;rintro e w1 ⟨rfl,Xh⟩;have Xc:=(Xh.alloc (.cells #[.int .i64 p,.int .i64 f,.int .i64 k] 72));clear Xh)
  | (go_at_call 176;(with_reducible refine(QK _ _).mono ?_);rintro e w2 ⟨rfl,rfl⟩))
 go_loopw [24] (λs24 wr=>∃(j:Nat) (s':MkS) (r' vi':Int),j<=p/\Hid (A1 wr SV (plus G w) SW c v s' r' vi')/\Hid (AB (c.T G) w wr)/\Hid (B8 v rs c.n c.R X s'/\DG s s'/\ClN v s'.L a j/\r'=r)/\s24=iI j) (λs24 _=>p-(intOf s24).toNat)
 case atStart=>exact⟨0,s,r,vi,by omega,⟨(H.gr Xc).up H.bB⟩,⟨Xc.touch _⟩,⟨HI,DG.refl _,λi hi=>by omega,rfl⟩,rfl⟩
 case round=>
  obtain⟨j,s',r',vi',hj,HM,HT,HJ,rfl⟩:=hrel;have k0:=HM.o.row.cc 0;have k7:=HM.o.row.cc 7;have kf:=HM.o.row.free 7;unfold Sp.v at k0;clear c0;by_cases Y:j=p
  ·subst Y;go_wp2;refine ζy (ζl rfl _ _ _) rfl ?_;obtain⟨q1,q2,q3,q4⟩:=HJ.o;exact CM.ok (HT.o.trans (N9 7 _)) (HM.o.set (r':=r') (vi':=wrap64 (vi' + 1)) rfl) ⟨q1,q2,q3.cl (by rw[HR.2.2];exact ψs _),q4⟩
  ·have Xa:(j:Int)<(p:Int):=Ω
   have J:=((WS HM.o.zk.1 HM.o.vm a (j:Int) Xb.1 (Xb.2 _)).mono λ_ _ hh=>θ hh.1 (hh.2.ro HM.o.zk.2));unfold Sp.v at J;have Xe:Hid (v.ptE a j=0->((v.ptV a j:Nat):Int)≠0->Rch v rs (v.ptV a j:Nat)):=⟨λh1 h2=>HR.1.step ⟨HR.2.1,j,by rw[HR.2.2];exact Xa,h1,by omega,rfl⟩⟩;have Xd:=(θ hj Y);clear hj Y;by_cases U:v.ptE a j=0
   ·have I:=U;rw[U]at J;obtain⟨x,hx⟩:∃x,x=v.ptV a j:=⟨_,rfl⟩;rw[<-hx]at J Xe;have Xl:=ι hx;clear U hx
    go_wp2_with(first
     | (go_at_call 57;refine J.mono ?_;rintro e w2 ⟨rfl,Z⟩;have V:=ι (HM.o.gr Z);have O:=ι (HT.o.trans (Z.touch _));clear Z)
     | (go_at_call 176;(with_reducible refine(QK _ _).mono ?_);rintro e w3 ⟨rfl,rfl⟩)
     | (go_at_call 126;refine(VVL V.o HP HJ.o.1 (Xe.o I)).mono ?_;rintro e w4 ⟨Xi,(⟨rfl,s4,r4,Xj,E,D⟩|⟨rfl,D,s4,r4,Xj,E⟩)⟩ <;> (have Xg:=ι (IF O.o Xi);have Xk:=ι (E.back O.o.size H.sep H.bB);have Xf:=ι D;clear Xi E D)))
    ·go_round
     case rel=>
      obtain⟨q1,q2,q3,q4⟩:=HJ.o;obtain⟨p1,p2,p3,p4,p5⟩:=Xf.o;refine⟨j+1,s4,r4,Xj,by have:=Xd;omega,Xk,Xg,⟨p1,q2.trans p2,(q3.mono p2.sub).succ I (λh0=>?_),p4.trans q4⟩,by go_num⟩;rw[<-Xl.o]at h0⊢;exact p3 Ω
     case measure=>have:=Xd;simp[intOf];omega
    ·exact⟨rfl,CM.no Xg.o Xk.o Xf.o⟩
   ·have I:=U;obtain⟨y,hy⟩:∃y,y=v.ptE a j:=⟨_,rfl⟩;have d2:(y==0)=false:=by rw[hy];simpa using U
    rw[<-hy]at J;clear U hy
    go_wp2_with(first
     | (go_at_call 57;refine J.mono ?_;rintro e w2 ⟨rfl,Z⟩;have V:=ι (HM.o.gr Z);have O:=ι (HT.o.trans (Z.touch _));clear Z)
     | (go_at_call 176;(with_reducible refine(VS V.o).mono ?_);rintro e w3 ⟨rfl,rfl⟩))
    exact⟨rfl,CM.no O.o V.o (J7J HR.1 (by rw[HR.2.2];exact Xa) I)⟩
section
attribute [local go_sem] Oper.semAt_some
def J2(L:List Ob)(j:Nat):List Value:=zs ((L.take j).map λo=>(o.1:Int))
theorem QZB(h:j<L.length):J2 L (j+1)=J2 L j++[iI (L[j].1:Nat)]:=by
 unfold J2 zs
 grind [ζW]
theorem ZF{b b' E size:Nat}{v:Value}{xs:List Value}(h:w.ownsRow b E size v n xs)(hb:b'<=b):w.ownsRow b' E size v n xs:=by
 obtain⟨h1,h2⟩:=h;refine⟨h1,h2.imp id ?_⟩;rintro⟨g,Y,Z,e1,e2,e3⟩;exact⟨g,Y,Z,e1,γ hb e2,e3⟩
structure StI(W0:World)(B:Nat)(L:List Ob)(j:Nat)(A:World):Prop where
 t:AB (λi=>i=B\/W0.heap.size<=i) W0 A
 jl:j<=L.length
 f0:A.frozen? ⟨B,0,none⟩=false
 row:∃vL,A.cell? ⟨B,0,none⟩=some vL/\A.ownsRow (W0.heap.size+6) 3 1 vL j (J2 L j)
def JLP(w:World)(L:List Ob)(e:Ending)(w':World):Prop:=∃vL,e=.returned vL/\Gr w w'/\w'.ownsRow w.heap.size 3 1 vL L.length (J2 L L.length)
theorem Yde{p1 b1 p2 b2:Nat}(hE:Ext w m p1 b1 p2 b2 n L)(hT:AP w)(c1:w.cell? ⟨k,1,none⟩=some (pP m)):
  Calls prog 130 #[pP k] w (JLP w L):=by
 have HE:=hE;have HT:=hT;have hkl:=AT c1;refine(τ (n:=5)).1 ?_;refine callsIn_of_wp_marks func130 rfl trivial ?_ rfl;simp only[ntmps130,ζS,ζA,ζ6,Nat.reduceAdd,Nat.reduceSub,ζJ,ζI,ζX,ζO,ζV,ζr];gi_wp2_with(refine⟨trivial,?_⟩;gi_at_call 144;refine(τ.2 (JQ (some ⟨m,0,none⟩))).mono ?_;rintro e w1 ⟨rfl,rfl⟩);obtain⟨W2,O⟩:∃W2,W2=w.alloc (.cells #[.slice none 0 0] 61):=⟨_,rfl⟩;have Xi:Boxed W2 w.heap.size 61 (.slice none 0 0):=by rw[O];exact Boxed.new w _ _
 have Xo:Gr w W2:=by rw[O];exact(Gr.refl w).alloc _
 have Xp:W2.heap.size=w.heap.size+1:=by rw[O];simp
 rw[<-O];obtain⟨W0,V⟩:∃W0,W0=W2.alloc (.cells #[.pointer (some ⟨m,0,none⟩)] 93):=⟨_,rfl⟩;have Xa:Gr w W0:=by rw[V];exact Xo.alloc _
 have hsz:W0.heap.size=w.heap.size+2:=by rw[V];simp;omega
 have k1:Boxed W0 w.heap.size 61 (.slice none 0 0):=by rw[V];exact Xi.alloc _
 have k4:W0.cell? ⟨w.heap.size+1,0,none⟩=some (pP m):=by
  rw[V];have:=(Boxed.new W2 93 (pP m)).cell
  rwa [Xp]at this
 rw[<-V];have Y:=HE;have o1:=Y.hm;have o2:=Y.v1.hp;have o3:=Y.v1.hb;have o4:=Y.v2.hp;have o5:=Y.v2.hb;have o6:=HT.lt;have hnb:=Y.nb;have E:=Y.good;have hlen:=E.len;obtain⟨ii,Xq,Xr,Xh,Xn⟩:=info_parts OP
 have tI:∀j A B,StI W0 w.heap.size L j A->AB (λi=>W0.heap.size<=i/\i<W0.heap.size+2+4) A B->StI W0 w.heap.size L j B:=λj A B h t=>by
  have ht:=h.t.size;obtain⟨vL,hc,ho⟩:=h.row;exact⟨h.t.trans (t.mono (λi _ h=>.inr h.1)),h.jl,(t.frozen Ω (by show ¬(W0.heap.size<=w.heap.size/\_);omega) 0).trans h.f0,vL,(t.cell Ω (by show ¬(W0.heap.size<=w.heap.size/\_);omega) 0).trans hc,BX ho t (λg hg h=>by have:=(BF ho hg).1;omega)⟩
 refine LB (K:=4) (s0:=0) rfl Ω (gf:=187) (lb:=#[pP (w.heap.size+1)]) rfl trivial (enters_of func187 (by kernel_rfl) rfl)
  (N8 _ (w.heap.size+1) m p1 b1 p2 b2 n L _) (λ_=>rfl)
  (StI W0 w.heap.size L) (λ_ _=>False) tI (λ_ _ _ h _=>h)
  (λj A h=>⟨(HE.gr Xa).touch h.t Ω Ω Ω Ω Ω,(Xa.tab o6 HT).touch' h.t Ω,(h.t.cell Ω Ω 0).trans k4,h.jl⟩)
  ⟨AB.refl _ _,ζh _,k1.frozen,_,k1.cell,GX _ _ _ _⟩ ?round ?done ?stop
 case round=>
  intro lp j x W3 hsz3 J Z;dsimp only[GE];gi_wp2;refine⟨Gr.refl _,λW4 ht4 hI4=>?_⟩
  have I:j<L.length:=by
   rcases χ j L.length with h|h
   ·exact h
   ·unfold EI at Z;rw[ζF h]at Z;cases Z
  obtain rfl:x=L[j]:=by unfold EI at Z;rw[ζa I]at Z;exact(Option.some.inj Z).symm
  have Xb:=QZB I;obtain⟨y,hy⟩:∃y,y=L[j].1:=⟨_,rfl⟩;rw[<-hy]at Xb⊢;obtain⟨vL,hc,ho⟩:=hI4.row;have Xl:=hI4.f0;have hsz4:W0.heap.size+6<=W4.heap.size:=by have:=ht4.size;omega
  have Xf:=hI4;have HO:=ho;have Xe:=Xb;clear J hI4 Xb hy ho Z ht4;gi_wp2_with(gi_at_builtin;refine wpListIn_append_own _ rfl _ _ 61 rfl (W0.heap.size+6) 3 ii _ 1 8 underlying61 Xq Xr Xh Xn rfl (by decide) _ _ _ rfl (HO.alloc _) ⟨W4.heap.size,0,none⟩ 1 1 [iI (y:Nat)] rfl rfl (cell_one_new _ _ _) (by simp[Value.oneCell']) (by unfold maxLen;omega) Ω (by simp;omega) ?_;intro v' w5 U Xc _;obtain⟨A5,c5,rfl,-,-⟩:=FA U;have t5:AB (λi=>W0.heap.size+6<=i) W4 w5:=((((Gr.refl W4).alloc _).touch _)).trans (E4 Xc _ (λi e _=>(BF HO e).1));have Xk:=(t5.cell (b:=w.heap.size) Ω Ω 0).trans hc;have Xm:=(t5.frozen (b:=w.heap.size) Ω Ω 0).trans Xl;have Xd:=U;have Xj:=t5);have tt:AB (λi=>i=w.heap.size\/W0.heap.size+6<=i) W4 (w5.setCell ⟨w.heap.size,0,none⟩ (.slice A5 (j+1) c5)):=(Xj.mono (λi _ h=>.inr h)).setCell (a:=⟨w.heap.size,0,none⟩) (λ_=>.inl rfl) _;refine⟨tt.mono (λi _ h=>by omega),j+1,rfl,⟨Xf.t.trans (tt.mono (λi _ h=>h.imp id (λh=>by omega))),I,by rw[ξa];exact Xm,_,World.cell?_setCell_same' w5 ⟨w.heap.size,0,none⟩ _ (by rw[Xk];rfl),?_⟩⟩;rw[Xe];exact AV Xd _ (λg hg=>by have:=(BF Xd hg).1;omega)
 case done=>
  rintro D j W3 hD rfl J hK;obtain⟨vL,hc,ho⟩:=J.row;have HO:=ho;have HK:=hK;have HD:=hD;have Xg:=J;have hs3:=J.t.size;gi_wp2;refine⟨by simp,.inl ⟨_,_,rfl,run_takeDeferred HK,?_⟩⟩;refine⟨_,results_tmp rfl _ _ _,vL,rfl,(((Xa.touch (λ_=>False)).trans' Xg.t (λi hi h=>by omega)).trans' (DP W3 D _) (λi hi h=>by have:=HD;omega)).gr,?_⟩;exact ZF (BX HO (DP W3 D _) (λg hg h=>by have:=(BF HO hg).1;have:=HD;omega)) Ω
 simp_all
end
def LV(s:MkS)(r vi:Int):Prop:=s.L=[]->r=1/\vi=0
theorem A1.popped{st:List Int}{lost:Bool}(h:A1 w SV G SW c v ⟨L,st,lost⟩ r vi)(t:AB G w w')(s':BY w' G c.g st' c.R lost'):A1 w' SV G SW c v ⟨L,st',lost'⟩ r vi:=by
 have hs:=h.sep;have Y:¬G c.k:=hs.k2;exact⟨MkC.vm h.zk.1 hs h.vm t (λi e=>.inr (.inr e)),h.ext.touch t (hs.mg _ (.inl rfl)) (λe=>hs.p1 (.inr (.inr e))) (hs.mg _ (.inr (.inl rfl))) (λe=>hs.p2 (.inr (.inr e))) (hs.mg _ (.inr (.inr rfl))),s',h.wk.touch t (λi hi _ e=>hs.sw i hi (.inr (.inr e))),h.row.touch t Y,t.tab h.tab.lt (λe=>hs.tab (.inr (.inr e))) h.tab,hs,γ h.bB t.size,h.zk⟩
def RL(st st':List Int)(a:Int)(b:Bool):Prop:=(b=true/\st=st'++[a])\/(b=false/\st=[]/\st'=[])
def VSm(w:World)(SV G SW:Nat->Prop)(c:MkC)(v:Vm)(s:MkS)(r vi:Int)(e:Ending)(w':World):Prop:=∃a b st',e=.returned (.tuple #[iI a,.bool b])/\AB (c.T G) w w'/\A1 w' SV G SW c v ⟨s.L,st',s.lost⟩ r vi/\RL s.st st' a b
theorem Z7(h:A1 w SV G SW c v s r vi):Calls prog 179 #[pP c.g] w (VSm w SV G SW c v s r vi):=by
 refine(ZtN h.stk).mono ?_;rintro e w' (⟨h0,rfl,rfl⟩|⟨l',a,h0,rfl,ht,hs⟩)
 ·refine⟨0,false,[],rfl,AB.refl _ _,?_,.inr ⟨rfl,h0,rfl⟩⟩;rw[<-h0];exact h
 ·exact⟨a,true,l',rfl,ht.mono (λi _ hi=>.inr (.inr hi)),A1.popped (L:=s.L) (st:=s.st) (lost:=s.lost) h ht hs,.inl ⟨rfl,h0⟩⟩
def DrS(v:Vm)(rs:List Int)(c:MkC)(X:Int->Prop)(s:MkS)(a:Int)(b:Bool)(k:Nat):Prop:=
 ((b=false/\s.st=[]/\B8 v rs c.n c.R X s)\/(b=true/\Hs s.L a/\B8 v rs c.n c.R (λx=>X x\/x=a) s))/\2*c.n+s.st.length+(if b then 1 else 0)<=2*s.L.length+k
theorem DrS.of(h:B8 v rs c.n c.R X s)(hp:RL s.st st' a b)(hk:2*c.n+s.st.length<=2*s.L.length+k):DrS v rs c X ⟨s.L,st',s.lost⟩ a b k:=by
 rcases hp with⟨rfl,h1⟩|⟨rfl,h1,rfl⟩
 ·have h':B8 v rs c.n c.R X ⟨s.L,st'++[a],s.lost⟩:=by rw[<-h1];exact h
  refine⟨.inr ⟨rfl,h'.pop.2,h'.pop.1⟩,?_⟩
  grind
 ·refine⟨.inl ⟨rfl,rfl,by rw[<-h1];exact h⟩,?_⟩
  simp_all
def VA5(s:MkS)(v:Vm)(rs:List Int)(c:MkC)(X:Int->Prop)(r vi:Int)(s':MkS)(r' vi':Int):Prop:=B8 v rs c.n c.R X s'/\DG s s'/\s'.st=[]/\(LV s r vi->LV s' r' vi')
theorem XU{t:MkS}(h:DG s t)(hp:RL t.st st' a b):DG s ⟨t.L,st',t.lost⟩:=by
 refine⟨h.sub,h.len,h.los,?_⟩;have:=h.mea;rcases hp with⟨-,h1⟩|⟨-,h1,rfl⟩
 ·grind
 simp_all
theorem YW(h:Hs L a):L≠[]:=by
 rintro rfl;obtain⟨o,ho,-⟩:=h;cases ho
theorem ZV(h:A1 w SV G SW c v s r vi)(hp:∀a,Rch v rs a->c.z.Rd v a)(hi:B8 v rs c.n c.R X s):Calls prog 127 #[pP c.k] w (CM w SV G SW c v (VA5 s v rs c X r vi) (¬CE v rs c.n)):=by
 have H:=h;have HI:=hi;have c2:=h.row.cc 2;have HP:=hp;go_enter func127,ntmps127;go_wp2_with(go_at_call 179;refine(Z7 H).mono ?_;rintro e w1 ⟨a0,b0,st0,rfl,Xj,Xf,Xi⟩;have Xc:=ι Xj;have Xe:=ι (Xf.up (w:=w) H.bB);have U:=Xi)
 go_loopg [2,3] (2*c.n+s.st.length) (λk s2 s3 wr=>∃(a:Int) (b:Bool) (s':MkS) (r' Z:Int),s2=iI a/\s3=.bool b/\Hid (A1 wr SV (plus G w) SW c v s' r' Z)/\Hid (AB (c.T G) w wr)/\Hid (DG s s'/\(LV s r vi->LV s' r' Z)/\DrS v rs c X s' a b k))
 case atStart=>
  refine⟨a0,b0,_,r,vi,rfl,rfl,Xe,Xc,⟨XU (DG.refl _) U,λh=>h,DrS.of HI U Ω⟩⟩
 case round=>
  obtain⟨a,b,s',r',Z,rfl,rfl,HM,HT,HJ⟩:=hrel;have k2:=HM.o.row.cc 2;cases b with
  | false=>
   go_wp2;refine ζy (ζl rfl _ _ _) rfl ?_;obtain⟨q1,q2,q3,-⟩:=HJ.o;rcases q3 with⟨-,h1,h2⟩|⟨h1,-⟩
   ·exact CM.ok HT.o HM.o ⟨h2,q1,h1,q2⟩
   ·cases h1
  | true=>
   have HA:Hid (Hs s'.L a/\B8 v rs c.n c.R (λx=>X x\/x=a) s'/\2*c.n+s'.st.length+1<=2*s'.L.length+gk):=⟨by
    obtain⟨q1,q2,q3,q4⟩:=HJ.o;rcases q3 with⟨h1,-⟩|⟨-,h1,h2⟩
    ·cases h1
    ·exact⟨h1,h2,q4⟩⟩
   go_wp2_with(first
    | (go_at_call 131;refine(ZUP HM.o HP HA.o.2.1 HA.o.1).mono ?_;rintro e w4 ⟨E,(⟨rfl,s4,r4,D,Y,J⟩|⟨rfl,J,s4,r4,D,Y⟩)⟩ <;> (have O:=(IF HT.o E);have B:=(Y.back HT.o.size H.sep H.bB);have V:=ι J;have k4:=Y.row.cc 2;clear E Y J))
    | (go_at_call 179;refine(Z7 B).mono ?_;rintro e w5 ⟨a5,b5,st5,rfl,Xa,Xh,Xb⟩;have Xd:=ι (IF O Xa);have Xg:=ι Xh;have I:=Xb))
   ·have hgk:1<=gk:=by
     have:=HA.o.2.2;have:=HA.o.2.1.mkd.good.len;omega
    go_roundg (gk-1)
    case measure=>omega
    case rel=>
     obtain⟨q1,q2,-⟩:=HJ.o;obtain⟨p1,p2,p3,p4⟩:=V.o;have hme:=HA.o.2.2;have Y:=p2.mea;refine⟨a5,b5,_,r4,D,rfl,rfl,Xg,Xd,⟨XU (q1.trans p2) I,λ_ h0=>absurd h0 (YW (p2.sub a HA.o.1)),DrS.of (p1.done p3 (λx hx=>hx)) I Ω⟩⟩
   ·exact⟨rfl,CM.no O B V.o⟩
theorem A1.cut(h:A1 w SV G SW c v s r vi):A1 w SV (AE G w) SW c v s r vi:=by
 have hs:=h.sep;have Y:∀i,i<c.B/\¬c.T G i->i<c.B/\¬c.T (AE G w) i:=λi hi=>⟨hi.1,λht=>hi.2 (ht.imp id (λh=>h.imp id (λh=>h.1)))⟩
 exact⟨h.vm,h.ext,h.stk.cut,h.wk,h.row,h.tab,⟨λi hi=>Y i (hs.sv' i hi),λi hi=>Y i (hs.sw' i hi),Y _ hs.tab',Y _ hs.p1',Y _ hs.p2',hs.k1,λh=>hs.k2 h.1,hs.kB,λi hi h=>hs.mg i hi h.1,hs.mB,λi hi=>Y i (hs.sd' i hi)⟩,h.bB,h.zk⟩
def JZ(L:List Ob)(j:Nat)(a:Int):Prop:=∃o∈L.drop j,(o.1:Int)=a
theorem JmM(h:Hs L a):JZ L 0 a:=h
theorem J6E(h:j<L.length)(ha:JZ L j a):JZ L (j+1) a\/a=(L[j].1:Int):=by
 obtain⟨o,ho,rfl⟩:=ha;rw[ξB h]at ho;rcases ζC.1 ho with rfl|ho
 ·omega
 ·exact .inl ⟨o,ho,rfl⟩
theorem Jdx(a:Int):¬JZ L L.length a:=by
 rintro⟨o,ho,-⟩
 simp_all
theorem B8.found(h:B8 v rs n R X s):B8 v rs n R (JZ s.L 0) ⟨s.L,s.st,false⟩:=⟨h.mkd,h.st,h.r,λ_ ha=>.inr (.inr (.inr (JmM ha)))⟩
def s0:MkS:=⟨[],[],false⟩
def SK(v:Vm)(rs:List Int)(c:MkC)(j:Nat)(s:MkS)(r vi:Int):Prop:=B8 v rs c.n c.R (λ_=>False) s/\s.st=[]/\(∀x∈rs.take j,x≠0->Hs s.L x)/\LV s r vi/\(s.lost=true->s.L≠[])
def ND(v:Vm)(rs:List Int)(c:MkC)(s:MkS)(r vi:Int):Prop:=BD v rs c.n s.L/\LV s r vi
theorem YXl(h:A1 w SV G SW c v s0 0 0)(hp:∀a,Rch v rs a->c.z.Rd v a)(hA:E8 (c.T G) w A rs)(hlen:rs.length<=maxLen):
  Calls prog 89 #[pP c.k,.slice A rs.length cp] w (CM w SV G SW c v (ND v rs c) (¬CE v rs c.n)):=by
 have H:=h;have HA:=hA;have HP:=hp;have c6:=h.row.cc 6;have kf:=h.row.free 6;obtain⟨N,hN⟩:∃N,N=rs.length:=⟨_,rfl⟩;rw[<-hN]at hlen⊢;have HN:=ι hN;unfold maxLen at hlen;clear h hA hN hp;go_enter func89,ntmps89;go_wp2;have Yf:Hid (A1 (w.setCell ⟨c.k,6,none⟩ (.int .i64 1)) SV (plus G w) SW c v s0 1 0):=⟨(H.set (r':=1) (vi':=0) rfl).up H.bB⟩;have Yc:Hid (AB (c.T G) w (w.setCell ⟨c.k,6,none⟩ (.int .i64 1))):=⟨N9 6 _⟩;obtain⟨w1,Yp⟩:∃w1,w1=w.setCell ⟨c.k,6,none⟩ (.int .i64 1):=⟨_,rfl⟩;rw[<-Yp]at Yf Yc⊢;clear c6 kf Yp
 go_loopw [14] (λs14 wr=>∃(j:Nat) (s:MkS) (r vi:Int),j<=N/\Hid (A1 wr SV (plus G w) SW c v s r vi)/\Hid (AB (c.T G) w wr)/\Hid (SK v rs c j s r vi)/\s14=iI j) (λs14 _=>N-(intOf s14).toNat)
 case atStart=>exact⟨0,s0,1,0,ζh _,Yf,Yc,⟨⟨Mk.nil _ _ _,(λ_ h=>by cases h),ζh _,(λa ha=>absurd rfl (YW ha))⟩,rfl,(λx hx=>by cases hx),(λ_=>⟨rfl,rfl⟩),(λh=>by cases h)⟩,rfl⟩
 case round=>
  obtain⟨j,s,r,vi,hj,HM,HT,HJ,rfl⟩:=hrel;by_cases Z:j=N
  ·subst Z;have Yk:Hid (SK v rs c rs.length s r vi):=⟨by have:=HJ.o;rwa [HN.o]at this⟩;clear HJ hj;go_wp2
   go_loopg [] (c.n+1) (λk wr=>∃(s:MkS) (r vi:Int),Hid (A1 wr SV (plus G w) SW c v s r vi)/\Hid (AB (c.T G) w wr)/\Hid (SK v rs c rs.length s r vi)/\Hid (s.lost=true->c.n+1<=s.L.length+k))
   case atStart=>exact⟨s,r,vi,HM,HT,Yk,⟨λ_=>by omega⟩⟩
   case round=>
    clear HM HT Yk;clear s r vi;obtain⟨wo,rfl⟩:∃wo:World,wo=wr:=⟨_,rfl⟩;obtain⟨s,r,vi,HM,HT,HJ,HK⟩:=hrel;have k2:=HM.o.row.cc 2;obtain⟨L,st,lost⟩:=s;have Yo:=(XPh HM.o.stk);cases lost with
    | false=>
     go_wp2_with(go_at_call 128;refine Yo.mono ?_;rintro e w2 ⟨rfl,rfl⟩);refine ζy (ζl rfl _ _ _) rfl ?_;obtain⟨q1,q2,q3,q4,q5⟩:=HJ.o;exact CM.ok HT.o HM.o ⟨q1.marks (λ_ h=>h) q2 rfl (λx hx h0=>q3 x (by rw[ζ7];exact hx) h0),q4⟩
    | true=>
     have Ys:st=[]:=HJ.o.2.1;subst Ys;have Xw:=HM.o.cut;obtain⟨G1,Xr⟩:∃G1,G1=AE (plus G w) wo:=⟨_,rfl⟩;rw[<-Xr]at Xw;have Xi:Hid (∀i,G1 i->plus G w i/\i<wo.heap.size):=⟨λi hi=>by rw[Xr]at hi;exact hi⟩;have Za:=HJ.o.2.2.2.2 rfl;have Yq:=HJ.o.1.mkd.good;have Yt:L.length<=1048576:=γ Yq.len HM.o.ext.nb.2;obtain⟨LN,Xs⟩:∃LN,LN=L.length:=⟨_,rfl⟩;have Xb:=ι Xs;rw[<-Xs]at Yt;clear Xr Yq Xs
     go_wp2_with(first
      | (go_at_call 128;refine Yo.mono ?_;rintro e w2 ⟨rfl,rfl⟩)
      | (go_at_call 129;refine(Qf8 Xw.stk).mono ?_;rintro e w2 ⟨rfl,Xu,Ym⟩;have Xm:=(A1.popped (L:=L) (st:=[]) (lost:=true) Xw Xu Ym);have k6:=Xm.row.cc 6;have k1:=Xm.row.cc 1;have kf:=Xm.row.free 6;have Yd:=Xu;clear Xu Ym)
      | (go_at_call 130;have Xp:=(λx:Int=>Xm.set (j:=6) (u:=iI x) (r':=x) (vi':=vi) rfl);refine(Yde (Xp _).ext (Xp _).tab ((Xp _).row.cell (j:=1) rfl)).mono ?_;rintro e w3 ⟨vL,rfl,Xv,Xx⟩;have Xj:=((Xp _).gr Xv);have Yb:=ι Xv;obtain⟨A3,Yn,rfl,Yz,h32⟩:=FA Xx;have Xq:=ι Xx;rw[<-Xb.o]at Xq;rw[<-Xb.o]at Yz;clear Xv Xx))
     have hz2:wo.heap.size<=w2.heap.size:=Yd.size;have hz3:w2.heap.size<=w3.heap.size:=by simpa using Yb.o.size
     have hzw:w.heap.size<=wo.heap.size:=HT.o.size;have hBw:c.B<=w.heap.size:=H.bB
     have Ya:Hid (∀g,(Value.slice A3 LN Yn).ownBlock=some g->¬c.T (plus G1 w3) g):=⟨λg hg ht=>by
      obtain⟨a1,a2⟩:=BF Xq.o hg;have a1:w2.heap.size<=g:=by simpa using a1
      rcases ht with h1|h1|h1|h1
      ·have:=H.sep.kB;omega
      ·have:=H.sep.mB g h1;omega
      ·have:=(Xi.o g h1).2;omega
      ·omega⟩
     have Yj:Hid (DC c SV G1 SW):=⟨Xj.sep⟩;have Yl:Hid (AB (c.T G1) wo w3):=⟨((Yd.mono (λi _ h=>.inr (.inr h))).trans (N9 6 _)).trans (Yb.o.touch _)⟩;clear k1 k2 k6 kf;rw[<-Xb.o]
     go_loopw [46] (λs46 wy=>∃(j:Nat) (s':MkS) (r' vi':Int),j<=LN/\Hid (A1 wy SV (plus G1 w3) SW c v s' r' vi')/\Hid (AB (c.T G1) w3 wy)/\Hid (wy.ownsRow 0 3 1 (.slice A3 LN Yn) LN (J2 L LN))/\Hid (B8 v rs c.n c.R (JZ L j) s'/\DG ⟨L,[],false⟩ s'/\s'.st=[])/\s46=iI j) (λs46 _=>LN-(intOf s46).toNat)
     case atStart=>
      exact⟨0,⟨L,[],false⟩,_,vi,ζh _,⟨Xj.up (w:=w3) Xj.bB⟩,⟨AB.refl _ _⟩,⟨ZF Xq.o (ζh _)⟩,⟨HJ.o.1.found,DG.refl _,rfl⟩,rfl⟩
     case round=>
      obtain⟨j,s',r',vi',hj,Yh,Xy,Xt,Xo,rfl⟩:=hrel;by_cases Z:j=LN
      ·subst Z;go_wp2
       have hgk:1<=gk:=by
        have:=HK.o (by simp);have h2:=HJ.o.1.mkd.good.len;have h2:L.length<=c.n:=h2;have h3:c.n+1<=L.length+gk:=this;omega
       go_roundg (gk-1)
       case measure=>omega
       case rel=>
        obtain⟨q1,q2,q3⟩:=Xo.o;have Xa:=q2.len;have Xa:L.length<=s'.L.length:=Xa;have Yx:AB (c.T (plus G w)) wo wr:=(Yl.o.trans Xy.o).mono (λi _ h=>h.imp id (λh=>h.imp id (λh=>(Xi.o i h).1)));have Ye:s'.L≠[]:=λe=>by have h1:=Xa;rw[e]at h1;exact Za (ζw (Nat.le_zero.1 h1))
        refine⟨s',r',vi',⟨Yh.o.sub (λi h=>h.elim (λh=>(Xi.o i h).1) (λh=>.inr Ω)) (H.sep.plus H.bB)⟩,⟨IF HT.o Yx⟩,⟨q1.weak (λa h=>absurd h (by rw[Xb.o];exact Jdx a)),q3,λx hx h0=>q2.sub _ (HJ.o.2.2.1 x hx h0),λh=>absurd h Ye,λ_=>Ye⟩,⟨λhl=>?_⟩⟩;have h5:=HK.o (by simp);have h5:c.n+1<=L.length+gk:=h5;rcases q2.los hl with h|h
        ·cases h
        ·have h:L.length<s'.L.length:=h;omega
      ·have J:j<L.length:=by have:=Xb.o;omega
       have Yu:(j:Int)<(LN:Int):=Ω
       obtain⟨g,cc',ea,-,-,-,-⟩:=ET Xt.o Ω;simp only[Value.slice.injEq]at ea;obtain⟨rfl,-,rfl⟩:=ea;obtain⟨a,ha⟩:∃a:Int,a=(L[j].1:Nat):=⟨_,rfl⟩;have kc:=BU Xt.o (j:=j) (u:=iI a) (by rw[ha];unfold J2 zs;rw[Xb.o,ζ7];simp[J]);have Yg:Hid (Hs L a/\a=(L[j].1:Nat)):=⟨⟨L[j],π J,ha.symm⟩,ha⟩;have Xd:=ι (θ hj (θ Z J));have Xn:Hid (∀(W:World) (t:MkS) (x y:Int),A1 W SV (plus G1 w3) SW c v t x y->AB (c.T G1) w3 W->A1 W SV (plus G w) SW c v t x y/\AB (c.T G) w W):=⟨λW t x y hm ht=>⟨hm.sub (λi h=>h.elim (λh=>(Xi.o i h).1) (λh=>.inr Ω)) (H.sep.plus H.bB),IF HT.o ((Yl.o.trans ht).mono (λi _ h=>h.imp id (λh=>h.imp id (λh=>(Xi.o i h).1))))⟩⟩;clear hj Z ha
       go_wp2_with(first
        | (go_at_call 131;refine(ZUP Yh.o HP Xo.o.1 (Xo.o.2.1.sub a Yg.o.1)).mono ?_;rintro e w4 ⟨Xg,(⟨rfl,s4,r4,Xz,O,E⟩|⟨rfl,E,s4,r4,Xz,O⟩)⟩ <;> (have Yv:=ι (BX Xt.o Xg Ya.o);have V:=ι (IF Xy.o Xg);have Xh:=ι (O.back Xy.o.size Yj.o Xj.bB);have U:=ι E;clear Xg O E))
        | (go_at_call 127;refine(ZV Xh.o HP (U.o.1.done U.o.2.2.1 (Y:=JZ L (j+1)) (λx hx=>by rw[Yg.o.2];exact J6E Xd.o.2.2 hx))).mono ?_;rintro e w5 ⟨Xc,(⟨rfl,s5,r5,Xl,D,I⟩|⟨rfl,I,s5,r5,Xl,D⟩)⟩ <;> (have Yy:=ι (BX Yv.o Xc Ya.o);have Xe:=ι (IF V.o Xc);have Xf:=ι (D.back V.o.size Yj.o Xj.bB);have Xk:=ι I;clear Xc D I)))
       ·go_round
        case rel=>
         obtain⟨p1,p2,p3,p4⟩:=U.o;obtain⟨t1,t2,t3,t4⟩:=Xk.o;refine⟨j+1,s5,r5,Xl,by have:=Xd.o;omega,Xf,Xe,Yy,⟨t1,(Xo.o.2.1.trans p2).trans t2,t3⟩,by go_num⟩
        case measure=>have:=Xd.o;simp[intOf];omega
       ·exact⟨rfl,CM.no (Xn.o _ _ _ _ Xf.o Xe.o).2 (Xn.o _ _ _ _ Xf.o Xe.o).1 Xk.o⟩
       ·exact⟨rfl,CM.no (Xn.o _ _ _ _ Xh.o V.o).2 (Xn.o _ _ _ _ Xh.o V.o).1 U.o⟩
  ·have Yu:(j:Int)<(N:Int):=Ω
   have J:j<rs.length:=by have:=HN.o;omega
   obtain⟨b,o,rfl,hb,Yi,e0⟩:=HA j J;have i0:=(HT.o.cell hb Yi (o+j)).trans e0;obtain⟨a,ha⟩:∃a,a=rs[j]:=⟨_,rfl⟩;rw[<-ha]at i0 e0;have Yr:Hid (a≠0->Rch v rs a):=⟨λh0=>Rch.root (by rw[ha];exact π J) h0⟩
   have Yw:Hid (∀x,x∈rs.take (j+1)->x∈rs.take j\/x=a):=⟨λx hx=>by
    rw[ζW J]at hx
    exact(ζg.1 hx).imp id (λh=>by rw[ha];exact ζM.1 h)⟩
   have Xd:=ι (θ hj Z);clear hj Z J ha e0 Yi
   go_wp2_with(first
    | (go_at_call 126;refine(VVL HM.o HP HJ.o.1 Yr.o).mono ?_;rintro e w4 ⟨Xg,(⟨rfl,s4,r4,Xz,O,E⟩|⟨rfl,E,s4,r4,Xz,O⟩)⟩ <;> (have V:=ι (IF HT.o Xg);have Xh:=ι (O.back HT.o.size H.sep H.bB);have U:=ι E;clear Xg O E))
    | (go_at_call 127;refine(ZV Xh.o HP U.o.1).mono ?_;rintro e w5 ⟨Xc,(⟨rfl,s5,r5,Xl,D,I⟩|⟨rfl,I,s5,r5,Xl,D⟩)⟩ <;> (have Xe:=ι (IF V.o Xc);have Xf:=ι (D.back V.o.size H.sep H.bB);have Xk:=ι I;clear Xc D I)))
   ·go_round
    case rel=>
     obtain⟨q1,q2,q3,q4,q5⟩:=HJ.o;obtain⟨p1,p2,p3,rfl,rfl⟩:=U.o;obtain⟨t1,t2,t3,t4⟩:=Xk.o;have Xa:=p2.trans t2;refine⟨j+1,s5,r5,Xl,by have:=Xd.o;omega,Xf,Xe,⟨t1,t3,λx hx h0=>?_,t4 (λh=>q4 ?_),λhl=>?_⟩,by go_num⟩
     ·rcases Yw.o x hx with h|rfl
      ·exact Xa.sub _ (q3 x h h0)
      ·exact t2.sub _ (p3 h0)
     ·have:=p2.len;rw[h]at this;exact ζw (by simpa using this)
     ·have h5:=Xa.len;rcases Xa.los hl with h|h
      ·exact λe=>q5 h (ζw (by rw[e]at h5;simpa using h5))
      ·intro e;rw[e]at h;simp at h
    case measure=>have:=Xd.o;simp[intOf];omega
   ·exact⟨rfl,CM.no Xe.o Xf.o Xk.o⟩
   ·exact⟨rfl,CM.no V.o Xh.o U.o⟩
theorem VUu(args:Array Value)(W:World):(callFunc 88 args).run prog W=.ok (.enter 88 args) W:=by kernel_rfl
def UY(z:Sp)(m g:Nat)(wk:Value)(L:List Ob)(r vi:Int):List Value:=[z.v,pP m,pP g,wk,iI (L.length:Nat),iI (sizes L:Nat),iI r,iI vi]
theorem QNt(hrow:Rec w c.k 161 (UY c.z c.m c.g (.pointer none) [] 0 0))(hp:∀a,Rch v rs a->c.z.Rd v a)(h:A1 (w.setCell ⟨c.k,3,none⟩ (.pointer (some ⟨c.wk,0,none⟩))) SV G SW c v s0 0 0)
  (c12:w.cell? ⟨b12,0,none⟩=some (pP c.k)) (c5:w.cell? ⟨b5,0,none⟩=some (.slice A rs.length cp)) (n12:b12≠c.k) (n5:b5≠c.k) (hA:E8 (c.T G) w A rs) (hlen:rs.length<=maxLen):
  Calls prog 88 #[pP c.wk,pP b12,pP b5] w (CM w SV G SW c v (ND v rs c) (¬CE v rs c.n)):=by
 have k3:=hrow.cc 3;have kf:=hrow.free 3;have V:(w.setCell ⟨c.k,3,none⟩ (.pointer (some ⟨c.wk,0,none⟩))).heap.size=w.heap.size:=World.size_setCell ..;have U:=hA.touch (N9 (w:=w) (c:=c) (G:=G) 3 (pP c.wk)) (λ_ _ h=>h);have Y:=(YXl (cp:=cp) h hp U hlen)
 have J:Hid (∀e w',CM (w.setCell ⟨c.k,3,none⟩ (.pointer (some ⟨c.wk,0,none⟩))) SV G SW c v (ND v rs c) (¬CE v rs c.n) e w'->CM w SV G SW c v (ND v rs c) (¬CE v rs c.n) e w'):=⟨λe w' he=>by
  obtain⟨ht,he⟩:=he;unfold plus at he;rw[V]at he
  exact⟨(N9 3 _).trans ht,he⟩⟩
 have tk:=(AB.refl (λi=>i=c.k) w).setCell (a:=⟨c.k,3,none⟩) (λ_=>rfl) (pP c.wk);have x5:=(tk.cell (AT c5) n5 0).trans c5;have x12:=(tk.cell (AT c12) n12 0).trans c12;go_enter func88,ntmps88;go_wp2_with(go_at_call 89;refine Y.mono ?_;intro e w1 he;have he:=J.o _ _ he;rcases he with⟨Z,(⟨rfl,h1⟩|⟨rfl,h1⟩)⟩)
 ·refine ζy (ζl rfl _ _ _) rfl ?_;exact⟨Z,.inl ⟨rfl,h1⟩⟩
 ·obtain⟨-,h2⟩:=h1;exact⟨rfl,Z,.inr ⟨rfl,trivial,h2⟩⟩
structure JD(w:World)(SV:Nat->Prop)(z:Sp)(k m p1 b1 p2 b2 n g:Nat)(v:Vm)(L:List Ob)(r vi:Int):Prop where
 zk:z.Ok
 vm:z.I v SV w
 ext:Ext w m p1 b1 p2 b2 n L
 tab:AP w
 row:∃wk,Rec w k 161 (UY z m g wk L r vi)
theorem JD.touch{p1 b1 p2 b2:Nat}(h:JD w SV z k m p1 b1 p2 b2 n g v L r vi)(t:AB S w w')(hv:∀i,SV i->¬S i)(hm:∀i,AS m b1 b2 i->¬S i)(h1:¬S p1)(h2:¬S p2)(ht:¬S 1)(hk:¬S k)(hd:∀i,z.D i->¬S i):JD w' SV z k m p1 b1 p2 b2 n g v L r vi:=
 ⟨h.zk,h.zk.fr h.vm t (λi _ hi=>⟨λh=>hv i h hi,λh=>hd i h hi⟩) (λ_ h=>h),h.ext.touch t (hm _ (.inl rfl)) h1 (hm _ (.inr (.inl rfl))) h2 (hm _ (.inr (.inr rfl))),t.tab h.tab.lt ht h.tab,by obtain⟨wk,hr⟩:=h.row;exact⟨wk,hr.touch t hk⟩⟩
def XT9(w:World)(SV SG:Nat->Prop)(z:Sp)(k m p1 b1 p2 b2 n g:Nat)(v:Vm)(rs:List Int)(e:Ending)(w':World):Prop:=
 AB (λi=>i=k\/AS m b1 b2 i\/SG i\/SV i) w w'/\∃x y L r vi,e=.returned (.agg #[iI x,iI y])/\JD w' SV z k m p1 b1 p2 b2 n g v L r vi ∧
  ((x=0/\BD v rs n L/\(L=[]->r=1/\vi=0))\/(x=25/\¬CE v rs n))
theorem Q3I{SG:Nat->Prop}{p1 b1 p2 b2:Nat}(hz:z.Ok/\¬z.M)(hfail:CE v rs n\/∃q,z=spM q)(hp:∀a,Rch v rs a->z.Rd v a)(hD:∀i,z.D i->i<w.heap.size/\¬(i=k\/AS m b1 b2 i\/SG i))(hV:z.I v SV w)(hE:Ext w m p1 b1 p2 b2 n [])(hS:BY w SG g [] R false)(hR:Rec w k 161 (UY z m g (.pointer none) [] 0 0))(hT:AP w)
  (c12:w.cell? ⟨b12,0,none⟩=some (pP k)) (c5:w.cell? ⟨b5,0,none⟩=some (.slice A rs.length cp)) (n12:b12≠k) (n5:b5≠k) (hA:E8 (λi=>i=k\/AS m b1 b2 i\/SG i) w A rs) (hlen:rs.length<=maxLen)
  (hSV:∀i,SV i->i<w.heap.size/\¬(i=k\/AS m b1 b2 i\/SG i)) (hSG:∀i,SG i->i<w.heap.size) (hp1:¬(p1=k\/AS m b1 b2 p1\/SG p1)) (hp2:¬(p2=k\/AS m b1 b2 p2\/SG p2)) (htb:¬(1=k\/AS m b1 b2 1\/SG 1))
  (hv1:¬SV p1) (hv2:¬SV p2) (hvt:¬SV 1) (hkm:¬AS m b1 b2 k) (hkg:¬SG k) (hmg:∀i,AS m b1 b2 i->¬SG i):
  Calls prog 87 #[z.v,.func (.func 88) #[] #[pP b12,pP b5]] w (XT9 w SV SG z k m p1 b1 p2 b2 n g v rs):=by
 have Xj:(AK w z.v).heap.size=w.heap.size+2:=by unfold AK;rw[β,β]
 obtain⟨q0,Xg⟩:∃q0,∀q,z=spM q->q0=q:=by
  by_cases h:∃q,z=spM q
  ·obtain⟨q,rfl⟩:=h;exact⟨q,λq' h=>by have:=congrArg Sp.rv h;simp[spM]at this;exact this⟩
  ·exact⟨0,λq h'=>absurd ⟨q,h'⟩ h⟩
 obtain⟨W0,V⟩:∃W0,W0=EO (AK w z.v) (w.heap.size+1):=⟨_,rfl⟩;have Xn:W0.heap.size=w.heap.size+5:=by rw[V];unfold EO;rw[β,β,β,Xj]
 have g1:Gr w (AK w z.v):=((Gr.refl w).alloc _).alloc _;have g2:Gr (AK w z.v) W0:=by rw[V];exact(((Gr.refl _).alloc _).alloc _).alloc _
 have g0:Gr w W0:=g1.trans g2;have Xf:=hR.lt
 have Z:∀i,AS m b1 b2 i->i<w.heap.size:=λi hi=>by
  rcases hi with rfl|rfl|rfl
  ·exact hE.hm
  ·exact hE.v1.hb
  ·exact hE.v2.hb
 have Xh:p1<w.heap.size:=hE.v1.hp;have Xm:p2<w.heap.size:=hE.v2.hp;have Xt:=hT.lt;obtain⟨c,hc⟩:∃c:MkC,c=⟨k,z,m,p1,b1,p2,b2,n,g,R,w.heap.size+1,w.heap.size+5⟩:=⟨_,rfl⟩
 have Xb:∀i,c.T SG i->i<w.heap.size:=λi hi=>by
  rw[hc]at hi;rcases hi with rfl|hi|hi
  ·exact Xf
  ·exact Z i hi
  ·exact hSG i hi
 have E:DC c SV SG (λi=>i=w.heap.size+1):=by
  have O:=Xb;rw[hc]at O⊢;exact⟨λi hi=>⟨by have:=(hSV i hi).1;show i<w.heap.size+5;omega,(hSV i hi).2⟩,λi hi=>⟨by show i<w.heap.size+5;omega,λh=>by have:=O i h;omega⟩,⟨by show _<w.heap.size+5;omega,htb⟩,⟨by show p1<w.heap.size+5;omega,hp1⟩,⟨by show p2<w.heap.size+5;omega,hp2⟩,hkm,hkg,by show k<w.heap.size+5;omega,hmg,λi hi=>by have:=Z i hi;show i<w.heap.size+5;omega,λi hi=>⟨by have:=(hD i hi).1;show i<w.heap.size+5;omega,(hD i hi).2⟩⟩
 have Xu:A1 (W0.setCell ⟨c.k,3,none⟩ (.pointer (some ⟨c.wk,0,none⟩))) SV SG (λi=>i=w.heap.size+1) c v s0 0 0:=by
  have tk:AB (λi=>i=c.k) W0 (W0.setCell ⟨c.k,3,none⟩ (.pointer (some ⟨c.wk,0,none⟩))):=(AB.refl (λi=>i=c.k) _).setCell (a:=⟨c.k,3,none⟩) (λ_=>rfl) _;have hw:=(PU w z.v).gr g2;rw[hc]at tk E⊢;refine⟨hz.1.fr (hz.1.gr hV g0) tk (λi _ e=>⟨λh=>(hSV i h).2 (.inl e),λh=>(hD i h).2 (.inl e)⟩) (λ_ h=>h),(hE.gr g0).touch tk (λe=>hkm (.inl e.symm)) (λe=>hp1 (.inl e)) (λe=>hkm (.inr (.inl e.symm))) (λe=>hp2 (.inl e)) (λe=>hkm (.inr (.inr e.symm))),(hS.gr g0).touch tk (λi hi _ e=>hkg (by subst e;exact hi)),hw.touch tk (λi hi _ e=>by have e:i=k:=e;omega),(hR.gr g0).set 3 (pP (w.heap.size+1)),tk.tab (g0.tab hT.lt hT).lt (λe=>htb (.inl e)) (g0.tab hT.lt hT),E,?_,hz⟩
  show w.heap.size+5<=_
  rw[World.size_setCell,Xn];exact ν _
 have Xe:=QNt (w:=W0) (b12:=b12) (b5:=b5) (cp:=cp) (A:=A) (rs:=rs) (by rw[hc];exact hR.gr g0) (by rw[hc];exact hp) Xu (by rw[hc];exact(g0.cell (AT c12) 0).trans c12) ((g0.cell (AT c5) 0).trans c5) (by rw[hc];exact n12) (by rw[hc];exact n5)
  (by rw[hc];exact hA.gr g0) hlen
 have J:Calls prog 88 (#[pP (w.heap.size+1)]++#[pP b12,pP b5]) W0
   (N5 q0 (w.heap.size+1) (w.heap.size+3) (c.T SG) W0 (λw1=>∃s r vi,A1 w1 SV (plus SG W0) (λi=>i=w.heap.size+1) c v s r vi/\ND v rs c s r vi)
    (λXd _ v' l S S2 w1=>Xd=25/\v'=v/\l=[]/\S=(λi=>i=w.heap.size+1)/\S2=SV/\¬CE v rs c.n/\∃s r vi,A1 w1 SV (plus SG W0) (λi=>i=w.heap.size+1) c v s r vi)):=by
  have hb:=Xe;rw[show c.wk=w.heap.size+1 by rw[hc]]at hb;refine hb.mono ?_;rintro e w1 ⟨ht,(⟨rfl,s,r,vi,hm,hp⟩|⟨rfl,hn,s,r,vi,hm⟩)⟩
  ·exact⟨ht,.inl ⟨rfl,s,r,vi,hm,hp⟩⟩
  ·obtain⟨q,hq⟩:=hfail.resolve_left (by have:=hn;rwa [show c.n=n by rw[hc]]at this);obtain rfl:=Xg q hq;have Xp:=hm.wk;have Xk:=hm.vm;rw[show c.wk=w.heap.size+1 by rw[hc],show c.z=spM q0 by rw[hc];exact hq]at Xp;rw[show c.z=spM q0 by rw[hc];exact hq]at Xk;exact⟨ht,.inr ⟨25,0,v,[],_,_,rfl,Xp,Xk,λi hi h=>by have:=(hSV i h).1;omega,by omega,λh=>by have:=(hSV _ h).1;omega,rfl,rfl,rfl,rfl,rfl,hn,s,r,vi,hm⟩⟩
 have Xs:=WO (w:=w) (sp:=z.v) (q:=q0) (F:=88) (caps:=#[pP b12,pP b5]) ⟨_,_,rfl⟩ VUu (by rw[<-V];exact J)
  (λi h1 h2 h=>by have:=Xb i h;omega) (λh=>by have:=Xb _ h;omega) (λXd a' v' l S' S2 w1 h=>by
   obtain⟨-,-,-,rfl,rfl,-⟩:=h
   exact⟨by omega,λh=>by have:=(hSV _ h).1;omega⟩)
 refine Xs.mono ?_;rintro e w' ⟨w2,fx,fy,⟨w1,Xr,hp⟩,rfl,rfl⟩;rw[<-V]at Xr;rw[Xj]at hp;subst hc;have T1:AB (λi=>i=k\/AS m b1 b2 i\/SG i\/SV i) w w1:=(g0.touch _).trans' Xr (λi hi h=>h.imp id (λh=>h.imp id .inl));have Xl:∀s r vi,A1 w1 SV (plus SG W0) (λi=>i=w.heap.size+1) ⟨k,z,m,p1,b1,p2,b2,n,g,R,w.heap.size+1,w.heap.size+5⟩ v s r vi->JD w1 SV z k m p1 b1 p2 b2 n g v s.L r vi:=λs r vi hm=>⟨hz.1,hm.vm,hm.ext,hm.tab,_,hm.row⟩
 have B:∀(W1 W2:World) (L:List Ob) (r vi:Int),JD W1 SV z k m p1 b1 p2 b2 n g v L r vi->AB (λi=>w.heap.size<=i) W1 W2->JD W2 SV z k m p1 b1 p2 b2 n g v L r vi:=λW1 W2 L r vi h t=>
  h.touch t (λi hi h=>by have:=(hSV i hi).1;omega) (λi hi h=>by have:=Z i hi;omega) Ω Ω Ω Ω (λi hi h=>by have:=(hD i hi).1;omega)
 have Xc:∀(W:World) (z1 z2:Value),AB (λi=>w.heap.size<=i) W ((W.setCell ⟨w.heap.size,0,none⟩ z1).setCell ⟨w.heap.size,1,none⟩ z2):=λW z1 z2=>
  ((AB.refl (λi=>w.heap.size<=i) W).setCell (a:=⟨w.heap.size,0,none⟩) (λ_=>ν _) z1).setCell (a:=⟨w.heap.size,1,none⟩) (λ_=>ν _) z2
 rcases hp with⟨⟨s,r,vi,hm,Xo,Xq⟩,he,rfl⟩|⟨Xd,a',v',l,S',S2,⟨rfl,rfl,rfl,rfl,rfl,hn,s,r,vi,hm⟩,he,Xw⟩
 ·have Xa:fx=0/\fy=0:=by simpa using he
  obtain⟨rfl,rfl⟩:=Xa;have Xv:=((AB.refl (λi=>w.heap.size<=i) w1).setCell (a:=⟨w.heap.size+2+1,0,none⟩) (λ_=>by show w.heap.size<=w.heap.size+2+1;omega) (iI 0)).setCell (a:=⟨w.heap.size+2+1,1,none⟩) (λ_=>by show w.heap.size<=w.heap.size+2+1;omega) (iI 0);have Xi:=Xv.trans (Xc _ (iI 0) (iI 0));exact⟨T1.trans' Xi (λi hi h=>by omega),0,0,s.L,r,vi,rfl,B _ _ _ _ _ (Xl s r vi hm) Xi,.inl ⟨rfl,Xo,Xq⟩⟩
 ·have Xa:fx=25/\fy=a':=by simpa using he
  obtain⟨rfl,rfl⟩:=Xa;obtain⟨q1,q2,q3,q4⟩:=Xw;obtain⟨q,hq⟩:=hfail.resolve_left hn;obtain rfl:=Xg q hq;subst hq
  have Y:∀i,i<w.heap.size->¬S2 i->¬(i=w.heap.size+1\/S2 i\/i=w.heap.size+2+1):=λi hi hs h=>by
   rcases h with h|h|h
   ·omega
   ·exact hs h
   ·omega
  have U:=Xl s r vi hm
  have Xx:JD w2 S2 (spM q0) k m p1 b1 p2 b2 n g v' s.L r vi:=⟨hz.1,q2,U.ext.touch q1 (Y _ (Z _ (.inl rfl)) (λh=>(hSV _ h).2 (.inr (.inl (.inl rfl))))) (Y _ Xh hv1) (Y _ (Z _ (.inr (.inl rfl))) (λh=>(hSV _ h).2 (.inr (.inl (.inr (.inl rfl)))))) (Y _ Xm hv2) (Y _ (Z _ (.inr (.inr rfl))) (λh=>(hSV _ h).2 (.inr (.inl (.inr (.inr rfl)))))),
   q1.tab U.tab.lt (Y _ Xt hvt) U.tab,by obtain⟨wk,hr⟩:=U.row;exact⟨wk,hr.touch q1 (Y _ Xf (λh=>(hSV _ h).2 (.inl rfl)))⟩⟩
  refine⟨(T1.trans' q1 (λi hi h=>?_)).trans' (Xc _ _ _) (λi hi h=>by omega),25,fy,s.L,r,vi,rfl,B _ _ _ _ _ Xx (Xc _ _ _),.inr ⟨rfl,hn⟩⟩;rcases h with h|h|h
  ·omega
  ·exact .inr (.inr (.inr h))
  ·omega
def LK(a b c d:Int):Value:=.agg #[iI a,iI b,iI c,iI d]
theorem TO(W:World)(blk off:Nat)(p q r s:Value)(h0:W.cell? ⟨blk,off,none⟩=some p)(h1:W.cell? ⟨blk,off+1,none⟩=some q)(h2:W.cell? ⟨blk,off+2,none⟩=some r)(h3:W.cell? ⟨blk,off+3,none⟩=some s):(loadVar 97 ⟨blk,off,none⟩).run prog W=.ok (.agg #[p,q,r,s]) W:=by
 have a1:(isAgg 97).run prog W=.ok true W:=by kernel_rfl
 have a2:(sizeOf 97).run prog W=.ok 4 W:=by kernel_rfl
 simp[loadVar,Sem.run_bind,a1,a2,Result.andThen,loadCells,go_sem,h0,h1,h2,h3]
def VA2(w:World)(SV:Nat->Prop)(z:Sp)(m p1 b1 p2 b2 n:Nat)(v:Vm)(rs:List Int)(room:Int)(e:Ending)(w':World):Prop:=
 ((room<1\/4096<room)/\e=.returned (.tuple #[LK 0 0 0 0,iI 5])/\Gr w w') ∨
 (1<=room/\room<=4096/\AB (λi=>AS m b1 b2 i\/SV i) w w'/\z.I v SV w' ∧
  ((∃L r vi,e=.returned (.tuple #[LK (L.length:Nat) (sizes L:Nat) r vi,iI 0])/\Ext w' m p1 b1 p2 b2 n L/\BD v rs n L/\(L=[]->r=1/\vi=0)) ∨
   (e=.returned (.tuple #[LK 0 0 0 0,iI 25])/\Ext w' m p1 b1 p2 b2 n []/\¬CE v rs n)))
section
variable{p1 b1 p2 b2:Nat}{L0:List Ob}
theorem J7(w:World)(o:Obj)(T:Nat)(xs:List Value):Rec ((w.alloc o).alloc (.cells xs.toArray T)) (w.heap.size+1) T xs:=by
 have:=Rec.new (w.alloc o) T xs
 simp_all
theorem XS(w:World)(o o':Obj)(T:Nat)(xs:List Value):Rec ((w.alloc o).alloc (.cells xs.toArray T)) (w.heap.size+1) T xs/\Rec (((w.alloc (.cells xs.toArray T)).alloc o')) w.heap.size T xs:=by
 have:=Rec.new (w.alloc o) T xs;rw[β]at this;exact⟨this,(Rec.new w T xs).gr ((Gr.refl _).alloc _)⟩
theorem L6(W:World)(b:Nat)(z0 z1 z2 z3:Value):AB (λi=>i=b) W ((((W.setCell ⟨b,0,none⟩ z0).setCell ⟨b,1,none⟩ z1).setCell ⟨b,2,none⟩ z2).setCell ⟨b,3,none⟩ z3):=
 ((((AB.refl (λi=>i=b) W).setCell (a:=⟨b,0,none⟩) (λ_=>rfl) z0).setCell (a:=⟨b,1,none⟩) (λ_=>rfl) z1).setCell (a:=⟨b,2,none⟩) (λ_=>rfl) z2).setCell (a:=⟨b,3,none⟩) (λ_=>rfl) z3
theorem ZDS{W:World}{z0 z1 z2 z3:Value}(h:AB S w W):AB S w ((((W.setCell ⟨w.heap.size+1,0,none⟩ z0).setCell ⟨w.heap.size+1,1,none⟩ z1).setCell ⟨w.heap.size+1,2,none⟩ z2).setCell ⟨w.heap.size+1,3,none⟩ z3):=by
 have hx:∀j:Nat,(⟨w.heap.size+1,j,none⟩:Addr).block<w.heap.size->S (⟨w.heap.size+1,j,none⟩:Addr).block:=λj h=>absurd h (by grind);exact(((h.setCell (hx 0) z0).setCell (hx 1) z1).setCell (hx 2) z2).setCell (hx 3) z3
theorem Xbg(hz:z.Ok/\¬z.M)(hfail:CE v rs n\/∃q,z=spM q)(hp:∀a,Rch v rs a->z.Rd v a)(hD:∀i,z.D i->i<w.heap.size/\¬AS m b1 b2 i)(hV:z.I v SV w)(hE:Ext w m p1 b1 p2 b2 n L0)(hT:AP w)(hA:E8 (AS m b1 b2) w A rs)(hlen:rs.length<=maxLen)
  (hvm:∀i,SV i->¬AS m b1 b2 i) (hv1:¬SV p1) (hv2:¬SV p2) (hvt:¬SV 1) (htm:¬AS m b1 b2 1) (room:Int):
  Calls prog 48 #[z.v,.slice A rs.length cp,pP m,iI room] w (VA2 w SV z m p1 b1 p2 b2 n v rs room):=by
 have HE:=hE;have HV:=(hz.1.ct hV);have HZ:=hz;have HF:=hfail;have HP:=hp;have HD:=hD;have HT:=hT;have HA:=hA;have hn1:=hE.nb.1;have dn:((n:Int)==0)=false:=by simp;omega
 have Xz:∀i,AS m b1 b2 i->i<w.heap.size:=λi hi=>by
  rcases hi with rfl|rfl|rfl
  ·exact hE.hm
  ·exact hE.v1.hb
  ·exact hE.v2.hb
 have Xd:p1<w.heap.size:=hE.v1.hp;have Xh:p2<w.heap.size:=hE.v2.hp;have Yt:=hT.lt
 have Xi:¬AS m b1 b2 p1:=λh=>by
  rcases h with h|h|h
  ·exact hE.am.1 h.symm
  ·exact hE.v1.ne h
  ·exact hE.ab.1 h
 have Xe:¬AS m b1 b2 p2:=λh=>by
  rcases h with h|h|h
  ·exact hE.am.2.2.1 h.symm
  ·exact hE.ab.2.1 h
  ·exact hE.v2.ne h
 have J:=Xz;obtain⟨N,hN⟩:∃N,N=rs.length:=⟨_,rfl⟩;have HN:=ι hN;rw[<-hN]at hlen⊢;have h5:=(XS w (.cells #[.slice A N cp] 61) (.cells #[.int .i64 0,.int .i64 0,.int .i64 0,.int .i64 0] 97) 61 [.slice A N cp]).2;have h8:=(XS w (.cells #[.slice A N cp] 61) (.cells #[] 61) 97 [iI 0,iI 0,iI 0,iI 0]).1;have Yl:=h5;have O:=h8;have Xl:Gr w ((w.alloc (.cells #[.slice A N cp] 61)).alloc (.cells #[.int .i64 0,.int .i64 0,.int .i64 0,.int .i64 0] 97)):=((Gr.refl w).alloc _).alloc _;have Xx:((w.alloc (.cells #[.slice A N cp] 61)).alloc (.cells #[.int .i64 0,.int .i64 0,.int .i64 0,.int .i64 0] 97)).heap.size=w.heap.size+2:=by rw[β,β]
 obtain⟨wa,Xg⟩:∃wa,wa=((w.alloc (.cells #[.slice A N cp] 61)).alloc (.cells #[.int .i64 0,.int .i64 0,.int .i64 0,.int .i64 0] 97)):=⟨_,rfl⟩;rw[show (w.alloc (.cells ([.slice A N cp]:List Value).toArray 61)).alloc (.cells #[.int .i64 0,.int .i64 0,.int .i64 0,.int .i64 0] 97)=wa from Xg.symm]at Yl;rw[show (w.alloc (.cells #[.slice A N cp] 61)).alloc (.cells ([.int .i64 0,.int .i64 0,.int .i64 0,.int .i64 0]:List Value).toArray 97)=wa from Xg.symm]at O;rw[<-Xg]at Xl Xx;have Yr:=Xl;have Ya:=ι Xg;have Xr:=(HE.gr Xl);have Xw:Hid (∀i,AE SV w i->i<w.heap.size/\¬AS m b1 b2 i):=⟨λi hi=>⟨hi.2,hvm i hi.1⟩⟩;have Yk:=(θ hv1 (θ hv2 (θ hvt (θ htm (θ Xi Xe)))));clear hV hz hfail hp hD hE hT hA h5 h8 Xg Xl hvm hv1 hv2 hvt htm Xi Xe Xz hN;by_cases Xq:room<1\/4096<room
 ·have Xs:Hid (∀W,cQ 85 #[iI room] W (.tuple #[.pointer none,iI 5])):=⟨λW=>(VgV room W).mono λe w' h=>by
   rcases h with⟨-,h1,h2⟩|⟨h1,h2,-⟩
   ·exact⟨h1,h2⟩
   ·omega⟩
  have Xb:=Xq;unfold Sp.v;go_enter func48,ntmps48;go_upto_region 1 with(fail);rw[<-Ya.o];have y0:=O.cc 0;have y1:=O.cc 1;have y2:=O.cc 2;have y3:=O.cc 3;have yf:=O.free
  go_wp2_with(first
   | (go_at_call 84;refine(EL Xr).mono ?_;rintro e w1 ⟨rfl,rfl⟩)
   | (go_at_call 85;refine(Xs.o _).mono ?_;rintro e w1 ⟨rfl,rfl⟩))
  have R:=((((O.set 0 (iI 0)).set 1 (iI 0)).set 2 (iI 0)).set 3 (iI 0));have hl:=TO _ _ 0 _ _ _ _ (R.cc 0) (R.cc 1) (R.cc 2) (R.cc 3);refine ζK (v:=.tuple #[.agg #[iI 0,iI 0,iI 0,iI 0],iI 5]) ?_ rfl (.inl ⟨Xb,rfl,?_⟩)
  ·rw[results_cell_tmp rfl];simp[asAddr,Result.andThen,hl]
  ·exact(ZDS (Yr.touch _)).gr
 ·have Xn:1<=room/\room<=4096:=Ω
  have Xs:Hid (∀W,Calls prog 85 #[iI room] W λe w'=>e=.returned (.tuple #[pP W.heap.size,iI 0])/\Gr W w'/\BY w' (λk=>W.heap.size<=k) W.heap.size [] room.toNat false):=⟨λW=>(VgV room W).mono λe w' h=>by
   rcases h with⟨h1,-⟩|⟨-,-,h1,h2,h3⟩
   ·omega
   ·exact⟨h1,h2,h3⟩⟩
  have Xb:=Xn;unfold Sp.v;go_enter func48,ntmps48;go_upto_region 1 with(fail);rw[<-Ya.o];obtain⟨gs,Yb⟩:∃gs,gs=wa.heap.size:=⟨_,rfl⟩;have Zb:=Yb
  go_upto_region 8 with(first
   | (go_at_call 84;refine(EL Xr).mono ?_;rintro e w1 ⟨rfl,rfl⟩)
   | (go_at_call 85;refine(Xs.o _).mono ?_;rintro e ws ⟨rfl,Ym,Ye⟩;have Z:=Ym;have Xy:=Ye.cut)
   | (go_at_call 86;refine(Zca (Xr.gr Z)).mono ?_;rintro e w3 ⟨rfl,Yz,Zd⟩;have Xc:=Yz;have Yy:=Zd))
  have Ys:Hid (BY ws (AE (λk=>w.heap.size+2<=k) ws) (w.heap.size+2) [] room.toNat false):=⟨by have:=Xy;rw[Xx]at this;exact this⟩;have Za:=Z.size;have hz3:=Xc.size;have Yx:w.heap.size+2<=w3.heap.size:=Ω
  have E:∀i,AS m b1 b2 i->i<w.heap.size:=J;obtain⟨hv1,hv2,hvt,htm,Xi,Xe⟩:=Yk;have g2:Gr w3 ((w3.alloc (.cells #[.iface z.T z.rv,.pointer (some ⟨m,0,none⟩),.pointer (some ⟨w.heap.size+2,0,none⟩),.pointer none,.int .i64 0,.int .i64 0,.int .i64 0,.int .i64 0] 161)).alloc (.cells #[.pointer (some ⟨w3.heap.size,0,none⟩)] 158)):=((Gr.refl w3).alloc _).alloc _;have Xf:((w3.alloc (.cells #[.iface z.T z.rv,.pointer (some ⟨m,0,none⟩),.pointer (some ⟨w.heap.size+2,0,none⟩),.pointer none,.int .i64 0,.int .i64 0,.int .i64 0,.int .i64 0] 161)).alloc (.cells #[.pointer (some ⟨w3.heap.size,0,none⟩)] 158)).heap.size=w3.heap.size+2:=by rw[β,β]
  have Xm:=J7 w3 (.cells #[.iface z.T z.rv,.pointer (some ⟨m,0,none⟩),.pointer (some ⟨w.heap.size+2,0,none⟩),.pointer none,.int .i64 0,.int .i64 0,.int .i64 0,.int .i64 0] 161) 158 [pP w3.heap.size];have rk:=(Rec.new w3 161 [.iface z.T z.rv,pP m,pP (w.heap.size+2),.pointer none,iI 0,iI 0,iI 0,iI 0]).gr ((Gr.refl _).alloc (.cells #[.pointer (some ⟨w3.heap.size,0,none⟩)] 158));obtain⟨W,hW⟩:∃W,W=((w3.alloc (.cells #[.iface z.T z.rv,.pointer (some ⟨m,0,none⟩),.pointer (some ⟨w.heap.size+2,0,none⟩),.pointer none,.int .i64 0,.int .i64 0,.int .i64 0,.int .i64 0] 161)).alloc (.cells #[.pointer (some ⟨w3.heap.size,0,none⟩)] 158)):=⟨_,rfl⟩;rw[<-hW]at g2 Xf⊢;rw[show (w3.alloc (.cells #[.iface z.T z.rv,.pointer (some ⟨m,0,none⟩),.pointer (some ⟨w.heap.size+2,0,none⟩),.pointer none,.int .i64 0,.int .i64 0,.int .i64 0,.int .i64 0] 161)).alloc (.cells ([.pointer (some ⟨w3.heap.size,0,none⟩)]:List Value).toArray 158)=W from hW.symm]at Xm;rw[show (w3.alloc (.cells ([.iface z.T z.rv,.pointer (some ⟨m,0,none⟩),.pointer (some ⟨w.heap.size+2,0,none⟩),.pointer none,.int .i64 0,.int .i64 0,.int .i64 0,.int .i64 0]:List Value).toArray 161)).alloc (.cells #[.pointer (some ⟨w3.heap.size,0,none⟩)] 158)=W from hW.symm]at rk;have tW:AB (AS m b1 b2) w W:=((Yr.trans Z).touch _ |>.trans Xc).trans (g2.touch _)
  have U:∀i,i<w.heap.size->¬AS m b1 b2 i->¬(i=w3.heap.size\/AS m b1 b2 i\/AE (λk=>w.heap.size+2<=k) ws i):=λi hi hn h=>by
   rcases h with h|h|h
   ·omega
   ·exact hn h
   ·have:=h.1;omega
  have Xj:=Q3I (w:=W) (SV:=AE SV w) (SG:=AE (λk=>w.heap.size+2<=k) ws) (z:=z) (k:=w3.heap.size) (m:=m) (g:=w.heap.size+2) (R:=room.toNat) (b12:=w3.heap.size+1) (b5:=w.heap.size) (cp:=cp) (v:=v) (rs:=rs) (A:=A)
   HZ HF HP (λi hi=>⟨by have:=(HD i hi).1;omega,U i (HD i hi).1 (HD i hi).2⟩) (HZ.1.fr HV tW (λi _ h=>⟨λhi=>(Xw.o i hi).2 h,λhi=>(HD i hi).2 h⟩) (λ_ h=>h)) (Yy.gr g2) ((Ys.o.touch Xc (λi hi _ h=>by have:=E i h;have:=hi.1;omega)).gr g2) rk (tW.tab HT.lt htm HT)
   (Xm.cc 0) (by rw[<-HN.o];exact(((Yl.gr Z).touch Xc (λh=>by have:=E _ h;omega)).gr g2).cell (j:=0) rfl) Ω Ω
   ((HA.mono (T':=λi=>i=w3.heap.size\/AS m b1 b2 i\/AE (λk=>w.heap.size+2<=k) ws i) (λb hb h=>by
    rcases h with h|h|h
    ·omega
    ·exact h
    ·have:=h.1;omega)).touch tW (λ_ _ h=>.inr (.inl h))) (by rw[<-HN.o];exact hlen)
   (λi hi=>⟨by have:=hi.2;omega,λh=>by
    rcases h with h|h|h
    ·have:=hi.2;omega
    ·exact(Xw.o i hi).2 h
    ·have:=hi.2;have:=h.1;omega⟩) (λi hi=>by have:=hi.2;omega) (U _ Xd Xi) (U _ Xh Xe) (U _ Yt htm) (λh=>hv1 h.1) (λh=>hv2 h.1) (λh=>hvt h.1) (λh=>by have:=E _ h;omega) (λh=>by have:=h.2;omega) (λi hi h=>by have:=E i hi;have:=h.1;omega)
  have Xo:=Xj;have Yq:=tW;have Yp:=Xm;have Yo:=(((O.gr Z).touch Xc (λh=>by have:=E _ h;omega)).gr g2);have Xv:=(θ Yx (θ Xf Za))
  have Yc:Hid (∀i,w.heap.size<=i->i<w.heap.size+2\/i=w3.heap.size+1->¬(i=w3.heap.size\/AS m b1 b2 i\/AE (λk=>w.heap.size+2<=k) ws i\/AE SV w i)):=⟨λi h1 h2 h=>by
   rcases h with h|h|h|h
   ·omega
   ·have:=E i h;omega
   ·have:=h.1;have:=h.2;omega
   ·have:=h.2;omega⟩
  unfold Sp.v at Xo;clear Xj tW Xm rk hW g2 U Xf E Xi Xe hv1 hv2 hvt htm Yb Zb;have hcf:=VUu;have hmf:∀(fn:Fn) (first cap:Array Value) (w:World),(Instr.makeFunc fn first cap).run prog w=.ok (.func fn first cap) w:=λ_ _ _ _=>rfl
  go_wp2_with(first
   | (go_at_call 87;refine Xo.mono ?_;rintro e w5 ⟨Xt,x,y,L,r,vi,rfl,Yn,(⟨rfl,Yv,Yj⟩|⟨rfl,Yw⟩)⟩ <;> (have Yg:=Xt;have Xk:=Yn;have Yd:=Yp.touch Xt (Yc.o _ (by have:=Xv.1;omega) (.inr rfl));have R8:=Yo.touch Xt (Yc.o _ Ω (.inl Ω));have x12:=Yd.cc 0;have l12:=Yd.lt;have l8:=R8.lt;have e0:=R8.cc 0;have e1:=R8.cc 1;have e2:=R8.cc 2;have e3:=R8.cc 3;have ef:=R8.free;obtain⟨wk,V⟩:=Yn.row;have k4:=V.cc 4;have k5:=V.cc 5;have k6:=V.cc 6;have k7:=V.cc 7;have lk:=V.lt;have Xp:=R8))
   | (go_at_call 86;refine(Zca (Xk.ext.gr ((Gr.refl _).alloc _))).mono ?_;rintro e w6 ⟨rfl,Yh,Zc⟩;have Xa:=(Xp.gr ((Gr.refl _).alloc (.cells #[.int .i64 25,.int .i64 y] 163))).touch Yh (λh=>by have:=J _ h;omega);have f0:=Xa.cc 0;have f1:=Xa.cc 1;have f2:=Xa.cc 2;have f3:=Xa.cc 3;have ff:=Xa.free;have Yf:=Xa;have Yi:=Yh;have Yu:=Zc))
  ·have B:=λW=>(Gr.refl W).alloc (.cells #[.int .i64 0,.int .i64 y] 163);have R:=(((((Xp).set 0 (iI (L.length:Nat))).set 1 (iI (sizes L:Nat))).set 2 (iI r)).set 3 (iI vi)).gr (B _);have hl:=TO _ _ 0 _ _ _ _ (R.cc 0) (R.cc 1) (R.cc 2) (R.cc 3);have tf:=L6 w5 (w.heap.size+1) (iI (L.length:Nat)) (iI (sizes L:Nat)) (iI r) (iI vi)
   have hT:AB (λi=>AS m b1 b2 i\/SV i) w w5:=(Yq.mono (λi _ h=>.inl h)).trans' Yg (λi hi h=>by
    rcases h with h|h|h|h
    ·have:=Xv.1;omega
    ·exact .inl h
    ·have:=h.1;omega
    ·exact .inr h.1)
   have Xu:=(hT.trans' tf (λi hi h=>by omega)).trans ((B _).touch _);refine ζK (v:=.tuple #[.agg #[iI (L.length:Nat),iI (sizes L:Nat),iI r,iI vi],iI 0]) ?_ rfl (.inr ⟨Xb.1,Xb.2,Xu,?_,.inl ⟨L,r,vi,rfl,?_,Yv,Yj⟩⟩)
   ·rw[results_cell_tmp rfl];simp[asAddr,Result.andThen,hl]
   ·exact HZ.1.mono (HZ.1.gr (HZ.1.fr Xk.vm tf (λi _ h=>⟨λhi=>by have:=hi.2;omega,λhi=>by have:=(HD i hi).1;omega⟩) (λ_ h=>h)) (B _)) (λi hi=>hi.1)
   ·have Y:∀i,i<w.heap.size->i≠w.heap.size+1:=λi h=>by omega
    exact(Xk.ext.touch tf (Y _ (J _ (.inl rfl))) (Y _ Xd) (Y _ (J _ (.inr (.inl rfl)))) (Y _ Xh) (Y _ (J _ (.inr (.inr rfl))))).gr (B _)
  ·have B:=(Gr.refl w5).alloc (.cells #[.int .i64 25,.int .i64 y] 163);have R:=(((((Yf).set 0 (iI 0)).set 1 (iI 0)).set 2 (iI 0)).set 3 (iI 0));have hl:=TO _ _ 0 _ _ _ _ (R.cc 0) (R.cc 1) (R.cc 2) (R.cc 3);have tf:=L6 w6 (w.heap.size+1) (iI 0) (iI 0) (iI 0) (iI 0)
   have hT:AB (λi=>AS m b1 b2 i\/SV i) w w5:=(Yq.mono (λi _ h=>.inl h)).trans' Yg (λi hi h=>by
    rcases h with h|h|h|h
    ·have:=Xv.1;omega
    ·exact .inl h
    ·have:=h.1;omega
    ·exact .inr h.1)
   have Xu:=((hT.trans (B.touch _)).trans (Yi.mono (λi _ h=>.inl h))).trans' tf (λi hi h=>by omega);refine ζK (v:=.tuple #[.agg #[iI 0,iI 0,iI 0,iI 0],iI 25]) ?_ rfl (.inr ⟨Xb.1,Xb.2,Xu,?_,.inr ⟨rfl,?_,Yw⟩⟩)
   ·rw[results_cell_tmp rfl];simp[asAddr,Result.andThen,hl]
   ·exact HZ.1.mono (HZ.1.fr (HZ.1.fr (HZ.1.gr Xk.vm B) Yi (λi _ h=>⟨λhi=>(Xw.o i hi).2 h,λhi=>(HD i hi).2 h⟩) (λ_ h=>h)) tf (λi _ h=>⟨λhi=>by have:=hi.2;omega,λhi=>by have:=(HD i hi).1;omega⟩) (λ_ h=>h)) (λi hi=>hi.1)
   ·have Y:∀i,i<w.heap.size->i≠w.heap.size+1:=λi h=>by omega
    exact Yu.touch tf (Y _ (J _ (.inl rfl))) (Y _ Xd) (Y _ (J _ (.inr (.inl rfl)))) (Y _ Xh) (Y _ (J _ (.inr (.inr rfl))))
def J6M(w:World)(SV:Nat->Prop)(q m p1 b1 p2 b2 n:Nat)(v:Vm)(rs:List Int)(room:Int)(e:Ending)(w':World):Prop:=
 ((room<1\/4096<room)/\e=.returned (.tuple #[LK 0 0 0 0,iI 5])/\Gr w w') ∨
 (1<=room/\room<=4096/\AB (λi=>AS m b1 b2 i\/SV i) w w'/\AD w' SV q v ∧
  ((∃L r vi,e=.returned (.tuple #[LK (L.length:Nat) (sizes L:Nat) r vi,iI 0])/\Ext w' m p1 b1 p2 b2 n L/\BD v rs n L/\(L=[]->r=1/\vi=0)) ∨
   (e=.returned (.tuple #[LK 0 0 0 0,iI 25])/\Ext w' m p1 b1 p2 b2 n []/\¬CE v rs n)))
theorem UU(hV:AD w SV q v)(hE:Ext w m p1 b1 p2 b2 n L0)(hT:AP w)(hA:E8 (AS m b1 b2) w A rs)(hlen:rs.length<=maxLen)
  (hvm:∀i,SV i->¬AS m b1 b2 i) (hv1:¬SV p1) (hv2:¬SV p2) (hvt:¬SV 1) (htm:¬AS m b1 b2 1) (room:Int):
  Calls prog 48 #[spV q,.slice A rs.length cp,pP m,iI room] w (J6M w SV q m p1 b1 p2 b2 n v rs room):=
 Xbg (z:=spM q) ⟨QQ q,λh=>h⟩ (.inr ⟨q,rfl⟩) (λ_ _=>⟨λ_=>trivial,λ_ _=>trivial⟩) (λ_ h=>h.elim) hV hE hT hA hlen hvm hv1 hv2 hvt htm room
end
section
attribute [local go_sem] Oper.semAt_some
structure OZ(v:Vm)(rs:List Int)(c:Cf):Prop where
 cf:GW v.pl.pg v.n c
 sd:CE v rs v.n
 inn:∀L,BD v rs v.n L->(∀o∈L,c.fr<=o.1/\o.1+o.2<=c.tp)/\c.to+sizes L<=c.lm
def V1i(w:World)(S:Nat->Prop)(q:Nat)(v:Vm)(rs:List Int)(e:Ending)(w':World):Prop:=
 ∃L,BD v rs v.n L/\e=.returned (.tuple #[iI (sizes L:Nat),iI 0])/\AB S w w'/\AD w' (AE S w) q v
structure XT(w wx:World)(S:Nat->Prop)(q m p1 b1 p2 b2 b11:Nat)(v:Vm)(rs:List Int)(c:Cf)(L:List Ob)(r vi:Int):Prop where
 t:AB S w wx
 vm:AD wx (AE S w) q v
 ex:Ext wx m p1 b1 p2 b2 v.n L
 mks:BD v rs v.n L
 st:Rec wx b11 97 [iI (L.length:Nat),iI (sizes L:Nat),iI r,iI vi]
 bx:Rec wx w.heap.size 143 [iI c.fr,iI c.tp,iI c.to,iI c.lm,iI c.bk,iI c.st,iI c.ah]
 r6:Rec wx (w.heap.size+1) 3 [iI 0]
 r7:Rec wx (w.heap.size+2) 27 [iI 0]
 lm:w.heap.size+3<=m
 l1:w.heap.size+3<=p1
 l2:w.heap.size+3<=b1
 l3:w.heap.size+3<=p2
 l4:w.heap.size+3<=b2
 l5:w.heap.size+3<=b11
section
variable{r:Nat}{c:Cf}
theorem Qwc(hV:AD w S q v)(hR:AR w r g rs)(hT:AP w)(htS:¬S 1)(hc:OZ v rs c):
  Calls prog 134 #[pP q,pP r,cfV c] w (V1i w S q v rs):=by
 have HV:=hV.cut;have HR:=hR;have HT:=hT;have Zp:=htS;have HC:=hc;have Ji:=hT.lt;have Xs:=hc.cf;have Jn:1<=v.n:=by have:=Xs.fr;have:=Xs.tp;have:=Xs.tn;have:=hV.ok.page.1;omega
 have hn2:=hV.ok.n2;have Jl:rs.length≠0:=λe=>hR.ne (ζw e);have Je:=hR.le;have HX:=(λW=>QD v.n Jn Ω W);have Jp:=(θ Xs.st.1 Xs.st.2);obtain⟨n,Yn⟩:∃n,n=rs.length:=⟨_,rfl⟩;have HN:=ι Yn;rw[<-Yn]at Jl Je;have d0:((n:Int)==0)=false:=by simp;omega
 have g1:Gr w (((w.alloc (.cells #[.int .i64 c.fr,.int .i64 c.tp,.int .i64 c.to,.int .i64 c.lm,.int .i64 c.bk,.int .i64 c.st,.int .i64 c.ah] 143)).alloc (.cells #[.int .i64 0] 3)).alloc (.cells #[.int .i64 0] 27)):=(((Gr.refl w).alloc _).alloc _).alloc _;have Zk:=g1;clear hV hR hT htS hc Xs Yn g1;refine(τ (n:=5)).1 ?_;refine callsIn_of_wp_marks func134 rfl trivial ?_ rfl;simp only[ntmps134,ζS,ζA,ζ6,Nat.reduceAdd,Nat.reduceSub,ζJ,ζI,ζX,ζO,ζV,ζr];unfold cfV;gi_upto_region 1 with(fail);obtain⟨W0,Xl⟩:∃W0,W0=(((w.alloc (.cells #[.int .i64 c.fr,.int .i64 c.tp,.int .i64 c.to,.int .i64 c.lm,.int .i64 c.bk,.int .i64 c.st,.int .i64 c.ah] 143)).alloc (.cells #[.int .i64 0] 3)).alloc (.cells #[.int .i64 0] 27)):=⟨_,rfl⟩;have Zg:W0.heap.size=w.heap.size+3:=by rw[Xl];simp only[β]
 have Zx:Gr w W0:=by rw[Xl];exact Zk
 have rb:Rec W0 w.heap.size 143 [iI c.fr,iI c.tp,iI c.to,iI c.lm,iI c.bk,iI c.st,iI c.ah]:=by rw[Xl];exact(Rec.new w _ [iI c.fr,iI c.tp,iI c.to,iI c.lm,iI c.bk,iI c.st,iI c.ah]).gr (((Gr.refl _).alloc _).alloc _)
 have r6:Rec W0 (w.heap.size+1) 3 [iI 0]:=by rw[Xl];exact(J7 w _ 3 [iI 0]).gr ((Gr.refl _).alloc _)
 have r7:Rec W0 (w.heap.size+2) 27 [iI 0]:=by
  rw[Xl];have:=J7 (w.alloc (.cells #[.int .i64 c.fr,.int .i64 c.tp,.int .i64 c.to,.int .i64 c.lm,.int .i64 c.bk,.int .i64 c.st,.int .i64 c.ah] 143)) (.cells #[.int .i64 0] 3) 27 [iI 0];rw[β]at this;exact this
 rw[<-Xl];clear Xl Zk;have Xc:=Zx;have Zw:=rb;have Jr:=r6;have Jc:=r7;obtain⟨z0,z1,z2,z3,z4,z5,z6,zl⟩:=rb.k7;have Yt:=(λ(W:World) (g:Gr w W)=>VT (HR.gr g));rw[<-HN.o]at Yt;have Zi:=(λ(W:World) (g:Gr w W)=>ZL (HV.gr g) HC.cf);unfold cfV at Zi;have Ja:=(λ(W:World) (g:Gr w W)=>KN (HV.gr g));clear rb r6 r7 Zx
 gi_upto_region 7 with(first
  | (refine⟨trivial,?_⟩;gi_at_call 155;refine(τ.2 (Yt _ Xc)).mono ?_;rintro e w1 ⟨rfl,rfl⟩)
  | (refine⟨trivial,?_⟩;gi_at_call 156;refine(τ.2 (Zi _ Xc)).mono ?_;rintro e w1 ⟨rfl,U⟩;have Xp:=U;clear U)
  | (refine⟨trivial,?_⟩;gi_at_call 47;refine(τ.2 (Ja _ (Xc.trans Xp))).mono ?_;rintro e w2 ⟨rfl,rfl⟩)
  | (refine⟨trivial,?_⟩;gi_at_call 46;refine(τ.2 (HX _)).mono ?_;rintro e w3 ⟨m,p1,b1,p2,b2,rfl,Zr,Zy,Xk,Xr,Xi,Xw,Xj⟩;have O:=(Xp.trans Zr);have Xu:=Zy;have HB:=(θ (γ Xp.size Xk) (θ (γ Xp.size Xr) (θ (γ Xp.size Xi) (θ (γ Xp.size Xw) (γ Xp.size Xj)))));clear Zr Zy Xk Xr Xi Xw Xj))
 gi_cut [11,12]from 15 (λs11 s12 wx=>∃(Xa:Nat) (L:List Ob) (rv vi:Int),s11=pP Xa/\s12=iI 0/\Hid (XT w wx S q m p1 b1 p2 b2 Xa v rs c L rv vi))
 case first=>
  have Jf:=HB;obtain⟨Xk,Xr,Xi,Xw,Xj⟩:=Jf;rw[Zg]at Xk Xr Xi Xw Xj;have Zc:=Xu.hm;have Yv:=Xu.v1.hp;have Ye:=Xu.v1.hb;have Yu:=Xu.v2.hp;have Xy:=Xu.v2.hb
  have Xn:∀i,AS m b1 b2 i->w.heap.size+3<=i/\i<w3.heap.size:=λi hi=>by
   rcases hi with rfl|rfl|rfl
   ·exact⟨Xk,Zc⟩
   ·exact⟨Xi,Ye⟩
   ·exact⟨Xj,Xy⟩
  have Ze:=Xn;have Yi:=(λ(W:World) (g:Gr w3 W)=>WM (HR.gr ((Xc.trans O).trans g)));rw[<-HN.o]at Yi
  have Xx:Hid (∀(W:World) (g1 cp:Nat),Gr w3 W->w3.heap.size<=g1->W.ownsRow 0 3 1 (.slice (some ⟨g1,0,none⟩) n cp) n (zs rs)->Calls prog 48 #[.iface 78 (pP q),.slice (some ⟨g1,0,none⟩) n cp,pP m,iI c.st] W λe w'=>
    ∃(L:List Ob) (rv vi:Int),e=.returned (.tuple #[.agg #[iI (L.length:Nat),iI (sizes L:Nat),iI rv,iI vi],iI 0])/\AB (λi=>AS m b1 b2 i\/AE S w i) W w'/\AD w' (AE S w) q v/\Ext w' m p1 b1 p2 b2 v.n L/\BD v rs v.n L):=⟨λW g1 cp hg U ho=>by
   rw[HN.o]at ho⊢;have Yq:=(Xc.trans O).trans hg;refine(UU (HV.gr Yq) (Xu.gr hg) (Yq.tab HT.lt HT) (λi hi=>?_) (by unfold maxLen;have:=HN.o;omega) (λi hi h=>by have:=(Xn i h).1;have:=hi.2;omega) (λh=>by have:=h.2;omega) (λh=>by have:=h.2;omega) (λh=>Zp h.1) (λh=>by have:=(Xn _ h).1;omega) (c.st:Int)).mono ?_
   ·exact⟨g1,0,rfl,(BF ho rfl).2,λh=>by have:=(Xn _ h).2;omega,by rw[ξE];exact BU ho (MS hi)⟩
   ·rintro e w' (⟨h,-⟩|⟨-,-,ht,hv,(⟨L,r',vi,rfl,he,hm,-⟩|⟨-,-,hn⟩)⟩)
    ·have:=Jp;omega
    ·exact⟨L,r',vi,rfl,ht,hv,he,hm⟩
    ·exact absurd HC.sd hn⟩
  have Zb:Hid (∀(W1 W2 W3:World) (Xa:Nat) (L:List Ob) (rv vi:Int),Gr w3 W1->AB (λi=>AS m b1 b2 i\/AE S w i) W1 W2->AD W2 (AE S w) q v->Ext W2 m p1 b1 p2 b2 v.n L->BD v rs v.n L->AB (λi=>i=Xa) W2 W3->w3.heap.size<=Xa →
    Rec W3 Xa 97 [iI (L.length:Nat),iI (sizes L:Nat),iI rv,iI vi]->XT w W3 S q m p1 b1 p2 b2 Xa v rs c L rv vi):=⟨λW1 W2 W3 Xa L rv vi hg ht hv he hm ht3 hb hr=>by
   have hz3:=(Xc.trans O).size;have hz13:=O.size;have Yq:=(Xc.trans O).trans hg
   have Za:∀i,i<w.heap.size+3->w.heap.size<=i->¬(AS m b1 b2 i\/AE S w i):=λi h1 h2 h=>by
    rcases h with h|h
    ·have:=(Xn i h).1;omega
    ·have:=h.2;omega
   refine⟨((Yq.touch _).trans (ht.mono (T:=λi=>AS m b1 b2 i\/S i) (λi _ h=>h.imp id (λh=>h.1)))).trans' (T:=λi=>i=Xa) ht3 (λi hi h=>by omega) |>.mono (λi hi h=>h.elim (λh=>by have:=(Xn i h).1;omega) id),hv.touch ht3 (λi hi _ h=>by have:=hi.2;omega),he.touch ht3 Ω Ω Ω Ω Ω,hm,hr,?_,?_,?_,Xk,Xr,Xi,Xw,Xj,by omega⟩
   ·exact((Zw.gr (O.trans hg)).touch ht (Za _ Ω Ω)).touch ht3 Ω
   ·exact((Jr.gr (O.trans hg)).touch ht (Za _ Ω Ω)).touch ht3 Ω
   ·exact((Jc.gr (O.trans hg)).touch ht (Za _ Ω Ω)).touch ht3 Ω⟩
  have Xf:=Zw.gr O;have x5:=Xf.cc 5;have Zd:=Xf.lt;have KS:Hid (∀W',Gr w3 W'->W'.cell? ⟨w.heap.size,5,none⟩=some (iI c.st)):=⟨λW' h=>(h.cell Zd 5).trans x5⟩
  have KT:Hid (∀W1 W',Gr w3 W1->AB (λi=>AS m b1 b2 i\/AE S w i) W1 W'->W'.cell? ⟨w.heap.size,5,none⟩=some (iI c.st)):=⟨λW1 W' h t=>(t.cell (υ Zd h.size) (λh=>by
   rcases h with h|h
   ·have:=(Ze _ h).1;omega
   ·have:=h.2;omega) 5).trans ((h.cell Zd 5).trans x5)⟩
  obtain⟨Sx,Ys⟩:∃Sx:World->Prop,Sx=λW'=>W'.cell? ⟨w.heap.size,5,none⟩=some (iI c.st):=⟨_,rfl⟩;have y1:∀p':AA Sx,p'.w.cell? ⟨w.heap.size,5,none⟩=some (iI c.st):=λp=>AA.get Ys p;have Zm:Sx w3.drew:=by rw[Ys];exact x5
  have V:=ι Ys;have inst:Inhabited (AA Sx):=⟨⟨_,Zm⟩⟩;clear Ys x5 Xf z0 z1 z2 z3 z4 z5 z6 zl Xn Xk Xr Xi Xw Xj Zc Yv Ye Yu Xy;refine XX Sx (.two [0,1,2,4,5,6] 3 (.two [] 7 (.one [8,9,10] 11 (.one [] 12 (.fin [13]))) 11 (.one [] 7 (.one [8,9,10] 12 (.fin [13])))) 11 (.one [] 3 (.one [] 7 (.one [8,9,10] 12 (.fin [13]))))) F8 (by kernel_rfl) (by kernel_rfl) Zm ?_;refine PN ?_;simp only[AC,ζ,ξ]
  repeat(go_big_quiet_step (fail))
  refine ψ ⟨?_,?_⟩
  ·gi_wp2_with(refine⟨trivial,?_⟩;gi_at_call 49;refine(τ.2 (Yi _ (Gr.refl w3).drew)).mono ?_;rintro e w4 ⟨g1,c1,rfl,Xv,Yk,Ya⟩;have Y:=ι ((Gr.refl w3).drew.trans Xv);have Yr:=ι Ya;have Yp:=ι Yk;clear Xv Ya Yk);refine⟨AA.of (by rw[V.o];exact KS.o _ Y.o),?_⟩;refine PN ?_;simp only[AC,ζ,ξ];refine ψ ⟨?_,?_⟩
   ·gi_wp2_with(refine⟨trivial,?_⟩;gi_at_call 48;refine(τ.2 (Xx.o _ g1 c1 Y.o Yp.o Yr.o)).mono ?_;rintro e w5 ⟨L,rv,vi,rfl,E,Xh,Xe,Xg⟩;have J:=ι E;have Yj:=ι Xh;have Yf:=ι Xe;have Ym:=ι Xg;clear E Xh Xe Xg);refine⟨AA.of (by rw[V.o];exact KT.o _ _ Y.o J.o),?_⟩;refine E5 ?_;simp only[AC,ζ,ξ]
    repeat(go_big_quiet_step (fail))
    refine ψ ?_;have u5:=KT.o _ _ Y.o J.o;have Zj:=AT u5;gi_wp2;refine⟨AA.of (by rw[V.o];exact(((Gr.refl w5).alloc _).cell Zj 5).trans u5),?_⟩;refine E5 ?_;simp only[AC,ζ,ξ];refine ψ ?_;gi_wp2;refine⟨AA.of (by rw[V.o];exact(((Gr.refl w5).alloc _).cell Zj 5).trans u5),?_⟩;refine L5 ?_;simp only[AC,ζ,ξ]
    repeat(go_big_quiet_step (fail))
    refine ψ ?_;refine ζb ?_;gi_wp2
    gi_meet
    exact⟨_,L,rv,vi,rfl,rfl,⟨Zb.o _ _ _ _ L rv vi Y.o J.o Yj.o Yf.o Ym.o (((Gr.refl w5).alloc _).touch _) (γ Y.o.size J.o.size) (Rec.new w5 _ [iI (L.length:Nat),iI (sizes L:Nat),iI rv,iI vi])⟩⟩
   ·have x4:=KS.o _ Y.o;have Zs:=AT x4;gi_wp2;refine⟨AA.of (by rw[V.o];exact(((Gr.refl w4).alloc _).cell Zs 5).trans x4),?_⟩;refine E5 ?_;simp only[AC,ζ,ξ];refine ψ ?_;have Xb:=ι (Rec.new w4 97 [iI 0,iI 0,iI 0,iI 0]);have I:=ι (Y.o.alloc (.cells #[.int .i64 0,.int .i64 0,.int .i64 0,.int .i64 0] 97))
    have Xz:Hid (¬(AS m b1 b2 w4.heap.size\/AE S w w4.heap.size)):=⟨λh=>by
     have:=Y.o.size;rcases h with h|h
     ·have:=(Ze _ h).2;omega
     ·have:=h.2;have:=(Xc.trans O).size;omega⟩
    have Yg:Hid (¬w.heap.size=w4.heap.size):=⟨by have:=Y.o.size;omega⟩;have Zt:=ι (CU Yr.o ((Gr.refl w4).alloc (.cells #[.int .i64 0,.int .i64 0,.int .i64 0,.int .i64 0] 97)));have Yb:Hid (w3.heap.size<=w4.heap.size):=⟨Y.o.size⟩;obtain⟨bA,Xq⟩:∃bA,bA=w4.heap.size:=⟨_,rfl⟩;obtain⟨WA,Xm⟩:∃WA,WA=w4.alloc (.cells #[.int .i64 0,.int .i64 0,.int .i64 0,.int .i64 0] 97):=⟨_,rfl⟩;rw[show w4.alloc (.cells ([.int .i64 0,.int .i64 0,.int .i64 0,.int .i64 0]:List Value).toArray 97)=WA from Xm.symm]at Xb;rw[<-Xm]at I Zt⊢;rw[<-Xq]at Xb Xz Yg Yb⊢;clear Xq Xm x4 Zs;gi_wp2_with(refine⟨trivial,?_⟩;gi_at_call 48;refine(τ.2 (Xx.o _ g1 c1 I.o Yp.o Zt.o)).mono ?_;rintro e w5 ⟨L,rv,vi,rfl,E,Xh,Xe,Xg⟩;have J:=ι E;have Yj:=ι Xh;have Yf:=ι Xe;have Ym:=ι Xg;have Z:=ι (Xb.o.touch E (Xz.o));have q0:=Z.o.cc 0;have q1:=Z.o.cc 1;have q2:=Z.o.cc 2;have q3:=Z.o.cc 3;have qf:=Z.o.free;have ql:=Z.o.lt;clear E Xh Xe Xg);refine⟨AA.of (by rw[V.o];exact KT.o _ _ I.o J.o),?_⟩;refine E5 ?_;simp only[AC,ζ,ξ]
    repeat(go_big_quiet_step (fail))
    refine ψ ?_;gi_wp2;have R5:=(((Z.o.set 0 (iI (L.length:Nat))).set 1 (iI (sizes L:Nat))).set 2 (iI rv)).set 3 (iI vi);have t5:=L6 w5 bA (iI (L.length:Nat)) (iI (sizes L:Nat)) (iI rv) (iI vi);have KF:=(t5.cell (AT (KT.o _ _ I.o J.o)) Yg.o 5).trans (KT.o _ _ I.o J.o);refine⟨AA.of (by rw[V.o];exact KF),?_⟩;refine L5 ?_;simp only[AC,ζ,ξ]
    repeat(go_big_quiet_step (fail))
    refine ψ ?_;refine ζb ?_;gi_wp2
    gi_meet
    exact⟨_,L,rv,vi,rfl,rfl,⟨Zb.o _ _ _ _ L rv vi I.o J.o Yj.o Yf.o Ym.o t5 Yb.o R5⟩⟩
  ·gi_wp2;have x3:=KS.o _ (Gr.refl w3);have Jo:=AT x3;refine⟨AA.of (by rw[V.o];exact KS.o _ ((Gr.refl w3).alloc _).drew),?_⟩;refine E5 ?_;simp only[AC,ζ,ξ];refine ψ ?_;have Xb:=ι ((Rec.new w3 97 [iI 0,iI 0,iI 0,iI 0]).gr (Gr.refl _).drew);have I:=ι ((Gr.refl w3).alloc (.cells #[.int .i64 0,.int .i64 0,.int .i64 0,.int .i64 0] 97)).drew
   have Xz:Hid (¬(AS m b1 b2 w3.heap.size\/AE S w w3.heap.size)):=⟨λh=>by
    rcases h with h|h
    ·have:=(Ze _ h).2;omega
    ·have:=h.2;have:=(Xc.trans O).size;omega⟩
   have Yg:Hid (¬w.heap.size=w3.heap.size):=⟨by omega⟩;have Yb:Hid (w3.heap.size<=w3.heap.size):=⟨ν _⟩;obtain⟨WA,Xm⟩:∃WA,WA=(w3.alloc (.cells #[.int .i64 0,.int .i64 0,.int .i64 0,.int .i64 0] 97)).drew:=⟨_,rfl⟩;rw[show (w3.alloc (.cells ([.int .i64 0,.int .i64 0,.int .i64 0,.int .i64 0]:List Value).toArray 97)).drew=WA from Xm.symm]at Xb;rw[<-Xm]at I⊢;clear Xm;obtain⟨bA,Xq⟩:∃bA,bA=w3.heap.size:=⟨_,rfl⟩;rw[<-Xq]at Xb Xz Yg;rw[show w3.heap.size<=w3.heap.size↔w3.heap.size<=bA by rw[Xq]]at Yb;rw[show w3.heap.size=bA from Xq.symm];clear Xq x3 Jo;gi_wp2_with(refine⟨trivial,?_⟩;gi_at_call 49;refine(τ.2 (Yi _ I.o)).mono ?_;rintro e w4 ⟨g1,c1,rfl,Xv,Yk,Ya⟩;have Y:=ι (I.o.trans Xv);have Zn:=ι (Xb.o.gr Xv);have Yr:=ι Ya;have Yp:=ι (γ I.o.size Yk);clear Xv Ya Yk);refine⟨AA.of (by rw[V.o];exact KS.o _ Y.o),?_⟩;refine E5 ?_;simp only[AC,ζ,ξ];refine ψ ?_;gi_wp2_with(refine⟨trivial,?_⟩;gi_at_call 48;refine(τ.2 (Xx.o _ g1 c1 Y.o Yp.o Yr.o)).mono ?_;rintro e w5 ⟨L,rv,vi,rfl,E,Xh,Xe,Xg⟩;have J:=ι E;have Yj:=ι Xh;have Yf:=ι Xe;have Ym:=ι Xg;have Z:=ι (Zn.o.touch E (Xz.o));have q0:=Z.o.cc 0;have q1:=Z.o.cc 1;have q2:=Z.o.cc 2;have q3:=Z.o.cc 3;have qf:=Z.o.free;have ql:=Z.o.lt;clear E Xh Xe Xg);refine⟨AA.of (by rw[V.o];exact KT.o _ _ Y.o J.o),?_⟩;refine E5 ?_;simp only[AC,ζ,ξ]
   repeat(go_big_quiet_step (fail))
   refine ψ ?_;gi_wp2;have R5:=(((Z.o.set 0 (iI (L.length:Nat))).set 1 (iI (sizes L:Nat))).set 2 (iI rv)).set 3 (iI vi);have t5:=L6 w5 bA (iI (L.length:Nat)) (iI (sizes L:Nat)) (iI rv) (iI vi);have KF:=(t5.cell (AT (KT.o _ _ Y.o J.o)) Yg.o 5).trans (KT.o _ _ Y.o J.o);refine⟨AA.of (by rw[V.o];exact KF),?_⟩;refine L5 ?_;simp only[AC,ζ,ξ]
   repeat(go_big_quiet_step (fail))
   refine ψ ?_;refine ζb ?_;gi_wp2
   gi_meet
   exact⟨_,L,rv,vi,rfl,rfl,⟨Zb.o _ _ _ _ L rv vi Y.o J.o Yj.o Yf.o Ym.o t5 Yb.o R5⟩⟩
 case rest=>
  obtain⟨Xa,L,rv,vi,rfl,rfl,HI⟩:=hcut;clear z0 z1 z2 z3 z4 z5 z6 zl;obtain⟨Zq,Yw⟩:=HC.inn L HI.o.mks;have Jm:=ι Zq;have Zo:=ι Yw;clear Zq Yw;gi_wp2_with(refine⟨trivial,?_⟩;gi_at_call 144;refine(τ.2 (JQ (some ⟨m,0,none⟩))).mono ?_;rintro e w1 ⟨rfl,rfl⟩);obtain⟨W1,Yc⟩:∃W1,W1=wc.alloc (.cells #[.pointer (some ⟨m,0,none⟩)] 93):=⟨_,rfl⟩;have U:Gr wc W1:=by rw[Yc];exact(Gr.refl wc).alloc _
  have hs1:W1.heap.size=wc.heap.size+1:=by rw[Yc,β]
  have k4:W1.cell? ⟨wc.heap.size,0,none⟩=some (pP m):=by
   rw[Yc];exact(Boxed.new wc 93 (pP m)).cell
  rw[<-Yc];have hex:=HI.o.ex;have Zc:=hex.hm;have Yv:=hex.v1.hp;have Ye:=hex.v1.hb;have Yu:=hex.v2.hp;have Xy:=hex.v2.hb;have hwz:=HI.o.t.size;have Yx:AP wc:=HI.o.t.tab Ji Zp HT;have Jh:=ι Yx;have Zv:=Yx.lt;have Yy:=HI.o.bx;have hrl:=Yy.lt;clear Yc Yx hex;have tI:∀(j:Nat) A B,(AB (λi=>W1.heap.size<=i) W1 A/\j<=L.length)->AB (λi=>W1.heap.size<=i/\i<W1.heap.size+2+4) A B->(AB (λi=>W1.heap.size<=i) W1 B/\j<=L.length):=λj A B h t=>⟨h.1.trans (t.mono (λi _ h=>h.1)),h.2⟩
  refine LB (K:=4) (s0:=0) rfl Ω (gf:=187) (lb:=#[pP wc.heap.size]) rfl trivial (enters_of func187 (by kernel_rfl) rfl)
   (N8 _ wc.heap.size m p1 b1 p2 b2 v.n L _) (λ_=>rfl)
   (λ(j:Nat) A=>AB (λi=>W1.heap.size<=i) W1 A/\j<=L.length) (λ_ _=>False) tI (λ_ _ _ h _=>h)
   (λj A h=>⟨(HI.o.ex.gr U).touch h.1 Ω Ω Ω Ω Ω,(U.tab Zv Jh.o).touch' h.1 Ω,(h.1.cell Ω Ω 0).trans k4,h.2⟩)
   ⟨AB.refl _ _,ζh _⟩ ?round ?done ?stop
  case round=>
   intro lp j x W3 hsz3 Xd Xo;dsimp only[GE];gi_wp2;refine⟨Gr.refl _,λW4 ht4 hI4=>?_⟩
   have Yo:j<L.length:=by
    rcases χ j L.length with h|h
    ·exact h
    ·unfold EI at Xo;rw[ζF h]at Xo;cases Xo
   obtain rfl:x=L[j]:=by unfold EI at Xo;rw[ζa Yo]at Xo;exact(Option.some.inj Xo).symm
   obtain⟨i1,i2⟩:=Jm.o _ (π Yo);have Yl:=(Yy.gr U).touch hI4.1 Ω;obtain⟨c0,c1,cl⟩:=Yl.k2;have Zu:=(HI.o.ex.good.sz _ (π Yo)).2;obtain⟨sa,Zh⟩:∃s,s=L[j].1:=⟨_,rfl⟩;obtain⟨sz,Xt⟩:∃s,s=L[j].2:=⟨_,rfl⟩;rw[<-Zh]at i1 i2 Zu⊢;rw[<-Xt]at i2 Zu⊢;have e0:decide ((sa:Int)<(c.fr:Int))=false:=φ Ω;have e1:decide ((c.tp:Int)<(sa:Int)+(sz:Int))=false:=φ Ω;have e2:decide (sa<c.fr)=false:=φ Ω;have Jj:=ι hI4;clear Xd hI4 Xo ht4 Zh Xt;gi_wp2;exact⟨AB.refl _ _,j+1,rfl,Jj.o.1,Yo⟩
  case done=>
   rintro D j W3 hD rfl Xd hK;have hs5l:=HI.o.l5;have hb11l:=HI.o.st.lt;have Yz:=(HI.o.st.gr U).touch Xd.1 Ω;have Xf:=(Yy.gr U).touch Xd.1 Ω;have Yd:=(HI.o.r6.gr U).touch Xd.1 (by have:=HI.o.r6.lt;omega);have Yh:=(HI.o.r7.gr U).touch Xd.1 (by have:=HI.o.r7.lt;omega);have a1:=Yz.cc 1;have al:=Yz.lt;have c3:=Xf.cc 3;have c2:=Xf.cc 2;have cl:=Xf.lt;have q0:=Yd.cc 0;have q1:=Yd.free 0;have ql:=Yd.lt;have p0:=Yh.cc 0;have p1':=Yh.free 0;have pl:=Yh.lt;have Jg:=Zo.o;have hlm:=HC.cf.ln;have Jb:=HI.o.vm;obtain⟨sz,Xt⟩:∃s,s=sizes L:=⟨_,rfl⟩;have Zz:=ι Xt;rw[<-Xt]at a1 Jg;have e0:decide ((c.lm:Int)-(c.to:Int)<(sz:Int))=false:=φ Ω;have HK:=ι hK;have HD:=ι hD;have Zl:=ι Xd;have Xb:=ι Yd;have Jd:=ι Yh;have hs3:=Xd.1.size;clear hK hD Xd Xt Yz Xf Yd Yh;gi_wp2
   have tg:AB (λi=>i=w.heap.size+1\/i=w.heap.size+2) W3 ((W3.setCell ⟨w.heap.size+1,0,none⟩ (.int .i64 (sz:Int))).setCell ⟨w.heap.size+1+1,0,none⟩ (.int .i64 0)):=
    ((AB.refl _ W3).setCell (a:=⟨w.heap.size+1,0,none⟩) (λ_=>.inl rfl) _).setCell (a:=⟨w.heap.size+1+1,0,none⟩) (λ_=>.inr rfl) _
   have b6:Rec ((W3.setCell ⟨w.heap.size+1,0,none⟩ (.int .i64 (sz:Int))).setCell ⟨w.heap.size+1+1,0,none⟩ (.int .i64 0)) (w.heap.size+1) 3 [iI (sz:Int)]:=
    (Xb.o.set 0 (iI (sz:Int))).touch ((AB.refl (λi=>i=w.heap.size+1+1) _).setCell (a:=⟨w.heap.size+1+1,0,none⟩) (λ_=>rfl) _) Ω
   have b7:Rec ((W3.setCell ⟨w.heap.size+1,0,none⟩ (.int .i64 (sz:Int))).setCell ⟨w.heap.size+1+1,0,none⟩ (.int .i64 0)) (w.heap.size+2) 27 [iI 0]:=
    (Jd.o.touch ((AB.refl (λi=>i=w.heap.size+1) W3).setCell (a:=⟨w.heap.size+1,0,none⟩) (λ_=>rfl) (iI (sz:Int))) Ω).set 0 (iI 0)
   have hD:=HD.o;have Zf:=(tg.block D (ζo.1 HK.o).1 Ω).trans HK.o;generalize ((W3.setCell ⟨w.heap.size+1,0,none⟩ (.int .i64 (sz:Int))).setCell ⟨w.heap.size+1+1,0,none⟩ (.int .i64 0))=W5 at *
   have k6:=b6.cc 0;have k7:=b7.cc 0;rw[show w.heap.size+2=w.heap.size+1+1 from rfl]at k7;refine⟨by simp,.inl ⟨_,_,rfl,run_takeDeferred Zf,?_⟩⟩;have Jk:=cell_kept k6 (grownBy_putObj' _ D (.deferred none)) (λr e=>by cases e;exact⟨_,Zf,rfl⟩);have Jq:=cell_kept k7 (grownBy_putObj' _ D (.deferred none)) (λr e=>by cases e;exact⟨_,Zf,rfl⟩);have tD:AB (λi=>W1.heap.size<=i) W5 (W5.putObj D (.deferred none)):=C6 _ D _ Ω;refine⟨.tuple #[iI (sz:Int),iI 0],?_,?_⟩
   ·simp[results,f134,go_sem,Jk,Jq]
   ·refine⟨L,HI.o.mks,by rw[Zz.o],?_,?_⟩
    ·exact(((HI.o.t.trans (U.touch _)).trans' Zl.o.1 (λi hi h=>by omega)).trans' tg (λi hi h=>by omega)).trans' tD (λi hi h=>by omega)
    ·exact(((Jb.gr U).touch Zl.o.1 (λi hi _ h=>by have:=hi.2;omega)).touch tg (λi hi _ h=>by have:=hi.2;omega)).touch tD (λi hi _ h=>by have:=hi.2;omega)
  case stop=>
   rintro D c W3 hD h hK;exact h.elim
end
end
theorem TN(h:AF v){t:Nat}(ht:t<=v.n)(hE:A8 v f t=0)(hG:BQ v v1 (BN v f t)){a:Nat}(h1:f<=a)(h2:a<t):v1.ldE a=0:=by
 have hF:BN v f t=BR v ((f:Int)/v.pl.pg).toNat (CT v f t):=by unfold BN;grind
 rw[hG.ldE h Ω,hF];by_cases h0:v.pt.getD (a/v.pl.pg) 0=0
 ·rw[μ];rw[N6];refine⟨?_,h0⟩;have e1:((f:Int)/(v.pl.pg:Int)).toNat=f/v.pl.pg:=by grind
  have e2:CT v f t=(t-1)/v.pl.pg+1-f/v.pl.pg:=by
   unfold CT
   grind
  have g1:f/v.pl.pg<=a/v.pl.pg:=ζc h1;have g2:a/v.pl.pg<=(t-1)/v.pl.pg:=ζc Ω;omega
 ·split
  ·rfl
  ·rw[h.ldE_of Ω,ϑ h0]
theorem ZY(hf:f<=v.n):A8 v f f=0/\BN v f f=[]:=by
 have hE:A8 v f f=0:=by unfold A8;omega
 refine⟨hE,?_⟩;unfold BN
 simp_all
theorem Z25(h:AF v){c:Cf}(hc:OZ v rs c)(hM:BD v rs v.n L)(hE:A8 v c.to ((c.to+sizes L:Nat):Int)=0)(hG:BQ v v1 (BN v c.to ((c.to+sizes L:Nat):Int)))
  (hm:∀a:Nat,c.fr<=a->a<c.tp->v.ldE a=0):DF v1 rs L c.to/\FJ v1 L:=by
 obtain⟨Z,htot⟩:=hc.inn L hM;have hw:=hG.wider h;have hp:=h.page;have Y:=hc.cf;have hln:=Y.ln;have hto:=Y.to;refine⟨⟨hG.ok,?_,by omega,λo ho=>?_,λa h1 h2=>TN h Ω hE hG h1 h2,by rw[hG.n];omega⟩,λo ho m hmo=>?_⟩
 ·rw[hG.n];exact hw.marks hM
 ·have hi:=Z o ho;have hs:1<=o.2:=(hM.mkd.good.sz o ho).1
  have hsz:1<=sizes L:=by
   have:∀l:List Ob,o∈l->o.2<=sizes l:=λl=>by
    induction l with
    | nil=>intro h;cases h
    | cons b r ih=>
     intro h;simp only[sizes];rcases ζC.1 h with rfl|h
     ·omega
     ·have:=ih h;omega
   grind
  have hup:c.tp<=upN c.tp v.pl.pg:=by
   unfold upN;have h1:=ζv (c.tp+v.pl.pg-1) v.pl.pg;have h2:=ξR (c.tp+v.pl.pg-1) (show 0<v.pl.pg by omega)
   grind
  have hap:=Y.ap;omega
 ·have hi:=Z o ho;have:=hm (o.1+m) Ω Ω;exact(hw.le _ (by exact this)).1
structure S7(v:Vm)(rs:List Int)(c:Cf)(L:List Ob)(v1 v2:Vm)(k kq:Nat):Prop where
 gr:BQ v v1 (BN v c.to ((c.to+sizes L:Nat):Int))
 cx:DF v1 rs L c.to
 fo:FJ v1 L
 ke:k=(AQ v1 rs k).length
 st:CpS v1 rs L c.to (AQ v1 rs k) k 0 v2
 q1:∀j,j<kq->(c.fr/v.pl.pg+j)*v.pl.pg<c.tp
 q2:c.tp<=(c.fr/v.pl.pg+kq)*v.pl.pg
theorem VQN(v:Vm)(rs:List Int)(k:Nat)(h:j<=(AQ v rs k).length):(AQ v rs (k+1)).take j=(AQ v rs k).take j:=by
 obtain⟨X,hX⟩:=T9 v rs k
 grind
theorem YnT(h:k<(AQ v rs k).length):AQ v rs (k+1)=DD (AQ v rs k) (DI v ((AQ v rs k).getD k 0)):=by
 show (if _ then _ else _)=_
 rw[μ h]
theorem XeB(c:DF v rs L to){X:List Int}(hR:∀a∈O++X,Rch v rs a)(hl:∀a∈l,a=0\/a∈O):l.map (λa=>BP v (O++X) to a)=l.map (λa=>BP v O to a):=by
 apply ξG;intro a ha;exact Vqd v X to (λh=>by have:=(C9 (c.mks.sound.rd _ (hR 0 h))).1;omega) (hl a ha)
def CpJ(w3:World)(S3:Nat->Prop)(K M q g:Nat)(v:Vm)(rs:List Int)(L:List Ob)(to:Nat)(i:Nat)(W:World)(out:List Int):Prop:=
 ∃O v' Si,(∀b,Si b->plus S3 w3 b)/\C3 W Si K M q v to O v'/\CpS v rs L to O 0 0 v'/\O=DD [] (rs.take i)/\out=(rs.take i).map (λa=>BP v O to a)/\AB (λb=>b=g\/(b=K\/b=M)\/S3 b) w3 W
structure CpL(w3 wr:World)(S3 Si:Nat->Prop)(K M q r g:Nat)(v:Vm)(rs out:List Int)(L:List Ob)(to k:Nat)(v':Vm):Prop where
 sub:∀b,Si b->plus S3 w3 b
 cat:C3 wr Si K M q v to (AQ v rs k) v'
 st:CpS v rs L to (AQ v rs k) k 0 v'
 oe:out=rs.map (λa=>BP v (AQ v rs k) to a)
 t:AB (λb=>b=g\/(b=K\/b=M)\/S3 b) w3 wr
 rt:AR wr r g out
def YZS(w:World)(S:Nat->Prop)(q r g:Nat)(v:Vm)(rs:List Int)(c:Cf)(e:Ending)(w':World):Prop:=
 ∃L,BD v rs v.n L/\AB (λb=>b=g\/S b) w w' ∧
  ((A8 v c.to ((c.to+sizes L:Nat):Int)≠0/\e=.returned (.tuple #[iI 0,iI (A8 v c.to ((c.to+sizes L:Nat):Int))])/\G6 w' (plus S w) q v []/\AR w' r g rs) ∨
   (A8 v c.to ((c.to+sizes L:Nat):Int)=0/\e=.returned (.tuple #[iI ((c.to+sizes L:Nat):Int),iI 0]) ∧
   ∃v1 v2 k kq,S7 v rs c L v1 v2 k kq/\AD w' (plus S w) q (umN v2 (c.fr/v.pl.pg) kq)/\AR w' r g (rs.map (λa=>BP v1 (AQ v1 rs k) c.to a))))
theorem C3.touch{T:Nat->Prop}{v':Vm}(h:C3 w S K M q v to O v')(t:AB T w w')(hK:¬T K)(hM:¬T M)(hS:∀b,S b->b<w.heap.size->¬T b):C3 w' S K M q v to O v':=
 ⟨h.rc.touch t hK,h.mp.touch t hM,h.vm.touch t hS,h.nK,h.nM⟩
structure XC(w3:World)(S3:Nat->Prop)(K M r g:Nat):Prop where
 r3:r<w3.heap.size
 g3:g<w3.heap.size
 rK:r≠K
 rM:r≠M
 gK:g≠K
 gM:g≠M
 rS:¬S3 r
 gS:¬S3 g
structure UmI(w3 wx:World)(S3:Nat->Prop)(K M q r g:Nat)(v:Vm)(out:List Int)(tt q0 j pg tp:Nat):Prop where
 t:AB (λb=>b=g\/(b=K\/b=M)\/S3 b) w3 wx
 vm:∃Sj,(∀b,Sj b->plus S3 w3 b)/\AD wx Sj q (umN v q0 j)/\¬Sj K
 rc:Rec wx K 209 [pP q,.map (some M),iI tt]
 rt:AR wx r g out
 q1:∀i,i<j->(q0+i)*pg<tp
theorem UmI.gr{wx:World}{r:Nat}{out:List Int}{tt q0 pg tp:Nat}(h:UmI w3 wx S3 K M q r g v out tt q0 j pg tp)(g':Gr wx w'):UmI w3 w' S3 K M q r g v out tt q0 j pg tp:=by
 obtain⟨h1,⟨Sj,h2,h3,h4⟩,h5,h6,h7⟩:=h;exact⟨h1.trans (g'.touch _),⟨Sj,h2,h3.gr g',h4⟩,h5.gr g',h6.gr g',h7⟩
section
variable{r:Nat}
theorem Q0I(hcat:C3 w3 S3 K M q v1 to [] v1)(cx:DF v1 rs L to)(fo:FJ v1 L)(hR:AR w3 r g rs)(hrs:∀a∈rs,0<=a/\a<=2147483647)(sp:XC w3 S3 K M r g):
  Calls prog 135 #[pP r,.func (.func 136) #[pP K] #[]] w3 λe w'=>e=.returned (.tuple #[])/\∃out v' Si,CpL w3 w' S3 Si K M q r g v1 rs out L to 0 v':=by
 have h0:CpJ w3 S3 K M q g v1 rs L to 0 w3 []:=⟨[],v1,S3,λb h=>.inl h,hcat,⟨ξJ,(λ_ h=>by cases h),Cpd.nil cx.ok to,(λj hj=>absurd hj (ζQ _)),.inr ⟨rfl,rfl⟩⟩,rfl,rfl,AB.refl _ _⟩;refine(WH (F:=136) (pre:=#[pP K]) (caps:=#[]) (CpJ w3 S3 K M q g v1 rs L to) (λ_ _=>by kernel_rfl) hR h0 ?_ ?_).mono ?_
 ·rintro i hi W out ho ⟨O,v',Si,h1,h2,h3,h4,h5,h6⟩ hz;refine⟨O,v',Si,h1,h2,h3,?_,?_,h6⟩
  ·rw[IG hi,TG,<-h4,hz];exact(μ (.inl rfl)).symm
  ·rw[IG hi,ζ2,<-h5,hz]
   show out++[0]=out++[BP v1 O to 0]
   rw[N4 v1 _ (h3.zero cx)]
 ·rintro i hi W out ho ⟨O,v',Si,h1,h2,h3,h4,h5,h6⟩ U B W0 Z;obtain⟨q1,q2⟩:=hrs _ (π hi);obtain⟨a,ha⟩:∃a:Nat,(a:Int)=rs[i]:=⟨rs[i].toNat,by omega⟩;have hr:Rch v1 rs a:=by rw[ha];exact Rch.root (π hi) B
  have Y:=Zz2 (h2.gr Z) cx fo h3 (a:=a) (.inr hr) Ω;rw[ha]at Y;refine Y.mono ?_;rintro e W' ⟨E,rfl,ht,I,J⟩;have hzW:=h6.size;have hz0:=Z.size;have V:∀b,b<w3.heap.size->¬S3 b->¬Si b:=λb hb hn h=>(h1 b h).elim hn (λh=>by omega);have Xa:(a:Int)∈CG O a:=MY.2 (.inr ⟨rfl,by omega⟩);have D:0<=BP v1 (CG O (a:Int)) to a:=by have:=(TQ v1 (to:Int) Xa).1;omega
  rw[<-ha]at J I⊢;refine⟨_,rfl,(U.gr Z).touch ht (λh=>?_) (λh=>?_),λW'' t''=>⟨CG O a,E,plus Si W0,λb hb=>?_,I.touch t'' (Ne.symm sp.gK) (Ne.symm sp.gM) (λb hb _ e=>?_),J,?_,?_,?_⟩⟩
  ·rcases h with(h|h)|h
   ·exact sp.rK h
   ·exact sp.rM h
   ·exact V _ sp.r3 sp.rS h
  ·rcases h with(h|h)|h
   ·exact sp.gK h
   ·exact sp.gM h
   ·exact V _ sp.g3 sp.gS h
  ·rcases hb with h|h
   ·exact h1 b h
   ·right;omega
  ·subst e;rcases hb with h|h
   ·exact V _ sp.g3 sp.gS h
   ·have:=sp.g3;omega
  ·rw[IG hi,TG,<-h4,<-ha]
  ·obtain⟨X,hX⟩:=UX O (a:Int);rw[IG hi,ζ2,<-ha,Int.max_eq_left D];congr 1;rw[h5]
   have hl:∀b∈rs.take i,b=0\/b∈O:=λb hb=>by
    by_cases h0:b=0
    ·exact .inl h0
    ·right;rw[h4];exact QZ.2 (.inr ⟨hb,h0⟩)
   rw[hX];exact(XeB cx (by rw[<-hX];exact J.rch) hl).symm
  ·refine((h6.trans (Z.touch _)).trans' ht (λb hb h=>?_)).trans (t''.mono (λb _ h=>.inl h));rcases h with h|h
   ·exact .inr (.inl h)
   ·exact(h1 b h).elim (λh=>.inr (.inr h)) (λh=>by omega)
 ·rintro e w' ⟨rfl,out,-,⟨O,v',Si,h1,h2,h3,h4,h5,h6⟩,U⟩;rw[ζ7]at h4 h5;have hO:O=AQ v1 rs 0:=h4;subst hO;exact⟨rfl,out,v',Si,h1,h2,h3,h5,h6,U⟩
end
section
variable{r:Nat}{c:Cf}
theorem Qj5(hV:AD w S q v)(hR:AR w r g rs)(hT:AP w)(htS:¬S 1)(hrS:¬S r)(hgS:¬S g)(hc:OZ v rs c)(hm:∀a:Nat,c.fr<=a->a<c.tp->v.ldE a=0)(hrs:∀a∈rs,0<=a/\a<=2147483647):
  Calls prog 94 #[pP q,pP r,cfV c] w (YZS w S q r g v rs c):=by
 have HV:=hV.cut;have HR:=hR;have HT:=hT;have D:=(θ htS (θ hrS hgS));have HC:=hc;have HM:=hm;have Jm:=hrs;have Xq:=hc.cf;have Jt:=hV.ok.page;have Zj:=hV.ok;have hn2:=hV.ok.n2;have Jl:=hT.lt;have hrl:=hR.lt;have hto:=Xq.to;have hlm:=Xq.ln;have Jr:=Xq.fr;have Xc:=((Gr.refl w).alloc (.cells #[.int .i64 c.fr,.int .i64 c.tp,.int .i64 c.to,.int .i64 c.lm,.int .i64 c.bk,.int .i64 c.st,.int .i64 c.ah] 143));have rb:=Rec.new w 143 [iI c.fr,iI c.tp,iI c.to,iI c.lm,iI c.bk,iI c.st,iI c.ah];obtain⟨W0,Xy⟩:∃W0,W0=w.alloc (.cells #[.int .i64 c.fr,.int .i64 c.tp,.int .i64 c.to,.int .i64 c.lm,.int .i64 c.bk,.int .i64 c.st,.int .i64 c.ah] 143):=⟨_,rfl⟩;have hsz0:W0.heap.size=w.heap.size+1:=by rw[Xy,β]
 rw[<-Xy]at Xc;rw[show w.alloc (.cells ([.int .i64 c.fr,.int .i64 c.tp,.int .i64 c.to,.int .i64 c.lm,.int .i64 c.bk,.int .i64 c.st,.int .i64 c.ah]:List Value).toArray 143)=W0 from Xy.symm]at rb;have Jv:=rb;have Ja:=(Qwc (HV.gr Xc) (HR.gr Xc) (Xc.tab Jl HT) (λh=>htS h.1) hc);obtain⟨z0,z1,z2,z3,z4,z5,z6,zl⟩:=rb.k7;have Zc:=Xq;have Zg:=Zj;unfold cfV at Ja⊢;clear hV hR hT htS hrS hgS hc hm hrs rb Xq Zj;go_enter func94,ntmps94;go_upto_region 1 with(fail);rw[<-Xy];clear Xy;go_upto_region 4 with(go_at_call 134;refine Ja.mono ?_;rintro e w1 ⟨L,hM,rfl,Yh,Xz⟩;have Yl:=hM;have Yg:=Yh;have Yw:=Xz;have Xp:=(Jv.touch Yh (λh=>by have:=h.2;omega));have Za:=ι ((HR.gr Xc).touch Yh (λh=>D.2.1 h.1) (λh=>D.2.2 h.1));obtain⟨y0,y1,y2,yl⟩:=Xp.k3;clear hM Yh Xz);obtain⟨Jo,Yp⟩:=HC.inn L Yl;obtain⟨nn,Yz⟩:∃nn,nn=sizes L:=⟨_,rfl⟩;have Xu:=ι Yz;rw[<-Yz]at Yp⊢;have Xo:(c.to:Int)+(nn:Int)=((c.to+nn:Nat):Int):=by push_cast;rfl
 have Yv:Hid (Calls prog 117 #[pP q,iI c.to,iI ((c.to:Int)+(nn:Int))] w1 λe w'=>e=.returned (iI (A8 v c.to ((c.to+nn:Nat):Int)))/\AB (AE S w) w1 w'/\G6 w' (plus (AE S w) w1) q v (BN v c.to ((c.to+nn:Nat):Int))):=⟨by
  rw[Xo];by_cases h0:nn=0
  ·subst h0;have hq:=ZY (v:=v) (f:=c.to) Ω;rw[ξo,hq.1,hq.2];refine(YL Yw c.to c.to Ω (ν _)).mono ?_;rintro e w' ⟨rfl,hg⟩;exact⟨rfl,hg.touch _,v,BQ.refl Zg,(Yw.gr hg).mono (λb hb=>.inl hb.1)⟩
  ·refine(P0 Yw c.to (c.to+nn) Ω Ω).mono ?_;rintro e w' ⟨rfl,ht,v',hg,hv⟩
   exact⟨rfl,ht.mono (λb _ hb=>hb.1),v',hg,hv.mono (λb hb=>hb.imp (λh=>h.1) id)⟩⟩
 clear z0 z1 z2 z3 z4 z5 z6 zl Yz Xo;obtain⟨E,hE⟩:∃E,E=A8 v c.to ((c.to+nn:Nat):Int):=⟨_,rfl⟩;have HE:=ι hE;rw[<-hE]at Yv;clear hE;by_cases Yd:E=0
 ·subst Yd;have Ji:=@run_makeMap prog;have hmf:∀(fn:Fn) (first cap:Array Value) (w:World),(Instr.makeFunc fn first cap).run prog w=.ok (.func fn first cap) w:=λ_ _ _ _=>rfl;go_upto_region 8 with(go_at_call 117;refine Yv.o.mono ?_;rintro e w2 ⟨rfl,Xe,Xr⟩;have Yb:=ι Xe;have Ze:=ι Xr;have Xb:=ι (Xp.touch Xe (λh=>by have:=h.2;omega));have Zv:=ι (Za.o.touch Xe (λh=>D.2.1 h.1) (λh=>D.2.2 h.1));have x2:=Xb.o.cc 2;have xl:=Xb.o.lt;clear Xe Xr);obtain⟨v1,Yj,Xz⟩:=Ze.o;rw[Xu.o]at Yj;have hE:=HE.o;rw[Xu.o]at hE;obtain⟨cx,fo⟩:=Z25 Zg HC Yl hE.symm Yj HM;have hz1:=Yg.size;have hz2:=Yb.o.size;have Xa:∀b,AE (plus (AE S w) w1) w2 b->plus S w b/\b<w2.heap.size:=λb hb=>⟨hb.1.elim (λh=>.inl h.1) (λh=>.inr Ω),hb.2⟩
  have Xg:=J7 w2 (.map #[] 0) 209 [pP q,.map (some w2.heap.size),iI c.to];have Xf:Gr w2 ((w2.alloc (.map #[] 0)).alloc (.cells #[.pointer (some ⟨q,0,none⟩),.map (some w2.heap.size),.int .i64 c.to] 209)):=((Gr.refl w2).alloc _).alloc _;have Xi:=(BB.made (P:=prog) (K:=3) w2).gr ((Gr.refl _).alloc (.cells #[.pointer (some ⟨q,0,none⟩),.map (some w2.heap.size),.int .i64 c.to] 209));obtain⟨M,hM⟩:∃M,M=w2.heap.size:=⟨_,rfl⟩;obtain⟨W3,Yk⟩:∃W3,W3=((w2.alloc (.map #[] 0)).alloc (.cells #[.pointer (some ⟨q,0,none⟩),.map (some w2.heap.size),.int .i64 c.to] 209)):=⟨_,rfl⟩;have hsz3:W3.heap.size=M+2:=by rw[Yk,β,β,hM]
  have hMw:w.heap.size<M:=by rw[hM];exact Xb.o.lt
  have hMw2:M<=w2.heap.size/\w2.heap.size<=M:=Ω
  rw[show (w2.alloc (.map #[] 0)).alloc (.cells ([.pointer (some ⟨q,0,none⟩),.map (some w2.heap.size),.int .i64 c.to]:List Value).toArray 209)=W3 from Yk.symm]at Xg;rw[<-Yk]at Xf Xi⊢;rw[<-hM]at Xg Xi Xa⊢;have hr1:=Za.o.lt;have hr2:=Zv.o.lt;have Ym:C3 W3 (AE (plus (AE S w) w1) w2) (M+1) M q v1 c.to [] v1:=⟨by simpa[AI]using Xg,Xi.congr (λy=>by simp[J9]),Xz.cut.gr Xf,λh=>by have:=(Xa _ h).2;omega,λh=>by have:=(Xa _ h).2;omega⟩;have Zb:XC W3 (AE (plus (AE S w) w1) w2) (M+1) M r g:=⟨by omega,by omega,by omega,by omega,by omega,by omega,λh=>(Xa _ h).1.elim D.2.1 (λh=>by omega),λh=>(Xa _ h).1.elim D.2.2 (λh=>by omega)⟩;have Jh:=ι (Q0I Ym cx fo (Zv.o.gr Xf) Jm Zb);have Xv:=ι (θ cx fo);have Yi:=ι Xf;have Yy:=ι Yj;have Zw:=ι Xa;have J:=ι Zb;have Jn:=(Xb.o.gr Xf).cell (j:=2) rfl;have Jx:=(Xb.o.gr Xf).lt;clear Yj Xz cx fo Yk hM Xf Xi Xg Ym Zb Xa x2 xl y0 y1 y2 yl hE;go_upto_region 9 with(go_at_call 135;refine Jh.o.mono ?_;rintro e w4 ⟨rfl,Ys,v',Si,hL⟩;have HL:=ι hL;clear hL)
  have Yr:Hid (∀W' S',AB (λb=>b=g\/(b=M+1\/b=M)\/AE (plus (AE S w) w1) w2 b) W3 W'->Gr W' S'->Rec S' w.heap.size 143 [iI c.fr,iI c.tp,iI c.to,iI c.lm,iI c.bk,iI c.st,iI c.ah]):=⟨λW' S' t g'=>((Xb.o.gr Yi.o).touch t (λh=>by
   have h2:=Xb.o.lt;have h3:=Yi.o.size;rcases h with h|h|h
   ·omega
   ·omega
   ·rcases h.1 with h|h
    ·have:=h.2;omega
    ·omega)).gr g'⟩
  have V:=Yr.o _ _ HL.o.t (Gr.refl _);have u2:=V.cc 2;have ul:=V.lt;clear V Jn Jx Ji;go_wp2
  go_loopw [12] (λs12 wr=>∃(k:Nat) (v':Vm) (Si:Nat->Prop),Hid (CpL W3 wr (AE (plus (AE S w) w1) w2) Si (M+1) M q r g v1 rs Ys L c.to k v')/\s12=iI ((c.to:Int)+AI v1 ((AQ v1 rs k).take k))) (λs12 _=>((c.to:Int)+sizes L+1-intOf s12).toNat)
  case atStart=>exact⟨0,v',Si,HL,by simp[AI]⟩
  case round=>
   obtain⟨k,Xk,Zo,Y,rfl⟩:=hrel;obtain⟨cx,fo⟩:=Xv.o;have O:=Y.o.st.lt;have c2:=Y.o.cat.rc.cc 2;have Xt:=cx.sum Y.o.st.nd Y.o.st.rch;have Zn:=F4 v1 ((AQ v1 rs k).take k);have Zy:=Q9 v1 (AQ v1 rs k) k;have Ya:=cx.top;have Zs:v1.n=v.n:=Yy.o.n;clear u2 ul;by_cases hk:k<(AQ v1 rs k).length
   ·have Zm:=(C9 (cx.mks.sound.rd _ (Y.o.st.rch _ (π hk)))).2.1;have Je:=KB v1 hk;have Zt:=Q9 v1 (AQ v1 rs k) (k+1);have Zl:=ι (ZQS Y.o.cat cx fo Y.o.st hk);have HK:=ι hk;have Jj:Hid (AI v1 ((AQ v1 rs k).take k)+1<=AI v1 ((AQ v1 rs k).take (k+1))):=⟨by omega⟩;obtain⟨aa,Zd⟩:∃aa:Nat,(aa:Int)=c.to+AI v1 ((AQ v1 rs k).take k):=⟨((c.to:Int)+AI v1 ((AQ v1 rs k).take k)).toNat,by omega⟩;obtain⟨tt,Xl⟩:∃tt:Nat,(tt:Int)=c.to+AI v1 (AQ v1 rs k):=⟨((c.to:Int)+AI v1 (AQ v1 rs k)).toNat,by omega⟩;have Jf:=ι Zd;rw[<-Zd]at Zl⊢;rw[<-Xl]at c2;have e0:decide ((aa:Int)<(tt:Int))=true:=κ Ω;have e1:decide (aa<tt)=true:=κ Ω;have HB:=ι (θ Zt Xt);clear hk Zm Je Zt Zd Xl cx fo O Xt Zn Zy Ya Zs;go_wp2_with(go_at_call 137;refine Zl.o.mono ?_;rintro e w5 ⟨v3,rfl,Xs,Zk,Zi⟩;have Xm:=ι Xs;have Js:=ι Zk;have Jp:=ι Zi;clear Xs Zk Zi);go_round
    case rel=>
     have Zu:=YnT HK.o;refine⟨k+1,v3,plus Zo wr,⟨⟨λb hb=>?_,by rw[Zu];exact Js.o,by rw[Zu];exact Jp.o,?_,?_,?_⟩⟩,?_⟩
     ·have:=Y.o.t.size;rcases hb with h|h
      ·exact Y.o.sub b h
      ·right;omega
     ·rw[Y.o.oe];obtain⟨X,hX⟩:=T9 v1 rs k;have Jc:∀a∈AQ v1 rs k++X,Rch v1 rs a:=λa ha=>ZM Xv.o.1 (k+1) a (by rw[hX];exact ha);rw[hX]
      exact(XeB Xv.o.1 Jc (λa ha=>by
       by_cases h0:a=0
       ·exact .inl h0
       ·exact .inr (Zqu v1 rs k a ha h0))).symm
     ·refine Y.o.t.trans' Xm.o (λb hb h=>?_);rcases h with h|h
      ·exact .inr (.inl h)
      ·exact(Y.o.sub b h).elim (λh=>.inr (.inr h)) (λh=>by omega)
     ·refine Y.o.rt.touch Xm.o (λh=>?_) (λh=>?_)
      ·rcases h with(h|h)|h
       ·exact J.o.rK h
       ·exact J.o.rM h
       ·exact(Y.o.sub _ h).elim J.o.rS (λh=>by have:=J.o.r3;omega)
      ·rcases h with(h|h)|h
       ·exact J.o.gK h
       ·exact J.o.gM h
       ·exact(Y.o.sub _ h).elim J.o.gS (λh=>by have:=J.o.g3;omega)
     ·rw[VQN v1 rs k (by have:=HK.o;omega)]
    case measure=>
     have h1:=Jj.o;have h2:=HB.o;have h3:=Jf.o;simp only[intOf];omega
   ·have Yf:k=(AQ v1 rs k).length:=by
     rcases O with h|h
     ·exact absurd h hk
     ·exact h.1
    have Zz:=(cx.done Yf).2;rw[ψh (ξn Yf.symm)];obtain⟨tt,Xl⟩:∃tt:Nat,(tt:Int)=c.to+AI v1 (AQ v1 rs k):=⟨((c.to:Int)+AI v1 (AQ v1 rs k)).toNat,by omega⟩;have Zf:tt=c.to+sizes L:=Ω
    rw[<-Xl]at c2⊢;have e0:decide ((tt:Int)<(tt:Int))=false:=φ Ω;have Xw:Xk.pl.pg=v.pl.pg:=Y.o.st.cp.sm.pg.trans Yy.o.pg;have Yq:=ι (λ(W:World) (g':Gr wr W)=>IJ (Y.o.cat.vm.gr g'));rw[Xw]at Yq;have Zr:=ι (θ Yf (θ Zz Zf));have Jz:Hid (Rec wr (M+1) 209 [pP q,.map (some M),iI tt]):=⟨by have:=Y.o.cat.rc;rw[<-Xl]at this;exact this⟩;obtain⟨pg,Xh⟩:∃pg,pg=v.pl.pg:=⟨_,rfl⟩;have Yc:=ι Xh;have Zq:=Zc.af;have htp:=Zc.tp;have htpn:=Zc.tn;rw[<-Xh]at Yq Jt Zq Jr;obtain⟨q0,Xn⟩:∃q0,q0=c.fr/pg:=⟨_,rfl⟩
    have Yn:q0*pg=c.fr:=by
     have:=ζv c.fr pg;rw[Zq,ζT]at this;rw[Xn];omega
    have Yx:=ι Xn;have g1:((c.fr:Int).tdiv (pg:Int))=(q0:Int):=by rw[Xn];rfl
    have g2:((c.fr:Int)/(pg:Int))=(q0:Int):=by rw[Xn];rfl
    have hpg0:(pg:Int)≠0:=Ω
    have hq0n:q0<=524288:=by have:=ζ1 c.fr pg;omega
    have Jk:=ι Yn;have V:=Yr.o _ _ Y.o.t (Gr.refl _);obtain⟨u0,u1,ul⟩:=V.k2;have Jg:Hid (UmI W3 wr (AE (plus (AE S w) w1) w2) (M+1) M q r g Xk Ys tt q0 0 pg c.tp):=⟨Y.o.t,⟨Zo,Y.o.sub,Y.o.cat.vm,Y.o.cat.nK⟩,Jz.o,Y.o.rt,λi hi=>absurd hi (ζQ _)⟩;have HHK:=ι hk;have Jw:Hid (Xk.pl.pg=pg):=⟨by rw[Xw,Xh]⟩;clear V cx fo O Xt Zn Zy Ya Zs hk Yf Zz Xl Zf Xh Xn Xw Yn Jo Yp;go_upto_region 12 with(fail);obtain⟨Sx,U⟩:∃Sx:World->Prop,Sx=λW'=>W'.cell? ⟨w.heap.size,0,none⟩=some (iI c.fr):=⟨_,rfl⟩;have x1:∀p':AA Sx,p'.w.cell? ⟨w.heap.size,0,none⟩=some (iI c.fr):=λp=>AA.get U p;have Z:Sx wr.drew:=by rw[U];exact u0
    have Jd:=ι U;have I:Inhabited (AA Sx):=⟨⟨_,Z⟩⟩;clear U;refine AW Sx 6 [([0,1,2],3)] [4,5] (by kernel_rfl) (by kernel_rfl) Z ?_;refine AH ?_;simp only[AC,ζ,ξ]
    repeat(go_big_quiet_step (fail))
    refine ψ ?_;go_wp2_with(go_at_call 138;refine(Yq.o _ (Gr.refl wr).drew).mono ?_;rintro e w5 ⟨rfl,rfl⟩);refine⟨.inr (AA.of Z),?_⟩;refine BO ?_;simp only[AC,ζ,ξ]
    repeat(go_big_quiet_step (fail))
    refine ψ ?_;refine ζb ?_;clear x1 Z I;clear Jd Sx;go_wp2
    go_loopw [13] (λs13 wx=>∃j:Nat,Hid (UmI W3 wx (AE (plus (AE S w) w1) w2) (M+1) M q r g Xk Ys tt q0 j pg c.tp)/\s13=iI ((q0+j:Nat):Int)) (λs13 _=>c.tp-(intOf s13).toNat*pg)
    case atStart=>exact⟨0,⟨Jg.o.gr (Gr.refl wr).drew⟩,rfl⟩
    case round=>
     obtain⟨j,HU,rfl⟩:=hrel;clear u0 u1 ul c2;obtain⟨Sj,Zh,Yu,Zp⟩:=HU.o.vm;have V:=Yr.o _ _ HU.o.t (Gr.refl _);have u1:=V.cc 1;have Yt:=IJ (Yu.gr (Gr.refl wr).drew);rw[(LE Xk q0 j).2.1,Jw.o]at Yt;have Yo:=ι Yt;have Zx:=ι Yu;have Xd:=ι (θ Zh Zp);obtain⟨qq,Xx⟩:∃qq,qq=q0+j:=⟨_,rfl⟩;obtain⟨pp,Xj⟩:∃pp,pp=qq*pg:=⟨_,rfl⟩
     have hppb:pp<=1048576:=by
      rcases ζB j with h0|h0
      ·rw[Xj,Xx,h0,ξo,Jk.o];omega
      ·have:=HU.o.q1 (j-1) Ω;have e:pp=(q0+(j-1))*pg+pg:=by rw[Xj,Xx,show q0+j=(q0+(j-1))+1 by omega,ξf,ξx]
       omega
     have hqb:qq<=pp:=by rw[Xj];exact ξY _ Ω
     have hmul:((qq:Int)*(pg:Int))=(pp:Int):=by rw[Xj];push_cast;rfl
     have B:=ι (θ Xx Xj);rw[<-Xx];clear V Yt Yu Zh Zp Xx Xj;by_cases O:pp<c.tp
     ·have e1:decide ((pp:Int)<(c.tp:Int))=true:=κ Ω;have e2:decide (pp<c.tp)=true:=κ O;have Ye:=ι O;have Jy:=ι (λ(W:World) (g':Gr wr W)=>MP (Zx.o.gr g') (qq:Int));clear O;go_upto_region 13 with(fail);obtain⟨Sx,U⟩:∃Sx:World->Prop,Sx=λW'=>W'.cell? ⟨w.heap.size,1,none⟩=some (iI c.tp):=⟨_,rfl⟩;have x1:∀p':AA Sx,p'.w.cell? ⟨w.heap.size,1,none⟩=some (iI c.tp):=λp=>AA.get U p;have Z:Sx wr.drew:=by rw[U];exact u1
      have I:Inhabited (AA Sx):=⟨⟨_,Z⟩⟩;clear U;refine AW Sx 7 [([0,1,4,5],2)] [3,6] (by kernel_rfl) (by kernel_rfl) Z ?_;refine AH ?_;simp only[AC,ζ,ξ]
      repeat(go_big_quiet_step (fail))
      refine ψ ?_;go_wp2_with(go_at_call 138;refine Yo.o.mono ?_;rintro e w5 ⟨rfl,rfl⟩);refine⟨.inr (AA.of Z),?_⟩;refine BO ?_;simp only[AC,ζ,ξ]
      repeat(go_big_quiet_step (fail))
      refine ψ ?_;refine ζb ?_;clear x1 Z I;clear Sx;go_wp2_with(go_at_call 139;refine(Jy.o _ (Gr.refl wr).drew).mono ?_;rintro e w5 ⟨rfl,Xs,Jb⟩;have Xm:=ι Xs;have Ju:=ι Jb;clear Xs Jb);go_round
      case rel=>
       have Ua:=HU.o.t.size;refine⟨j+1,⟨⟨?_,⟨plus Sj wr.drew,λb hb=>?_,?_,λh=>?_⟩,?_,?_,λi hi=>?_⟩⟩,?_⟩
       ·refine(HU.o.t.trans ((Gr.refl wr).drew.touch _)).trans' Xm.o (λb hb h=>?_);exact(Xd.o.1 b h).elim (λh=>.inr (.inr h)) (λh=>by omega)
       ·rcases hb with h|h
        ·exact Xd.o.1 b h
        ·right;exact γ Ua h
       ·have:=Ju.o;rw[B.o.1]at this;exact this
       ·rcases h with h|h
        ·exact Xd.o.2 h
        ·have:=HU.o.rc.lt;exact absurd this (ξe h)
       ·exact(HU.o.rc.gr (Gr.refl wr).drew).touch Xm.o Xd.o.2
       ·refine(HU.o.rt.gr (Gr.refl wr).drew).touch Xm.o (λh=>?_) (λh=>?_)
        ·exact(Xd.o.1 _ h).elim J.o.rS (λh=>by have:=J.o.r3;omega)
        ·exact(Xd.o.1 _ h).elim J.o.gS (λh=>by have:=J.o.g3;omega)
       ·rcases χ i j with h|h
        ·exact HU.o.q1 i h
        ·obtain rfl:i=j:=Ω
         rw[<-B.o.1,<-B.o.2];exact Ye.o
       ·rw[show q0+(j+1)=qq+1 by rw[B.o.1];omega]
        go_num
      case measure=>
       have h1:=Ye.o;have h2:=B.o.2;simp only[intOf];rw[show ((qq:Int)+1).toNat=qq+1 by omega,δ,ξf,ξx,<-h2];omega
     ·have e1:decide ((pp:Int)<(c.tp:Int))=false:=φ Ω;have e2:decide (pp<c.tp)=false:=φ O;have Ye:=ι O;have c2:=HU.o.rc.cc 2;have c2l:=HU.o.rc.lt;clear O;go_upto_region 13 with(fail);obtain⟨Sx,U⟩:∃Sx:World->Prop,Sx=λW'=>W'.cell? ⟨w.heap.size,1,none⟩=some (iI c.tp):=⟨_,rfl⟩;have x1:∀p':AA Sx,p'.w.cell? ⟨w.heap.size,1,none⟩=some (iI c.tp):=λp=>AA.get U p;have Z:Sx wr.drew:=by rw[U];exact u1
      have I:Inhabited (AA Sx):=⟨⟨_,Z⟩⟩;clear U;refine AW Sx 7 [([0,1,4,5],2)] [3,6] (by kernel_rfl) (by kernel_rfl) Z ?_;refine AH ?_;simp only[AC,ζ,ξ]
      repeat(go_big_quiet_step (fail))
      refine ψ ?_;go_wp2_with(go_at_call 138;refine Yo.o.mono ?_;rintro e w5 ⟨rfl,rfl⟩);refine⟨.inr (AA.of Z),?_⟩;refine BO ?_;simp only[AC,ζ,ξ]
      repeat(go_big_quiet_step (fail))
      refine ψ ?_;refine ζb ?_;clear x1 Z I;clear Sx;go_wp2;go_ret2;have hz3:=Yi.o.size;have Jq:AB (λb=>b=g\/S b) w W3:=(((Xc.touch _).trans (Yg.mono (λi _ h=>.inr h.1))).trans (Yb.o.mono (λi _ h=>.inr h.1))).trans (Yi.o.touch _);have hE:=HE.o;rw[Xu.o]at hE;refine⟨L,Yl,?_,.inr ⟨hE.symm,?_,v1,Xk,k,j,⟨Yy.o,Xv.o.1,Xv.o.2,Zr.o.1,Y.o.st,?_,?_⟩,?_,?_⟩⟩
      ·refine(Jq.trans' HU.o.t (λb hb h=>?_)).trans ((Gr.refl wr).drew.touch _);rcases h with h|h|h
       ·exact .inl h
       ·omega
       ·exact(Zw.o b h).1.elim .inr (λh=>by omega)
      ·rw[<-Zr.o.2.2];exact BE rfl rfl
      ·intro i hi;rw[<-Yc.o,<-Yx.o];exact HU.o.q1 i hi
      ·rw[<-Yc.o,<-Yx.o,<-B.o.1,<-B.o.2];have:=Ye.o;omega
      ·rw[<-Yc.o,<-Yx.o];refine(Zx.o.gr (Gr.refl wr).drew).mono (λb hb=>?_);exact(Xd.o.1 b hb).elim (λh=>(Zw.o b h).1) (λh=>.inr Ω)
      ·rw[<-Y.o.oe];exact HU.o.rt.gr (Gr.refl wr).drew
 ·have d0:(E !=0)=true:=by simpa using Yd
  go_wp2_with(go_at_call 117;refine Yv.o.mono ?_;rintro e w2 ⟨rfl,Xe,Xr⟩;have Yb:=ι Xe;have Ze:=ι Xr;clear Xe Xr);go_ret2;refine⟨L,Yl,?_,.inl ⟨?_,?_,?_,?_⟩⟩
  ·exact(((Xc.touch _).trans (Yg.mono (λi _ h=>.inr h.1))).trans (Yb.o.mono (λi _ h=>.inr h.1)))
  ·rw[<-Xu.o,<-HE.o];exact Yd
  ·rw[<-Xu.o,<-HE.o];exact BE rfl rfl
  ·have hF:BN v c.to ((c.to+nn:Nat):Int)=[]:=by unfold BN;rw[ϑ (λh=>Yd (HE.o.trans h.1))]
   obtain⟨v',hg,hv⟩:=Ze.o;rw[hF]at hg;have:=Yg.size;exact⟨v',hg,hv.mono (λb hb=>hb.elim (λh=>.inl h.1) (λh=>.inr Ω))⟩
  ·exact Za.o.touch Yb.o (λh=>D.2.1 h.1) (λh=>D.2.2 h.1)
end
end Go.Proofs.YtggjoonlcjjgkaaGreatDoor
