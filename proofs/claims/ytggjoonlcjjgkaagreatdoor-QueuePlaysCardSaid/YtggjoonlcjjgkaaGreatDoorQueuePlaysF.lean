/- Part 6 of what QueuePlays leans on: my own lemmas, merged by shake.py. -/
import Derived.Test.YtggjoonlcjjgkaaGreatDoorQueuePlaysE
import Derived.Deep.LoopGhost
namespace Go.Proofs.YtggjoonlcjjgkaaGreatDoor
open _root_.Go.Proofs.Tryz
set_option maxHeartbeats 6400000
set_option maxRecDepth 100000
open Go.RowKit
variable{lb:Array Value}{b lost':Bool}{a r vi:Int}{X:Int->Prop}{O l rs st':List Int}{L:List Ob}{s:MkS}{K M R b12 b5 cp f g j k m n q to:Nat}{G S S3 SV SW:Nat->Prop}{A:Option Addr}{z:Sp}{α σ:Type}{u u':Value}{v v1:Vm}{w w' w3:World}
section
variable{F:Fence}{P:Program}
def VH(K:Nat)(F:Fence)(n:Nat)(P:Program)(g:Nat)(lb:Array Value)(encs:α->Array Value)(Inv:σ->World->Prop)(gives:σ->α->Prop)(next:σ->α->σ->Prop)(fin:σ->Prop)(s0:σ)(w:World):Prop:=
 ∀(l:Nat) (J:σ->World->Prop) (Jx:World->Prop) (W:World),Gr w W->(∀s A B,J s A->AB (λk=>W.heap.size<=k/\k<W.heap.size+K) A B->J s B)->(∀A B,Jx A->AB (λk=>W.heap.size<=k/\k<W.heap.size+K) A B->Jx B)->(∀s A,J s A->Inv s A) →
  (∀s x W1,J s W1->W.heap.size+K<=W1.heap.size->gives s x->YieldAt F (n-1) P l (encs x) W1 λe W'=>((e=.returned (.bool true)/\∃s',next s x s'/\J s' W')\/(e=.returned (.bool false)/\Jx W'))/\AB (λk=>k<W.heap.size\/W.heap.size+K<=k) W1 W') →
  J s0 W->CallsIn F n P g (#[.func (.yield l) #[] #[]]++lb) W λe W'=>(∃v,e=.returned v)/\((∃s,fin s/\J s W')\/Jx W')
def Y3E(B K:Nat)(I:σ->World->Prop)(Ix:Code->World->Prop)(next:σ->α->σ->Prop)(s:σ)(x:α)(W:World):Exit->Act->World->Prop
 | .normal,_,W'=>AB (λk=>k<B\/B+K<=k) W W'/\∃s',next s x s'/\I s' W'
 | .ret,_,W'=>AB (λk=>k<B\/B+K<=k) W W'/\Ix .ret W'
 | .exit id,_,W'=>AB (λk=>k<B\/B+K<=k) W W'/\Ix (.exit id) W'
 | .goto t,_,W'=>AB (λk=>k<B\/B+K<=k) W W'/\Ix (.goto t) W'
 | _,_,_=>False
theorem MV.toU{encs:α->Array Value}{Inv:σ->World->Prop}{gives:σ->α->Prop}{next:σ->α->σ->Prop}{fin:σ->Prop}{s0:σ}(h:MV F n P g lb encs Inv gives next fin s0 w):VH 0 F n P g lb encs Inv gives next fin s0 w:=by
 intro l J Jx W hg hJ Z hI hY h0;refine h l (λs A=>J s A/\W.heap.size<=A.heap.size) Jx W hg (λs A B hs hAB=>⟨hJ s A B hs.1 (hAB.touch _),γ hs.2 hAB.size⟩) (λA B hs hAB=>Z A B hs (hAB.touch _)) (λs A hs=>hI s A hs.1) ?_ ⟨h0,ϑ _⟩ |>.mono ?_
 ·rintro s x W1 ⟨hs,Y⟩ hx;refine(hY s x W1 hs Y hx).mono ?_;rintro e W' ⟨⟨he,s',hn,U⟩|⟨he,hx'⟩,ht⟩
  ·exact .inl ⟨he,s',hn,U,γ Y ht.size⟩
  simp_all
 grind
theorem LU{g:Operand}{ps:Array Tmp}{assign body:Code}{Q:Exit->Act->World->Prop}{a:Act}
  (hro:F.round=none) (h1:1<=n) {gf:Nat}  (hg:a.eval g=.func (.func gf) #[] lb) (hFg:F.fn gf) (eg:∀args w,(callFunc gf args).run P w=.ok (.enter gf args) w)
  {encs:α->Array Value} {Inv:σ->World->Prop} {gives:σ->α->Prop} {next:σ->α->σ->Prop} {fin:σ->Prop} {s0:σ}  (hseq:VH K F (n-1) P gf lb encs Inv gives next fin s0 w)
  (hps:∀x,(encs x).size=ps.size)
  (I:σ->World->Prop) (Ix:Code->World->Prop) (hI:∀s A B,I s A->AB (λk=>w.heap.size<=k/\k<w.heap.size+2+K) A B->I s B) (hIx:∀c A B,Ix c A->AB (λk=>w.heap.size<=k/\k<w.heap.size+2+K) A B->Ix c B)
  (hInv:∀s A,I s A->Inv s A) (h0:I s0 w)
  (hround:∀(l:Nat) (s:σ) (x:α) (W:World),w.heap.size+2+K<=W.heap.size->I s W->gives s x →
   assign.wpIn (F.inRound l) (n-1-1) P (Exit.then (λa' Wa=>Gr W Wa/\∀W2,AB (λk=>k=w.heap.size+1) Wa W2->I s W2->body.wpIn (F.inRound l) (n-1-1) P (Y3E w.heap.size (2+K) I Ix next s x W2) a' W2) (λ_ _ _=>False))
    {tmps:=(ps.zip (encs x)).foldl (λt (p,v)=>t.setIfInBounds p v) a.tmps,defers:=[]} W)
  (hdone:∀(D:Nat) (s:σ) (W:World),D=w.heap.size->fin s->I s W->W.heap[D]?=some (.deferred (some []))->Q .normal {a with defers:={target:=.collected D,args:=#[]} :: a.defers} W)
  (hstop:∀(D:Nat) (c:Code) (W:World),D=w.heap.size->Ix c W->W.heap[D]?=some (.deferred (some []))->c.wpIn F n P Q {a with defers:={target:=.collected D,args:=#[]} :: a.defers} W):
  (Code.rangeFunc g ps assign body).wpIn F n P Q a w:=by
 refine wpIn_rangeFunc ?_;intro fn Xm;rw[hro];obtain⟨Z,J⟩:∃Z:LoopState->Option Code->Loop,Z=λst pe=>{state:=st,pending:=pe,fn,tmps:=a.tmps,params:=ps,assign,body,defers:=w.heap.size}:=⟨_,rfl⟩;obtain⟨W1,Xc⟩:∃W1,(w.alloc (.deferred (some []))).alloc (.loop (Z .ready none))=W1:=⟨_,rfl⟩
 have Xl:W1.heap[w.heap.size+1]?=some (.loop (Z .ready none)):=by
  rw[<-Xc];have:=ξJ (w.alloc (.deferred (some []))) (.loop (Z .ready none));rwa [χ]at this
 have Xo:W1.heap[w.heap.size]?=some (.deferred (some [])):=by
  rw[<-Xc];exact(Below.heap_alloc _ _ _ (by simp)).trans (ξJ w _)
 have Xh:Gr w W1:=by rw[<-Xc];exact((Gr.refl w).alloc _).alloc _
 have tt:∀{A B:World},Gr A B->AB (λk=>w.heap.size<=k/\k<w.heap.size+2+K) A B:=λh=>h.touch _;have Y:∀{A:World} {k:Nat} {o:Obj},A.heap[k]?=some o->k<A.heap.size:=λh=>(ζp.1 h).1
 refine⟨w.heap.size+1,[{target:=.collected w.heap.size,args:=#[]}],W1,{target:=.fn (.func gf) lb,args:=#[.func (.yield (w.heap.size+1)) #[] #[]]},W1,gf,
  #[.func (.yield (w.heap.size + 1)) #[] #[]] ++ lb, W1, ?_, ?_, ?_, ?_, λ_ => h1, ?_⟩
 ·rw[<-Xc,J];exact run_enterLoop_outer _ _ _ _ _
 ·simp only[resolve,hg];simp[go_sem]
 ·intro f' Xf;simp[Target.leads]at Xf;subst Xf;exact hFg
 ·simp[invoke,go_sem,eg]
 ·have hs1:W1.heap.size=w.heap.size+2:=by rw[<-Xc];simp
  refine(hseq (w.heap.size+1)
   (λs W=>I s W/\W.heap[w.heap.size+1]?=some (.loop (Z .ready none))/\W.heap[w.heap.size]?=some (.deferred (some [])))
   (λW=>∃c,Ix c W/\W.heap[w.heap.size+1]?=some (.loop (Z .done (some c)))/\W.heap[w.heap.size]?=some (.deferred (some [])))
   W1 Xh
   (λs A B hs ht=>⟨hI s A B hs.1 (ht.mono (λk _ h=>by omega)),(ht.block _ (Y hs.2.1) Ω).trans hs.2.1,(ht.block _ (Y hs.2.2) Ω).trans hs.2.2⟩)
   (λA B hs ht=>by
    obtain⟨c,hc,hl,hk⟩:=hs
    exact⟨c,hIx c A B hc (ht.mono (λk _ h=>by omega)),(ht.block _ (Y hl) Ω).trans hl,(ht.block _ (Y hk) Ω).trans hk⟩)
   (λs A hs=>hInv s A hs.1) ?_ ⟨hI _ _ _ h0 (tt Xh),Xl,Xo⟩).mono ?_
  ·rintro s x W ⟨hi,hl,hk⟩ hszW Xn;have Xe:w.heap.size+1<W.heap.size:=Y hl;have hy:=run_yield (P:=P) (args:=encs x) hl (by rw[J];exact hps x);rw[J]at hy;refine⟨fn,_,assign,body,hy,roundIn_of_wpIn Xm (wpIn_mono (hround _ s x W Ω hi Xn) ?_)⟩;rintro e a' Wa hp;cases e with
   | normal=>?_
   | _=>exact False.elim hp
   obtain⟨Xb,E⟩:=hp
   replace hl:=(Xb.block Xe).trans hl
   replace hk:=(Xb.block Ω).trans hk
   replace Xe:=Y hl
   replace hi:=hI _ _ _ hi (tt Xb)
   revert E Xb;generalize W=W0;intro Xb E;obtain⟨W,rfl⟩:∃W,W=Wa:=⟨_,rfl⟩;refine⟨_,run_beginRound hl (by rw[J]),?_⟩;have Xj:(W.putObj (w.heap.size+1) (.loop {Z .ready none with state:=.busy})).heap[w.heap.size+1]?=some (.loop {Z .ready none with state:=.busy}):=ξB Xe;have Xg:(W.putObj (w.heap.size+1) (.loop {Z .ready none with state:=.busy})).heap[w.heap.size]?=some (.deferred (some [])):=(ζn Ω).trans hk;refine wpIn_mono (E _ ⟨rfl,rfl,rfl,by simp,λk _ hn=>ζn hn⟩ (hI _ _ _ hi ((DX W (w.heap.size+1) _).mono (λk _ h=>by omega)))) ?_
   have fin:∀(jump:Option Code) (W3:World),AB (λk=>k<w.heap.size\/w.heap.size+(2+K)<=k) (W.putObj (w.heap.size+1) (.loop {Z .ready none with state:=.busy})) W3 →
     (Instr.endRound (w.heap.size+1) jump).run P W3=.ok (.bool jump.isNone) (W3.putObj (w.heap.size+1) (.loop (Z (if jump.isNone then .ready else .done) jump))) ∧
     (W3.putObj (w.heap.size+1) (.loop (Z (if jump.isNone then .ready else .done) jump))).heap[w.heap.size+1]?=some (.loop (Z (if jump.isNone then .ready else .done) jump)) ∧
     (W3.putObj (w.heap.size+1) (.loop (Z (if jump.isNone then .ready else .done) jump))).heap[w.heap.size]?=some (.deferred (some [])):=λjump W3 U=>by
    have Xi:=(U.block _ (Y Xj) Ω).trans Xj;have:=run_endRound (P:=P) jump Xi;rw[J]at this⊢;exact⟨this,ξB (Y Xi),(ζn Ω).trans ((U.block _ (Y Xg) Ω).trans Xg)⟩
   have Xd:∀(o:Obj) (W3:World),AB (λk=>k<w.heap.size\/w.heap.size+(2+K)<=k) (W.putObj (w.heap.size+1) (.loop {Z .ready none with state:=.busy})) W3->AB (λk=>k<W1.heap.size\/W1.heap.size+K<=k) W0 (W3.putObj (w.heap.size+1) o):=λo W3 h3=>
    (((Xb.touch _).trans ((DX W (w.heap.size+1) _).mono (λk _ h=>by omega))).trans (h3.mono (λk _ h=>by omega))).trans ((DX W3 (w.heap.size+1) o).mono (λk _ h=>by omega))
   rintro e a3 W3 hp;cases e with
   | normal=>
    obtain⟨U,s',Xk,Xa⟩:=hp;obtain⟨hr,V,O⟩:=fin none W3 U;exact⟨_,_,hr,.inl ⟨rfl,s',Xk,hI _ _ _ Xa ((DX W3 (w.heap.size+1) _).mono (λk _ h=>by omega)),V,O⟩,Xd _ _ U⟩
   | ret=>
    obtain⟨U,Xa⟩:=hp;obtain⟨hr,V,O⟩:=fin (some .ret) W3 U;exact⟨_,_,hr,.inr ⟨rfl,.ret,hIx _ _ _ Xa ((DX W3 (w.heap.size+1) _).mono (λk _ h=>by omega)),V,O⟩,Xd _ _ U⟩
   | exit id=>
    obtain⟨U,Xa⟩:=hp;obtain⟨hr,V,O⟩:=fin (some (.exit id)) W3 U;exact⟨_,_,hr,.inr ⟨rfl,.exit id,hIx _ _ _ Xa ((DX W3 (w.heap.size+1) _).mono (λk _ h=>by omega)),V,O⟩,Xd _ _ U⟩
   | goto t=>
    obtain⟨U,Xa⟩:=hp;obtain⟨hr,V,O⟩:=fin (some (.goto t)) W3 U;exact⟨_,_,hr,.inr ⟨rfl,.goto t,hIx _ _ _ Xa ((DX W3 (w.heap.size+1) _).mono (λk _ h=>by omega)),V,O⟩,Xd _ _ U⟩
   | panic ch=>exact hp.elim
   | outgrown=>exact hp.elim
  ·rintro e W2 ⟨⟨v,rfl⟩,(⟨s,hS,hi,hl,hk⟩|⟨c,hi,hl,hk⟩)⟩
   ·exact⟨none,_,by have:=run_endLoop (P:=P) hl (by rw[J];simp);rw[J]at this;exact this,hdone _ s _ rfl hS (hI _ _ _ hi ((DX W2 (w.heap.size+1) _).mono (λk _ h=>by omega))) ((ζn Ω).trans hk)⟩
   ·exact⟨some c,_,by have:=run_endLoop (P:=P) hl (by rw[J];simp);rw[J]at this;exact this,hstop _ c _ rfl (hIx _ _ _ hi ((DX W2 (w.heap.size+1) _).mono (λk _ h=>by omega))) ((ζn Ω).trans hk)⟩
end
open Go.Shelf Word
section
attribute [local go_sem] Oper.semAt_some
theorem OY(n':Nat)(box m p1 b1 p2 b2 n:Nat)(L:List Ob)(w:World):
  VH 4 Fence.wide n' prog 187 #[pP box] GQ (Zxj box m p1 b1 p2 b2 n L) (EU L) (λj _ j'=>j'=j+1) (λj=>j=L.length) 0 w:=by
 intro l J Jx W hg hJ Xm hI hY h0;refine τ.2 ((τ (n:=5)).1 ?_);refine callsIn_of_wp_marks func187 rfl trivial ?_ rfl;have O:=hI _ _ h0;have c0:=O.2.2.1;have k0:=O.1.c0;have Xy:=h0;have Xn:=hI;simp only[ntmps187,ζT,ζB,ζX,Nat.reduceAdd,Nat.reduceSub,ζL,ζK,ζZ,ζR,ζU,ζr];have hbox:box<W.heap.size:=AT c0;have hmw:=O.1.hm
 gi_wp2_with(first
  | (refine⟨trivial,?_⟩;gi_at_call 122;refine(τ.2 (DU (O.1.gr ((Gr.refl W).alloc _)))).mono ?_;rintro e w1 ⟨rfl,rfl⟩)
  | (refine⟨trivial,?_⟩;gi_at_call 188;refine(τ.2 (Xig (some ⟨p1,0,none⟩))).mono ?_;rintro e w1 ⟨rfl,rfl⟩))
 obtain⟨W0,Xb⟩:∃W0,W0=(W.alloc (.cells #[.func (.yield l) #[] #[]] 118)).alloc (.cells #[.pointer (some ⟨p1,0,none⟩)] 150):=⟨_,rfl⟩;have Ya:Gr W W0:=by rw[Xb];exact((Gr.refl W).alloc _).alloc _
 have hsz0:W0.heap.size=W.heap.size+2:=by rw[Xb];simp
 have bY:W0.cell? ⟨W.heap.size,0,none⟩=some (.func (.yield l) #[] #[]):=by rw[Xb];exact((Boxed.new W _ _).alloc _).cell
 have bV:W0.cell? ⟨W.heap.size+1,0,none⟩=some (pP p1):=by
  rw[Xb];have:=Boxed.new (W.alloc (.cells #[.func (.yield l) #[] #[]] 118)) 150 (pP p1);rw[χ]at this;exact this.cell
 rw[<-Xb];have Y:=O.1.good;have hnb:=O.1.nb;have Xq:J 0 W0:=hJ _ _ _ Xy (Ya.touch _);have Xs:A9 L ((0:Nat):Int)=0:=L8 (ζc _) (λi hi h=>by omega) (λh=>by omega)
 have tI:∀s A B,ME n L J W.heap.size (W.heap.size+1) p1 (.func (.yield l) #[] #[]) s A->AB (λk=>W0.heap.size<=k/\k<W0.heap.size+2+0) A B->ME n L J W.heap.size (W.heap.size+1) p1 (.func (.yield l) #[] #[]) s B:=λs A B h t=>
  ⟨h.st,h.ps,by obtain⟨j,hj,e⟩:=h.j;exact⟨j,hJ _ _ _ hj (t.mono (λk _ h=>by omega)),e⟩,(t.cell (AT h.y) (by show ¬(W0.heap.size<=W.heap.size/\_);omega) 0).trans h.y,(t.cell (AT h.v) (by show ¬(W0.heap.size<=W.heap.size+1/\_);omega) 0).trans h.v⟩
 refine LU (K:=0) (s0:=(B8 n L,0)) rfl Ω (gf:=217) (lb:=#[pP (W.heap.size+1)]) rfl trivial (enters_of func217 (by kernel_rfl) rfl)
  (ZNp _ (W.heap.size+1) p1 b1 n (B8 n L) _).toU (λ_=>rfl)
  (ME n L J W.heap.size (W.heap.size+1) p1 (.func (.yield l) #[] #[])) (λc A=>c=.ret/\Jx A) tI (λc A B h t=>⟨h.1,Xm _ _ h.2 (t.mono (λk _ h=>by omega))⟩)
  (λs A h=>by
   obtain⟨j,hj,-⟩:=h.j;have hi:=Xn _ _ hj
   exact⟨by rw[h.st];exact hi.1.v1,by rw[h.st,IN],hi.2.1,h.v,h.ps⟩)
  ⟨rfl,ζc _,⟨0,Xq,Xs⟩,bY,bV⟩ ?round ?done ?stop
 case round=>
  intro lp s x W3 hsz3 Xf Xz;gi_wp2;refine⟨Gr.refl _,λW4 ht4 hI4=>?_⟩;obtain⟨I,Xp,⟨j,hj,U⟩,hy,hv⟩:=hI4;obtain⟨hx,Xj⟩:=Xz;have Xa:=Xn _ _ hj;rw[I]at hx Xj
  have Z:j<L.length:=by
   rcases δ j L.length with h|h
   ·exact h
   ·have:=WQ Y (a:=(s.2:Int)) (by rw[U];omega);omega
  have Xx:x=L[j].1:=by
   have:=(NF Y (a:=(s.2:Int)) (by rw[U];exact Z)).1;rw[hx,this];congr 2
  subst Xx;have Xu:J j W4.drew:=hJ _ _ _ hj ((Gr.refl W4).drew.touch _);have Xl:W.heap.size+4<=W4.drew.heap.size:=by have:=ht4.size;show W.heap.size+4<=W4.heap.size;omega
  obtain⟨fn,tmps,assign,body,Xw,hR⟩:=ZVe (m':=2) (l2:=lp) (hY j L[j] W4.drew Xu Xl (ω Z));have HZ:=(QM (Xa.1.gr (Gr.refl W4).drew) ((Gr.refl W4).drew.tab Xa.2.1.lt Xa.2.1) Z);have cbx:=Xa.2.2.1;have HS:=(ψ I (ψ U Z));clear I U hj Xa hx Xj Xf;dsimp only[GQ]at Xw
  have Xk:=hR.mono (R':=λe W'=>∃bb:Bool,e=.returned (.bool bb)/\((bb=true/\J (j+1) W')\/(bb=false/\Jx W'))/\AB (λk=>k<W.heap.size\/W.heap.size+4<=k) W4.drew W') (by
   rintro e W' ⟨⟨he,s',rfl,Yb⟩|⟨he,hx⟩,ht⟩
   ·exact⟨true,he,.inl ⟨rfl,Yb⟩,ht⟩
   ·exact⟨false,he,.inr ⟨rfl,hx⟩,ht⟩)
  clear hR;gi_wp2;obtain⟨Sx,Xe⟩:∃S:World->Prop,S=λA=>A.cell? ⟨W.heap.size,0,none⟩=some (.func (.yield l) #[] #[]):=⟨_,rfl⟩;have x1:∀p:AA Sx,p.w.cell? ⟨W.heap.size,0,none⟩=some (.func (.yield l) #[] #[]):=λp=>AA.get Xe p;have E:Sx W4.drew:=by rw[Xe];exact hy
  have Xh:=ι Xe;clear Xe;have Xr:Inhabited (AA Sx):=⟨⟨_,E⟩⟩;refine GG Sx 7 [([0,1,3],2),([],4),([],5)] [6] (λ_=>trivial) E ?_;refine DW ?_;gi_wp2;refine⟨.inr (AA.of E),?_⟩;refine NR ?_;simp only[AF,ν,π];refine ζb ?_;gi_wp2_with(refine⟨trivial,?_⟩;gi_at_call 189;refine(CallsIn.inRound lp (τ.2 HZ)).mono ?_;rintro e w' ⟨rfl,rfl⟩);refine⟨.inr (AA.of E),?_⟩;refine NR ?_;simp only[AF,ν,π];refine ζb ?_;gi_wp2;refine Xk.mono ?_;rintro e W5 ⟨bb,rfl,Xc,Xd⟩;have Xo:=(Xd.cell (AT hy) (by show ¬(W.heap.size<W.heap.size\/W.heap.size+4<=W.heap.size);omega) 0).trans hy;have Xt:=(Xd.cell (AT hv) (by show ¬(W.heap.size+1<W.heap.size\/W.heap.size+4<=W.heap.size+1);omega) 0).trans hv;gi_wp2;refine⟨.inr (AA.of (by rw[Xh.o];exact Xo)),?_⟩;refine GB ?_;have T5:=(((Gr.refl W4).drew.touch (λk=>k<W0.heap.size\/W0.heap.size+(2+0)<=k)).trans (Xd.mono (λk _ h=>by omega)));have Xv:=(Y.sz _ (μ Z));clear x1 E Xh Xr Xk Xd;clear Sx;cases bb with
  | true=>
   have Xg:J (j+1) W5:=by
    rcases Xc with⟨_,h⟩|⟨h,_⟩
    ·exact h
    ·cases h
   clear Xc;gi_wp2;exact⟨T5,(B8 n L,L[j].1+1),rfl,rfl,by have:=Xv;show L[j].1+1<=n;omega,⟨j+1,Xg,by have:=ZjB Y Z;push_cast;exact this⟩,Xo,Xt⟩
  | false=>
   have Xg:Jx W5:=by
    rcases Xc with⟨h,_⟩|⟨_,h⟩
    ·cases h
    ·exact h
   clear Xc;gi_wp2;exact⟨T5,rfl,Xg⟩
 case done=>
  rintro D s W3 hD V Xf hK;obtain⟨I,Xp,⟨j,hj,U⟩,hy,hv⟩:=Xf
  have Z:¬j<L.length:=λh=>by
   have:=NF Y (a:=(s.2:Int)) (by rw[U];exact h);unfold UT at V;rw[I]at V;exact V this.2
  have Xi:j=L.length:=by have:=OC L (s.2:Int);omega
  have HE:=(ψ Xi hj);have HD:=hD;clear I Xp U hy hv V Xi hj hD Z;gi_wp2;refine⟨by simp,.inl ⟨_,_,rfl,run_takeDeferred hK,?_⟩⟩;refine⟨.tuple #[],ζk rfl _ _ _,⟨_,rfl⟩,.inl ⟨j,HE.1,hJ _ _ _ HE.2 ((DX W3 D _).mono (λk _ h=>by have:=HD;omega))⟩⟩
 case stop=>
  rintro D c W3 hD ⟨rfl,hx⟩ hK;have hK:=hK;have HD:=hD;clear hK hD;gi_wp2;refine⟨by simp,.inl ⟨_,_,rfl,run_takeDeferred hK,?_⟩⟩;refine⟨.tuple #[],ζk rfl _ _ _,⟨_,rfl⟩,.inr (Xm _ _ hx ((DX W3 D _).mono (λk _ h=>by have:=HD;omega)))⟩
end
structure MkC where
 k:Nat
 z:Sp
 m:Nat
 p1:Nat
 b1:Nat
 p2:Nat
 b2:Nat
 n:Nat
 g:Nat
 R:Nat
 wk:Nat
 B:Nat
variable{c:MkC}
def MkC.T(c:MkC)(G:Nat->Prop)(i:Nat):Prop:=i=c.k\/AN c.m c.b1 c.b2 i\/G i
structure DK(c:MkC)(SV G SW:Nat->Prop):Prop where
 sv':∀i,SV i->i<c.B/\¬c.T G i
 sw':∀i,SW i->i<c.B/\¬c.T G i
 tab':1<c.B/\¬c.T G 1
 p1':c.p1<c.B/\¬c.T G c.p1
 p2':c.p2<c.B/\¬c.T G c.p2
 k1:¬AN c.m c.b1 c.b2 c.k
 k2:¬G c.k
 kB:c.k<c.B
 mg:∀i,AN c.m c.b1 c.b2 i->¬G i
 mB:∀i,AN c.m c.b1 c.b2 i->i<c.B
 sd':∀i,c.z.D i->i<c.B/\¬c.T G i
theorem DK.sv(h:DK c SV G SW):∀i,SV i->¬c.T G i:=λi hi=>(h.sv' i hi).2
theorem DK.sw(h:DK c SV G SW):∀i,SW i->¬c.T G i:=λi hi=>(h.sw' i hi).2
theorem DK.sd(h:DK c SV G SW):∀i,c.z.D i->¬c.T G i:=λi hi=>(h.sd' i hi).2
theorem MkC.vm(hz:c.z.Ok)(hs:DK c SV G SW){T':Nat->Prop}(h:c.z.I v SV w)(t:AB T' w w')(hT:∀i,T' i->c.T G i):c.z.I v SV w':=hz.fr h t (λk _ hk=>⟨λh=>hs.sv k h (hT k hk),λh=>hs.sd k h (hT k hk)⟩) (λ_ h=>h)
theorem DK.tab(h:DK c SV G SW):¬c.T G 1:=h.tab'.2
theorem DK.p1(h:DK c SV G SW):¬c.T G c.p1:=h.p1'.2
theorem DK.p2(h:DK c SV G SW):¬c.T G c.p2:=h.p2'.2
theorem DK.plus(h:DK c SV G SW){w:World}(hw:c.B<=w.heap.size):DK c SV (plus G w) SW:=by
 have Y:∀i,i<c.B/\¬c.T G i->i<c.B/\¬c.T (Go.Proofs.YtggjoonlcjjgkaaGreatDoor.plus G w) i:=λi hi=>⟨hi.1,λht=>by
  rcases ht with h1|h1|h1|h1
  ·exact hi.2 (.inl h1)
  ·exact hi.2 (.inr (.inl h1))
  ·exact hi.2 (.inr (.inr h1))
  ·omega⟩
 exact⟨λi hi=>Y i (h.sv' i hi),λi hi=>Y i (h.sw' i hi),Y _ h.tab',Y _ h.p1',Y _ h.p2',h.k1,λh1=>h1.elim h.k2 (λh2=>by have:=h.kB;omega),h.kB,λi hi h1=>h1.elim (h.mg i hi) (λh2=>by have:=h.mB i hi;omega),h.mB,λi hi=>Y i (h.sd' i hi)⟩
def JC(c:MkC)(L:List Ob)(r vi:Int):List Value:=[c.z.v,pP c.m,pP c.g,pP c.wk,iI (L.length:Nat),iI (sizes L:Nat),iI r,iI vi]
structure A4(w:World)(SV G SW:Nat->Prop)(c:MkC)(v:Vm)(s:MkS)(r vi:Int):Prop where
 vm:c.z.I v SV w
 ext:Ext w c.m c.p1 c.b1 c.p2 c.b2 c.n s.L
 stk:CA w G c.g s.st c.R s.lost
 wk:CW w SW c.wk c.z.v []
 row:Rec w c.k 161 (JC c s.L r vi)
 tab:AQ w
 sep:DK c SV G SW
 bB:c.B<=w.heap.size
 zk:c.z.Ok/\¬c.z.M
theorem A4.gr(h:A4 w SV G SW c v s r vi)(g:Gr w w'):A4 w' SV G SW c v s r vi:=
 ⟨h.zk.1.gr h.vm g,h.ext.gr g,h.stk.gr g,h.wk.gr g,h.row.gr g,g.tab h.tab.lt h.tab,h.sep,γ h.bB g.size,h.zk⟩
theorem A4.set(h:A4 w SV G SW c v s r vi){r' vi':Int}(hj:(JC c s.L r vi).set j u=JC c s.L r' vi'):A4 (w.setCell ⟨c.k,j,none⟩ u) SV G SW c v s r' vi':=by
 have t:AB (λi=>i=c.k) w (w.setCell ⟨c.k,j,none⟩ u):=(AB.refl (λi=>i=c.k) w).setCell (a:=⟨c.k,j,none⟩) (λ_=>rfl) u;have hs:=h.sep;refine⟨MkC.vm h.zk.1 hs h.vm t (λi e=>.inl e),?_,h.stk.touch t (λi hi _ e=>hs.k2 (e▸hi)),h.wk.touch t (λi hi _ e=>hs.sw i hi (.inl e)),hj▸h.row.set j u,t.tab h.tab.lt (λe=>hs.tab (.inl e)) h.tab,hs,γ h.bB t.size,h.zk⟩;exact h.ext.touch t (λe=>hs.k1 (e▸.inl rfl)) (λe=>hs.p1 (.inl e)) (λe=>hs.k1 (e▸.inr (.inl rfl))) (λe=>hs.p2 (.inl e)) (λe=>hs.k1 (e▸.inr (.inr rfl)))
theorem OZ(j:Nat)(u:Value):AB (c.T G) w (w.setCell ⟨c.k,j,none⟩ u):=(AB.refl _ w).setCell (a:=⟨c.k,j,none⟩) (λ_=>.inl rfl) u
def CT(w:World)(SV G SW:Nat->Prop)(c:MkC)(v:Vm)(P:MkS->Int->Int->Prop)(N:Prop)(e:Ending)(w':World):Prop:=
 AB (c.T G) w w'/\((e=.returned (.tuple #[])/\∃s r vi,A4 w' SV (plus G w) SW c v s r vi/\P s r vi)\/(e=.panicked [{v:=H5 25 0,recovered:=false}]/\N/\∃s r vi,A4 w' SV (plus G w) SW c v s r vi))
section
variable{P:MkS->Int->Int->Prop}{N:Prop}
theorem A4.sub{G':Nat->Prop}(h:A4 w SV G SW c v s r vi)(hg:∀i,G i->G' i)(hs:DK c SV G' SW):A4 w SV G' SW c v s r vi:=⟨h.vm,h.ext,h.stk.mono hg,h.wk,h.row,h.tab,hs,h.bB,h.zk⟩
theorem A4.up(h:A4 w' SV G SW c v s r vi)(hw:c.B<=w.heap.size):A4 w' SV (plus G w) SW c v s r vi:=h.sub (λ_ h=>.inl h) (h.sep.plus hw)
theorem A4.back{w0:World}(h:A4 w' SV (plus (plus G w0) w) SW c v s r vi)(hz:w0.heap.size<=w.heap.size)(hs:DK c SV G SW)(hw:c.B<=w0.heap.size):A4 w' SV (plus G w0) SW c v s r vi:=
 h.sub (λ_ h=>h.elim id (λh=>.inr (γ hz h))) (hs.plus hw)
theorem IU{a b d:World}(h:AB (c.T G) a b)(k:AB (c.T (plus G a)) b d):AB (c.T G) a d:=
 h.trans' k (λi hi ht=>by
  rcases ht with h1|h1|h1|h1
  ·exact .inl h1
  ·exact .inr (.inl h1)
  ·exact .inr (.inr h1)
  ·omega)
theorem CT.ok(t:AB (c.T G) w w')(h:A4 w' SV (plus G w) SW c v s r vi)(p:P s r vi):CT w SV G SW c v P N (.returned (.tuple #[])) w':=⟨t,.inl ⟨rfl,s,r,vi,h,p⟩⟩
theorem CT.no(t:AB (c.T G) w w')(h:A4 w' SV (plus G w) SW c v s r vi)(n:N):CT w SV G SW c v P N (.panicked [{v:=H5 25 0,recovered:=false}]) w':=⟨t,.inr ⟨rfl,n,s,r,vi,h⟩⟩
end
theorem VEk(L:List Ob)(o:Ob):sizes (DJ L o)=sizes L+o.2:=by
 induction L with
 | nil=>simp[DJ,sizes]
 | cons q t ih=>
  unfold DJ
  split
  ·simp only[sizes];omega
  ·simp only[sizes,ih];omega
theorem Jqz(h:AP n L)(ha:Hs L a):A1 L a<L.length/\obS L (A1 L a)=a:=by
 obtain⟨o,ho,rfl⟩:=ha;obtain⟨j,hj,rfl⟩:=ζm ho;have hz:=(h.sz _ ho).1;rw[ON h hj (ψi _) Ω]
 grind [JW]
theorem Z8n(hn:¬Hs L a)(hf:A1 L a<L.length):obS L (A1 L a)≠a:=by
 rw[(JW hf).1];exact λe=>hn ⟨_,μ hf,e⟩
theorem CA.set2{i:Nat}(h:CA w G g l R b)(hk:¬G k):CA ((w.setCell ⟨k,i,none⟩ u).setCell ⟨k,j,none⟩ u') G g l R b:=
 (h.touch ((AB.refl (λx=>x=k) w).setCell (a:=⟨k,i,none⟩) (λ_=>rfl) u) (λ_ hx _ e=>hk (e▸hx))).touch ((AB.refl (λx=>x=k) _).setCell (a:=⟨k,j,none⟩) (λ_=>rfl) u') (λ_ hx _ e=>hk (e▸hx))
theorem VNW{z:Int}(he:DA L c.n a z=0):((JC c L r vi).set 4 (iI ((L.length:Nat)+1))).set 5 (iI ((sizes L:Nat)+z))=JC c (C2 L c.n a z) r vi:=by
 have hz:=(YLm he).1;have h1:=ZoS he;have h2:sizes (C2 L c.n a z)=sizes L+z.toNat:=by unfold C2;rw[θ he,VEk]
 unfold JC
 grind
theorem A4.pushed{w4 w5:World}(h:A4 w SV G SW c v s r vi){L':List Ob}(t4:AB (AN c.m c.b1 c.b2) w w4)(x4:Ext w4 c.m c.p1 c.b1 c.p2 c.b2 c.n L')
  (t5:AB G ((w4.setCell ⟨c.k,4,none⟩ u).setCell ⟨c.k,5,none⟩ u') w5) (s5:CA w5 (plus G ((w4.setCell ⟨c.k,4,none⟩ u).setCell ⟨c.k,5,none⟩ u')) c.g st' c.R lost') (hm:((JC c s.L r vi).set 4 u).set 5 u'=JC c L' r vi):
  A4 w5 SV (plus G w) SW c v ⟨L',st',lost'⟩ r vi/\AB (c.T G) w w5:=by
 have hs:=h.sep
 have tk:AB (λi=>i=c.k) w4 ((w4.setCell ⟨c.k,4,none⟩ u).setCell ⟨c.k,5,none⟩ u'):=
  ((AB.refl (λi=>i=c.k) w4).setCell (a:=⟨c.k,4,none⟩) (λ_=>rfl) u).setCell (a:=⟨c.k,5,none⟩) (λ_=>rfl) u'
 have hz:w.heap.size<=((w4.setCell ⟨c.k,4,none⟩ u).setCell ⟨c.k,5,none⟩ u').heap.size:=γ t4.size tk.size;have Y:¬G c.k:=hs.k2
 refine⟨⟨MkC.vm h.zk.1 hs (MkC.vm h.zk.1 hs (MkC.vm h.zk.1 hs h.vm t4 (λi e=>.inr (.inl e))) tk (λi e=>.inl e)) t5 (λi e=>.inr (.inr e)),?_,s5.mono (λi hi=>hi.imp id (λh'=>γ hz h')),((h.wk.touch t4 (λi hi _ e=>hs.sw i hi (.inr (.inl e)))).touch tk (λi hi _ e=>hs.sw i hi (.inl e))).touch t5 (λi hi _ e=>hs.sw i hi (.inr (.inr e))),
   (hm▸((h.row.touch t4 hs.k1).set 4 u).set 5 u').touch t5 Y,?_,hs.plus h.bB,γ h.bB (γ hz t5.size),h.zk⟩,?_⟩
 ·have e1:=x4.touch tk (λe=>hs.k1 (e▸.inl rfl)) (λe=>hs.p1 (.inl e)) (λe=>hs.k1 (e▸.inr (.inl rfl))) (λe=>hs.p2 (.inl e)) (λe=>hs.k1 (e▸.inr (.inr rfl)));exact e1.touch t5 (hs.mg _ (.inl rfl)) (λe=>hs.p1 (.inr (.inr e))) (hs.mg _ (.inr (.inl rfl))) (λe=>hs.p2 (.inr (.inr e))) (hs.mg _ (.inr (.inr rfl)))
 ·have a1:=t4.tab h.tab.lt (λe=>hs.tab (.inr (.inl e))) h.tab;have a2:=tk.tab a1.lt (λe=>hs.tab (.inl e)) a1;exact t5.tab a2.lt (λe=>hs.tab (.inr (.inr e))) a2
 ·exact((t4.mono (λi _ hi=>.inr (.inl hi))).trans (tk.mono (λi _ hi=>.inl hi))).trans (t5.mono (λi _ hi=>.inr (.inr hi)))
theorem RC(w:World)(k:Nat):cQ 176 #[pP k,.bool true] w (.tuple #[]):=by
 go_enter func176,ntmps176;go_wp2;refine ζt (ζk rfl _ _ _) rfl ?_
 simp_all
theorem WT(h:A4 w SV G SW c v s r vi):Calls prog 176 #[pP c.k,.bool false] w λe w'=>e=.panicked [{v:=H5 25 0,recovered:=false}]/\w=w':=by
 have c3:=h.row.cc 3;have HF:=(Y3 h.zk.1.nn h.wk 25 0);go_enter func176,ntmps176;go_wp2_with(go_at_call 154;refine HF.mono ?_;rintro e w1 ⟨rfl,rfl⟩);exact⟨rfl,rfl,rfl⟩
def Sp.Rd(z:Sp)(v:Vm)(a:Int):Prop:=(0<a->z.P a)/\∀i:Int,v.plE a i 1=0->z.P (a+1+i)
def XLt(s:MkS)(v:Vm)(rs:List Int)(c:MkC)(X:Int->Prop)(a r vi:Int)(s':MkS)(r' vi':Int):Prop:=CD v rs c.n c.R X s'/\DN s s'/\(a≠0->Hs s'.L a)/\r'=r/\vi'=vi
theorem VVL(h:A4 w SV G SW c v s r vi)(hp:∀a,Rch v rs a->c.z.Rd v a)(hi:CD v rs c.n c.R X s)(ha:a≠0->Rch v rs a):Calls prog 126 #[pP c.k,iI a] w (CT w SV G SW c v (XLt s v rs c X a r vi) (¬CH v rs c.n)):=by
 have H:=h;have HI:=hi;by_cases h0:a=0
 ·subst h0;clear h hi ha hp;go_enter func126,ntmps126;go_wp2;refine ζt (ζk rfl _ _ _) rfl ?_;exact CT.ok (AB.refl _ _) (H.up H.bB) ⟨HI,DN.refl _,λh=>absurd rfl h,rfl,rfl⟩
 ·have hR:=ha h0;have HR:=hR;have d0:(a==0)=false:=by simpa using h0
  have c0:=h.row.cc 0;have c1:=h.row.cc 1;unfold Sp.v at c0;have E:=(KH h.ext h.tab a);unfold GI at E;have B:=hi.mkd.good;by_cases hs:Hs s.L a
  ·obtain⟨f1,f2⟩:=Jqz B hs;rw[f2,ξ f1]at E;have HS:=hs;clear h hi ha hp h0 hR hs B f1 f2;go_enter func126,ntmps126;go_wp2_with(go_at_call 168;refine E.mono ?_;rintro e w1 ⟨rfl,rfl⟩);refine ζt (ζk rfl _ _ _) rfl ?_;exact CT.ok (AB.refl _ _) (H.up H.bB) ⟨HI,DN.refl _,λ_=>HS,rfl,rfl⟩
  ·have Xf:=(λhf=>Z8n hs hf);have Yd:=hs;obtain⟨st,Xi⟩:∃st,st=obS s.L (A1 s.L a):=⟨_,rfl⟩;obtain⟨sz,Xj⟩:∃sz,sz=obZ s.L (A1 s.L a):=⟨_,rfl⟩;obtain⟨fb,Xh⟩:∃fb,fb=decide (A1 s.L a<s.L.length):=⟨_,rfl⟩;rw[<-Xi,<-Xj,<-Xh]at E;rw[<-Xi]at Xf;have Xk:=Xh
   have Xp:fb=false\/(fb=true/\(st==a)=false):=by
    cases hb:fb with
    | false=>exact .inl rfl
    | true=>exact .inr ⟨rfl,by have:=Xf (of_decide_eq_true (Xk.symm.trans hb));simpa using this⟩
   have V:=(λW (g:Gr w W)=>(NC h.zk.1 (h.zk.1.gr h.vm g) a (hp a hR).1).mono λ_ _ hh=>ψ hh.1 (hh.2.ro h.zk.2));unfold Sp.v at V;have Yh:s.L.length<=1048576:=γ B.len h.ext.nb.2;have Yc:sizes s.L<=1048576:=γ (FW B) h.ext.nb.2;by_cases hE:v.rdE a=0
   ·have HE:=hE;obtain⟨-,-,p,f,k,hh,Xs⟩:=F5 hE;have Xc:=DH hE;have Xg:=(λW=>LM ⟨p,f,k⟩ W);have ho:v.osz a=CE ⟨p,f,k⟩:=by unfold Vm.osz;rw[hh]
    rw[<-ho]at Xg;rw[hE,hh]at V;unfold AJ at V Xg;obtain⟨z,hz⟩:∃z,z=v.osz a:=⟨_,rfl⟩;rw[<-hz]at Xg Xc;have HZ:=ι hz;have Xm:=ι (λW (g:Gr w W)=>Zc1 (h.ext.gr g) (g.tab h.tab.lt h.tab) a z);unfold VJ at Xm;have Y:=h.sep;have Yg:=ι (λ(W W':World) (g:Gr w W) (t:AB (AN c.m c.b1 c.b2) W W') (x:Ext W' c.m c.p1 c.b1 c.p2 c.b2 c.n s.L)=>(⟨MkC.vm h.zk.1 Y (h.zk.1.gr h.vm g) t (λi e=>.inr (.inl e)),x,(h.stk.gr g).touch t (λi hi _ e=>Y.mg i e hi),(h.wk.gr g).touch t (λi hi _ e=>Y.sw i hi (.inr (.inl e))),(h.row.gr g).touch t Y.k1,t.tab (g.tab h.tab.lt h.tab).lt (λe=>Y.tab (.inr (.inl e))) (g.tab h.tab.lt h.tab),Y,γ h.bB (γ g.size t.size),h.zk⟩:A4 W' SV G SW c v s r vi));by_cases hA:DA s.L c.n a z=0
    ·have HA:=ι hA;rw[hA]at Xm;have Xr:=ι (VNW (c:=c) (r:=r) (vi:=vi) hA);have Xt:=h.sep.k2;have Ya:=ι Xt;have Xy:=ι (hi.push hR hE (by rw[<-hz];exact hA));rw[<-hz]at Xy;have hz1:1<=z:=Xc.2.1;have hz2:z<=256:=Xc.2.2;obtain⟨LN,Xn⟩:∃LN:Nat,LN=s.L.length:=⟨_,rfl⟩;obtain⟨SN,Xo⟩:∃SN:Nat,SN=sizes s.L:=⟨_,rfl⟩;rw[<-Xn]at Yh Xr;rw[<-Xo]at Yc Xr;have Z:=ι (ψ Xn Xo);clear h hi ha hp h0 hR hs B Xi Xj Xh hE Xf Xk hh Xs ho hz hA Y Xt Xc Xn Xo;rcases Xp with rfl|⟨rfl,d3⟩
     all_goals
      go_enter func126,ntmps126
      go_wp2_with(first
       | (go_at_call 168;refine E.mono ?_;rintro e w1 ⟨rfl,rfl⟩)
       | (go_at_call 104;refine(V _ (Gr.refl _)).mono ?_;rintro e w1 ⟨rfl,O⟩;have J:=ι (O.alloc (.cells #[.int .i64 p,.int .i64 f,.int .i64 k] 72));clear O)
       | (go_at_call 176;(with_reducible refine(RC _ _).mono ?_);rintro e w2 ⟨rfl,rfl⟩)
       | (go_at_call 69;refine(Xg _).mono ?_;rintro e w3 ⟨rfl,Xb⟩;have I:=ι (J.o.trans Xb);have Ye:=(H.gr (J.o.trans Xb)).row.cell (j:=1) rfl;clear Xb)
       | (go_at_call 177;refine(Xm.o _ I.o).mono ?_;rintro e w4 ⟨rfl,U,Xd⟩;have Xz:=ι Xd;have Xq:=ι U;have Xe:=ι (H.gr I.o);have Xl:=ι (Xe.o.row.touch U Xe.o.sep.k1);have y2:=Xl.o.cc 2;have y4:=Xl.o.cc 4;have y5:=Xl.o.cc 5;have yf:=Xl.o.free;have Yb:=ι (Xe.o.stk.touch U (λi hi _ e=>Xe.o.sep.mg i e hi));rw[<-Z.o.1]at y4;rw[<-Z.o.2]at y5;clear U Xd)
       | (go_at_call 178;refine(Y4L (Yb.o.set2 Ya.o) a).mono ?_;intro e w5 hp;have Yf:(∃b,e=.returned (.bool b)):=by {rcases hp with⟨_,rfl,_⟩|⟨_,rfl,_⟩ <;> exact⟨_,rfl⟩};have HP:=ι hp;obtain⟨pb,rfl⟩:=Yf;clear hp))
      refine ζt (ζk rfl _ _ _) rfl ?_;have Xv:=Xr.o;rw[Z.o.1,Z.o.2]at Xv
      have Xw:∀st' lost',s.push c.R (C2 s.L c.n a z) a=⟨C2 s.L c.n a z,st',lost'⟩->AB G ((w4.setCell ⟨c.k,4,none⟩ (.int .i64 ((s.L.length:Nat)+1))).setCell ⟨c.k,5,none⟩ (.int .i64 ((sizes s.L:Nat)+z))) w5/\CA w5 (plus G ((w4.setCell ⟨c.k,4,none⟩ (.int .i64 ((s.L.length:Nat)+1))).setCell ⟨c.k,5,none⟩ (.int .i64 ((sizes s.L:Nat)+z)))) c.g st' c.R lost'->CT w SV G SW c v (XLt s v rs c X a r vi) (¬CH v rs c.n) (.returned (.tuple #[])) w5:=λst' lost' hpe ⟨Xa,D⟩=>by
       obtain⟨q1,q2,q3⟩:=Xy.o;rw[hpe]at q1 q2 q3;obtain⟨m5,t5⟩:=Xe.o.pushed Xq.o Xz.o Xa D Xv;exact CT.ok ((I.o.touch _).trans t5) (m5.sub (λi hi=>hi.imp id (λh'=>γ I.o.size h')) (H.sep.plus H.bB)) ⟨q1,q2,λ_=>q3,rfl,rfl⟩
      rcases HP.o with⟨hf,-,Xa,D⟩|⟨hf,-,Xa,D⟩
      ·refine Xw s.st true (φ Ω) ⟨?_,?_⟩
       ·rw[Z.o.1,Z.o.2]at Xa;exact Xa
       ·rw[Z.o.1,Z.o.2]at D;exact D
      ·refine Xw (s.st++[a]) s.lost (θ hf) ⟨?_,?_⟩
       ·rw[Z.o.1,Z.o.2]at Xa;exact Xa
       ·rw[Z.o.1,Z.o.2]at D;exact D
    ·obtain⟨y,hy⟩:∃y,y=DA s.L c.n a z:=⟨_,rfl⟩;have d2:(y==0)=false:=by rw[hy];simpa using hA
     have Xx:=ι hA;have HY:=ι hy;clear h hi ha hp h0 hR hs B Xi Xj Xh hE Xf Xk hh Xs ho hz hA hy Y;rcases Xp with rfl|⟨rfl,d3⟩
     all_goals
      go_enter func126,ntmps126
      go_wp2_with(first
       | (go_at_call 168;refine E.mono ?_;rintro e w1 ⟨rfl,rfl⟩)
       | (go_at_call 104;refine(V _ (Gr.refl _)).mono ?_;rintro e w1 ⟨rfl,O⟩;have J:=ι (O.alloc (.cells #[.int .i64 p,.int .i64 f,.int .i64 k] 72));clear O)
       | (go_at_call 176;(with_reducible refine(WT Xu.o).mono ?_);rintro e w2 ⟨rfl,rfl⟩)
       | (go_at_call 176;(with_reducible refine(RC _ _).mono ?_);rintro e w2 ⟨rfl,rfl⟩)
       | (go_at_call 69;refine(Xg _).mono ?_;rintro e w3 ⟨rfl,Xb⟩;have I:=ι (J.o.trans Xb);have Ye:=(H.gr (J.o.trans Xb)).row.cell (j:=1) rfl;clear Xb)
       | (go_at_call 177;refine(Xm.o _ I.o).mono ?_;rintro e w4 ⟨rfl,U,Xd⟩;rw[<-HY.o];have Xq:=ι ((I.o.touch (c.T G)).trans (U.mono (λi _ hi=>.inr (.inl hi))));have Xu:=ι (Yg.o _ _ I.o U (by rw[show C2 s.L c.n a z=s.L from φ Xx.o]at Xd;exact Xd));clear U Xd))
      exact⟨rfl,CT.no Xq.o (Xu.o.up H.bB) (HI.mkd.fail HR Yd (by rw[<-HZ.o];exact Xx.o))⟩
   ·have HE:=hE;obtain⟨y,hy⟩:∃y,y=v.rdE a:=⟨_,rfl⟩;have d2:(y==0)=false:=by rw[hy];simpa using hE
    rw[<-hy]at V;unfold AJ at V;clear h hi ha hp h0 hR hs B Xi Xj Xh hE hy Xf Xk;rcases Xp with rfl|⟨rfl,d3⟩
    all_goals
     go_enter func126,ntmps126
     go_wp2_with(first
      | (go_at_call 168;refine E.mono ?_;rintro e w1 ⟨rfl,rfl⟩)
      | (go_at_call 104;refine(V _ (Gr.refl _)).mono ?_;rintro e w1 ⟨rfl,O⟩;have J:=ι O;clear O)
      | (go_at_call 176;refine(WT (H.gr (J.o.alloc _))).mono ?_;rintro e w2 ⟨rfl,rfl⟩))
     exact⟨rfl,CT.no ((J.o.alloc _).touch _) ((H.gr (J.o.alloc _)).up H.bB) (ZFY HR HE)⟩
def Yr9(s:MkS)(v:Vm)(rs:List Int)(c:MkC)(X:Int->Prop)(a r:Int)(s':MkS)(r' _vi':Int):Prop:=CD v rs c.n c.R X s'/\DN s s'/\Cl v s'.L a/\r'=r
theorem ZUP(h:A4 w SV G SW c v s r vi)(hp:∀a,Rch v rs a->c.z.Rd v a)(hi:CD v rs c.n c.R X s)(ha:Hs s.L a):Calls prog 131 #[pP c.k,iI a] w (CT w SV G SW c v (Yr9 s v rs c X a r) (¬CH v rs c.n)):=by
 have H:=h;have HI:=hi;obtain⟨hR,hE⟩:=hi.mkd.hs ha;obtain⟨-,-,p,f,k,hh,hsm⟩:=F5 hE;have HR:=(ψ hR (ψ hE hh));have Xd:=(hp a hR);have E:=(λW (g:Gr w W)=>(NC h.zk.1 (h.zk.1.gr h.vm g) a (hp a hR).1).mono λ_ _ hh=>ψ hh.1 (hh.2.ro h.zk.2));have HP:=hp;rw[hE,hh]at E;unfold Sp.v AJ at E;have c0:=h.row.cc 0;unfold Sp.v at c0;have HN:=(Rec.new w 72 [iI p,iI f,iI k]);clear h hi ha hp hR hE hh;go_enter func131,ntmps131
 go_wp2_with(first
  | (go_at_call 104;refine(E _ (Gr.refl _)).mono ?_;rintro e w1 ⟨rfl,Xh⟩;have Xi:=(Xh.alloc (.cells #[.int .i64 p,.int .i64 f,.int .i64 k] 72));clear Xh)
  | (go_at_call 176;(with_reducible refine(RC _ _).mono ?_);rintro e w2 ⟨rfl,rfl⟩))
 go_loopw [24] (λs24 wr=>∃(j:Nat) (s':MkS) (r' vi':Int),j<=p/\Hid (A4 wr SV (plus G w) SW c v s' r' vi')/\Hid (AB (c.T G) w wr)/\Hid (CD v rs c.n c.R X s'/\DN s s'/\ClN v s'.L a j/\r'=r)/\s24=iI j) (λs24 _=>p-(intOf s24).toNat)
 case atStart=>exact⟨0,s,r,vi,by omega,⟨(H.gr Xi).up H.bB⟩,⟨Xi.touch _⟩,⟨HI,DN.refl _,λi hi=>by omega,rfl⟩,rfl⟩
 case round=>
  obtain⟨j,s',r',vi',hj,HM,HT,HJ,rfl⟩:=hrel;have k0:=HM.o.row.cc 0;have k7:=HM.o.row.cc 7;have kf:=HM.o.row.free 7;unfold Sp.v at k0;clear c0;by_cases Y:j=p
  ·subst Y;go_wp2;refine ζt (ζk rfl _ _ _) rfl ?_;obtain⟨q1,q2,q3,q4⟩:=HJ.o;exact CT.ok (HT.o.trans (OZ 7 _)) (HM.o.set (r':=r') (vi':=wrap64 (vi' + 1)) rfl) ⟨q1,q2,q3.cl (by rw[HR.2.2];exact ψi _),q4⟩
  ·have Xe:(j:Int)<(p:Int):=Ω
   have J:=((XZ HM.o.zk.1 HM.o.vm a (j:Int) Xd.1 (Xd.2 _)).mono λ_ _ hh=>ψ hh.1 (hh.2.ro HM.o.zk.2));unfold Sp.v at J;have Xf:Hid (v.ptE a j=0->((v.ptV a j:Nat):Int)≠0->Rch v rs (v.ptV a j:Nat)):=⟨λh1 h2=>HR.1.step ⟨HR.2.1,j,by rw[HR.2.2];exact Xe,h1,by omega,rfl⟩⟩;have Xa:=(ψ hj Y);clear hj Y;by_cases U:v.ptE a j=0
   ·have V:=U;rw[U]at J;obtain⟨x,hx⟩:∃x,x=v.ptV a j:=⟨_,rfl⟩;rw[<-hx]at J Xf;have Xl:=ι hx;clear U hx
    go_wp2_with(first
     | (go_at_call 57;refine J.mono ?_;rintro e w2 ⟨rfl,Z⟩;have O:=ι (HM.o.gr Z);have I:=ι (HT.o.trans (Z.touch _));clear Z)
     | (go_at_call 176;(with_reducible refine(RC _ _).mono ?_);rintro e w3 ⟨rfl,rfl⟩)
     | (go_at_call 126;refine(VVL O.o HP HJ.o.1 (Xf.o V)).mono ?_;rintro e w4 ⟨Xb,(⟨rfl,s4,r4,Xk,B,D⟩|⟨rfl,D,s4,r4,Xk,B⟩)⟩ <;> (have Xj:=ι (IU I.o Xb);have Xg:=ι (B.back I.o.size H.sep H.bB);have Xc:=ι D;clear Xb B D)))
    ·go_round
     case rel=>
      obtain⟨q1,q2,q3,q4⟩:=HJ.o;obtain⟨p1,p2,p3,p4,p5⟩:=Xc.o;refine⟨j+1,s4,r4,Xk,by have:=Xa;omega,Xg,Xj,⟨p1,q2.trans p2,(q3.mono p2.sub).succ V (λh0=>?_),p4.trans q4⟩,by go_num⟩;rw[<-Xl.o]at h0⊢;exact p3 Ω
     case measure=>have:=Xa;simp[intOf];omega
    ·exact⟨rfl,CT.no Xj.o Xg.o Xc.o⟩
   ·have V:=U;obtain⟨y,hy⟩:∃y,y=v.ptE a j:=⟨_,rfl⟩;have d2:(y==0)=false:=by rw[hy];simpa using U
    rw[<-hy]at J;clear U hy
    go_wp2_with(first
     | (go_at_call 57;refine J.mono ?_;rintro e w2 ⟨rfl,Z⟩;have O:=ι (HM.o.gr Z);have I:=ι (HT.o.trans (Z.touch _));clear Z)
     | (go_at_call 176;(with_reducible refine(WT O.o).mono ?_);rintro e w3 ⟨rfl,rfl⟩))
    exact⟨rfl,CT.no I.o O.o (J7J HR.1 (by rw[HR.2.2];exact Xe) V)⟩
section
attribute [local go_sem] Oper.semAt_some
def KR(L:List Ob)(j:Nat):List Value:=zs ((L.take j).map λo=>(o.1:Int))
theorem QZB(h:j<L.length):KR L (j+1)=KR L j++[iI (L[j].1:Nat)]:=by
 unfold KR zs
 grind [ζY]
theorem QrH{b b' E size:Nat}{v:Value}{xs:List Value}(h:w.ownsRow b E size v n xs)(hb:b'<=b):w.ownsRow b' E size v n xs:=by
 obtain⟨h1,h2⟩:=h;refine⟨h1,h2.imp id ?_⟩;rintro⟨g,Y,Z,e1,e2,e3⟩;exact⟨g,Y,Z,e1,γ hb e2,e3⟩
structure StI(W0:World)(B:Nat)(L:List Ob)(j:Nat)(A:World):Prop where
 t:AB (λi=>i=B\/W0.heap.size<=i) W0 A
 jl:j<=L.length
 f0:A.frozen? ⟨B,0,none⟩=false
 row:∃vL,A.cell? ⟨B,0,none⟩=some vL/\A.ownsRow (W0.heap.size+6) 3 1 vL j (KR L j)
def JLP(w:World)(L:List Ob)(e:Ending)(w':World):Prop:=∃vL,e=.returned vL/\Gr w w'/\w'.ownsRow w.heap.size 3 1 vL L.length (KR L L.length)
theorem Yde{p1 b1 p2 b2:Nat}(hE:Ext w m p1 b1 p2 b2 n L)(hT:AQ w)(c1:w.cell? ⟨k,1,none⟩=some (pP m)):
  Calls prog 130 #[pP k] w (JLP w L):=by
 have HE:=hE;have HT:=hT;have hkl:=AT c1;refine(τ (n:=5)).1 ?_;refine callsIn_of_wp_marks func130 rfl trivial ?_ rfl;simp only[ntmps130,ζT,ζB,ζX,Nat.reduceAdd,Nat.reduceSub,ζL,ζK,ζZ,ζR,ζU,ζr];gi_wp2_with(refine⟨trivial,?_⟩;gi_at_call 144;refine(τ.2 (J5 (some ⟨m,0,none⟩))).mono ?_;rintro e w1 ⟨rfl,rfl⟩);obtain⟨W2,O⟩:∃W2,W2=w.alloc (.cells #[.slice none 0 0] 61):=⟨_,rfl⟩;have Xl:Boxed W2 w.heap.size 61 (.slice none 0 0):=by rw[O];exact Boxed.new w _ _
 have Xf:Gr w W2:=by rw[O];exact(Gr.refl w).alloc _
 have Xr:W2.heap.size=w.heap.size+1:=by rw[O];simp
 rw[<-O];obtain⟨W0,V⟩:∃W0,W0=W2.alloc (.cells #[.pointer (some ⟨m,0,none⟩)] 93):=⟨_,rfl⟩;have Xc:Gr w W0:=by rw[V];exact Xf.alloc _
 have hsz:W0.heap.size=w.heap.size+2:=by rw[V];simp;omega
 have k1:Boxed W0 w.heap.size 61 (.slice none 0 0):=by rw[V];exact Xl.alloc _
 have k4:W0.cell? ⟨w.heap.size+1,0,none⟩=some (pP m):=by
  rw[V];have:=(Boxed.new W2 93 (pP m)).cell
  rwa [Xr]at this
 rw[<-V];have Z:=HE;have o1:=Z.hm;have o2:=Z.v1.hp;have o3:=Z.v1.hb;have o4:=Z.v2.hp;have o5:=Z.v2.hb;have o6:=HT.lt;have hnb:=Z.nb;have E:=Z.good;have hlen:=E.len;obtain⟨ii,Xi,Xj,Xm,Xo⟩:=info_parts PE
 have tI:∀j A B,StI W0 w.heap.size L j A->AB (λi=>W0.heap.size<=i/\i<W0.heap.size+2+4) A B->StI W0 w.heap.size L j B:=λj A B h t=>by
  have ht:=h.t.size;obtain⟨vL,hc,ho⟩:=h.row;exact⟨h.t.trans (t.mono (λi _ h=>.inr h.1)),h.jl,(t.frozen Ω (by show ¬(W0.heap.size<=w.heap.size/\_);omega) 0).trans h.f0,vL,(t.cell Ω (by show ¬(W0.heap.size<=w.heap.size/\_);omega) 0).trans hc,BV ho t (λg hg h=>by have:=(BE ho hg).1;omega)⟩
 refine LU (K:=4) (s0:=0) rfl Ω (gf:=187) (lb:=#[pP (w.heap.size+1)]) rfl trivial (enters_of func187 (by kernel_rfl) rfl)
  (OY _ (w.heap.size+1) m p1 b1 p2 b2 n L _) (λ_=>rfl)
  (StI W0 w.heap.size L) (λ_ _=>False) tI (λ_ _ _ h _=>h)
  (λj A h=>⟨(HE.gr Xc).touch h.t Ω Ω Ω Ω Ω,(Xc.tab o6 HT).touch' h.t Ω,(h.t.cell Ω Ω 0).trans k4,h.jl⟩)
  ⟨AB.refl _ _,ζc _,k1.frozen,_,k1.cell,GR _ _ _ _⟩ ?round ?done ?stop
 case round=>
  intro lp j x W3 hsz3 J Y;dsimp only[GQ];gi_wp2;refine⟨Gr.refl _,λW4 ht4 hI4=>?_⟩
  have I:j<L.length:=by
   rcases δ j L.length with h|h
   ·exact h
   ·unfold EU at Y;rw[ζJ h]at Y;cases Y
  obtain rfl:x=L[j]:=by unfold EU at Y;rw[ω I]at Y;exact(Option.some.inj Y).symm
  have Xa:=QZB I;obtain⟨y,hy⟩:∃y,y=L[j].1:=⟨_,rfl⟩;rw[<-hy]at Xa⊢;obtain⟨vL,hc,ho⟩:=hI4.row;have Xg:=hI4.f0;have hsz4:W0.heap.size+6<=W4.heap.size:=by have:=ht4.size;omega
  have Xp:=hI4;have HO:=ho;have Xk:=Xa;clear J hI4 Xa hy ho Y ht4;gi_wp2_with(gi_at_builtin;refine wpListIn_append_own _ rfl _ _ 61 rfl (W0.heap.size+6) 3 ii _ 1 8 underlying61 Xi Xj Xm Xo rfl (by decide) _ _ _ rfl (HO.alloc _) ⟨W4.heap.size,0,none⟩ 1 1 [iI (y:Nat)] rfl rfl (cell_one_new _ _ _) (by simp[Value.oneCell']) (by unfold maxLen;omega) Ω (by simp;omega) ?_;intro v' w5 U Xb _;obtain⟨A5,c5,rfl,-,-⟩:=DF U;have t5:AB (λi=>W0.heap.size+6<=i) W4 w5:=((((Gr.refl W4).alloc _).touch _)).trans (EC Xb _ (λi e _=>(BE HO e).1));have Xe:=(t5.cell (b:=w.heap.size) Ω Ω 0).trans hc;have Xh:=(t5.frozen (b:=w.heap.size) Ω Ω 0).trans Xg;have Xd:=U;have Xq:=t5);have tt:AB (λi=>i=w.heap.size\/W0.heap.size+6<=i) W4 (w5.setCell ⟨w.heap.size,0,none⟩ (.slice A5 (j+1) c5)):=(Xq.mono (λi _ h=>.inr h)).setCell (a:=⟨w.heap.size,0,none⟩) (λ_=>.inl rfl) _;refine⟨tt.mono (λi _ h=>by omega),j+1,rfl,⟨Xp.t.trans (tt.mono (λi _ h=>h.imp id (λh=>by omega))),I,by rw[ξa];exact Xh,_,World.cell?_setCell_same' w5 ⟨w.heap.size,0,none⟩ _ (by rw[Xe];rfl),?_⟩⟩;rw[Xk];exact AW Xd _ (λg hg=>by have:=(BE Xd hg).1;omega)
 case done=>
  rintro D j W3 hD rfl J hK;obtain⟨vL,hc,ho⟩:=J.row;have HO:=ho;have HK:=hK;have HD:=hD;have Xn:=J;have hs3:=J.t.size;gi_wp2;refine⟨by simp,.inl ⟨_,_,rfl,run_takeDeferred HK,?_⟩⟩;refine⟨_,results_tmp rfl _ _ _,vL,rfl,(((Xc.touch (λ_=>False)).trans' Xn.t (λi hi h=>by omega)).trans' (DX W3 D _) (λi hi h=>by have:=HD;omega)).gr,?_⟩;exact QrH (BV HO (DX W3 D _) (λg hg h=>by have:=(BE HO hg).1;have:=HD;omega)) Ω
 simp_all
end
def MF(s:MkS)(r vi:Int):Prop:=s.L=[]->r=1/\vi=0
theorem A4.popped{st:List Int}{lost:Bool}(h:A4 w SV G SW c v ⟨L,st,lost⟩ r vi)(t:AB G w w')(s':CA w' G c.g st' c.R lost'):A4 w' SV G SW c v ⟨L,st',lost'⟩ r vi:=by
 have hs:=h.sep;have Y:¬G c.k:=hs.k2;exact⟨MkC.vm h.zk.1 hs h.vm t (λi e=>.inr (.inr e)),h.ext.touch t (hs.mg _ (.inl rfl)) (λe=>hs.p1 (.inr (.inr e))) (hs.mg _ (.inr (.inl rfl))) (λe=>hs.p2 (.inr (.inr e))) (hs.mg _ (.inr (.inr rfl))),s',h.wk.touch t (λi hi _ e=>hs.sw i hi (.inr (.inr e))),h.row.touch t Y,t.tab h.tab.lt (λe=>hs.tab (.inr (.inr e))) h.tab,hs,γ h.bB t.size,h.zk⟩
def ST(st st':List Int)(a:Int)(b:Bool):Prop:=(b=true/\st=st'++[a])\/(b=false/\st=[]/\st'=[])
def VSm(w:World)(SV G SW:Nat->Prop)(c:MkC)(v:Vm)(s:MkS)(r vi:Int)(e:Ending)(w':World):Prop:=∃a b st',e=.returned (.tuple #[iI a,.bool b])/\AB (c.T G) w w'/\A4 w' SV G SW c v ⟨s.L,st',s.lost⟩ r vi/\ST s.st st' a b
theorem VPs(h:A4 w SV G SW c v s r vi):Calls prog 179 #[pP c.g] w (VSm w SV G SW c v s r vi):=by
 refine(ZtN h.stk).mono ?_;rintro e w' (⟨h0,rfl,rfl⟩|⟨l',a,h0,rfl,ht,hs⟩)
 ·refine⟨0,false,[],rfl,AB.refl _ _,?_,.inr ⟨rfl,h0,rfl⟩⟩;rw[<-h0];exact h
 ·exact⟨a,true,l',rfl,ht.mono (λi _ hi=>.inr (.inr hi)),A4.popped (L:=s.L) (st:=s.st) (lost:=s.lost) h ht hs,.inl ⟨rfl,h0⟩⟩
def DrS(v:Vm)(rs:List Int)(c:MkC)(X:Int->Prop)(s:MkS)(a:Int)(b:Bool)(k:Nat):Prop:=
 ((b=false/\s.st=[]/\CD v rs c.n c.R X s)\/(b=true/\Hs s.L a/\CD v rs c.n c.R (λx=>X x\/x=a) s))/\2*c.n+s.st.length+(if b then 1 else 0)<=2*s.L.length+k
theorem DrS.of(h:CD v rs c.n c.R X s)(hp:ST s.st st' a b)(hk:2*c.n+s.st.length<=2*s.L.length+k):DrS v rs c X ⟨s.L,st',s.lost⟩ a b k:=by
 rcases hp with⟨rfl,h1⟩|⟨rfl,h1,rfl⟩
 ·have h':CD v rs c.n c.R X ⟨s.L,st'++[a],s.lost⟩:=by rw[<-h1];exact h
  refine⟨.inr ⟨rfl,h'.pop.2,h'.pop.1⟩,?_⟩
  grind
 ·refine⟨.inl ⟨rfl,rfl,by rw[<-h1];exact h⟩,?_⟩
  simp_all
def VA5(s:MkS)(v:Vm)(rs:List Int)(c:MkC)(X:Int->Prop)(r vi:Int)(s':MkS)(r' vi':Int):Prop:=CD v rs c.n c.R X s'/\DN s s'/\s'.st=[]/\(MF s r vi->MF s' r' vi')
theorem YZ{t:MkS}(h:DN s t)(hp:ST t.st st' a b):DN s ⟨t.L,st',t.lost⟩:=by
 refine⟨h.sub,h.len,h.los,?_⟩;have:=h.mea;rcases hp with⟨-,h1⟩|⟨-,h1,rfl⟩
 ·grind
 simp_all
theorem ZZ(h:Hs L a):L≠[]:=by
 rintro rfl;obtain⟨o,ho,-⟩:=h;cases ho
theorem VAa(h:A4 w SV G SW c v s r vi)(hp:∀a,Rch v rs a->c.z.Rd v a)(hi:CD v rs c.n c.R X s):Calls prog 127 #[pP c.k] w (CT w SV G SW c v (VA5 s v rs c X r vi) (¬CH v rs c.n)):=by
 have H:=h;have HI:=hi;have c2:=h.row.cc 2;have HP:=hp;go_enter func127,ntmps127;go_wp2_with(go_at_call 179;refine(VPs H).mono ?_;rintro e w1 ⟨a0,b0,st0,rfl,Xc,Xb,Xh⟩;have Xi:=ι Xc;have Xe:=ι (Xb.up (w:=w) H.bB);have E:=Xh)
 go_loopg [2,3] (2*c.n+s.st.length) (λk s2 s3 wr=>∃(a:Int) (b:Bool) (s':MkS) (r' J:Int),s2=iI a/\s3=.bool b/\Hid (A4 wr SV (plus G w) SW c v s' r' J)/\Hid (AB (c.T G) w wr)/\Hid (DN s s'/\(MF s r vi->MF s' r' J)/\DrS v rs c X s' a b k))
 case atStart=>
  refine⟨a0,b0,_,r,vi,rfl,rfl,Xe,Xi,⟨YZ (DN.refl _) E,λh=>h,DrS.of HI E Ω⟩⟩
 case round=>
  obtain⟨a,b,s',r',J,rfl,rfl,HM,HT,HJ⟩:=hrel;have k2:=HM.o.row.cc 2;cases b with
  | false=>
   go_wp2;refine ζt (ζk rfl _ _ _) rfl ?_;obtain⟨q1,q2,q3,-⟩:=HJ.o;rcases q3 with⟨-,h1,h2⟩|⟨h1,-⟩
   ·exact CT.ok HT.o HM.o ⟨h2,q1,h1,q2⟩
   ·cases h1
  | true=>
   have HA:Hid (Hs s'.L a/\CD v rs c.n c.R (λx=>X x\/x=a) s'/\2*c.n+s'.st.length+1<=2*s'.L.length+gk):=⟨by
    obtain⟨q1,q2,q3,q4⟩:=HJ.o;rcases q3 with⟨h1,-⟩|⟨-,h1,h2⟩
    ·cases h1
    ·exact⟨h1,h2,q4⟩⟩
   go_wp2_with(first
    | (go_at_call 131;refine(ZUP HM.o HP HA.o.2.1 HA.o.1).mono ?_;rintro e w4 ⟨U,(⟨rfl,s4,r4,D,Y,Z⟩|⟨rfl,Z,s4,r4,D,Y⟩)⟩ <;> (have I:=(IU HT.o U);have O:=(Y.back HT.o.size H.sep H.bB);have V:=ι Z;have k4:=Y.row.cc 2;clear U Y Z))
    | (go_at_call 179;refine(VPs O).mono ?_;rintro e w5 ⟨a5,b5,st5,rfl,Xf,Xa,Xg⟩;have Xd:=ι (IU I Xf);have Xj:=ι Xa;have B:=Xg))
   ·have hgk:1<=gk:=by
     have:=HA.o.2.2;have:=HA.o.2.1.mkd.good.len;omega
    go_roundg (gk-1)
    case measure=>omega
    case rel=>
     obtain⟨q1,q2,-⟩:=HJ.o;obtain⟨p1,p2,p3,p4⟩:=V.o;have hme:=HA.o.2.2;have Y:=p2.mea;refine⟨a5,b5,_,r4,D,rfl,rfl,Xj,Xd,⟨YZ (q1.trans p2) B,λ_ h0=>absurd h0 (ZZ (p2.sub a HA.o.1)),DrS.of (p1.done p3 (λx hx=>hx)) B Ω⟩⟩
   ·exact⟨rfl,CT.no I O V.o⟩
theorem A4.cut(h:A4 w SV G SW c v s r vi):A4 w SV (AD G w) SW c v s r vi:=by
 have hs:=h.sep;have Y:∀i,i<c.B/\¬c.T G i->i<c.B/\¬c.T (AD G w) i:=λi hi=>⟨hi.1,λht=>hi.2 (ht.imp id (λh=>h.imp id (λh=>h.1)))⟩
 exact⟨h.vm,h.ext,h.stk.cut,h.wk,h.row,h.tab,⟨λi hi=>Y i (hs.sv' i hi),λi hi=>Y i (hs.sw' i hi),Y _ hs.tab',Y _ hs.p1',Y _ hs.p2',hs.k1,λh=>hs.k2 h.1,hs.kB,λi hi h=>hs.mg i hi h.1,hs.mB,λi hi=>Y i (hs.sd' i hi)⟩,h.bB,h.zk⟩
def KN(L:List Ob)(j:Nat)(a:Int):Prop:=∃o∈L.drop j,(o.1:Int)=a
theorem JmM(h:Hs L a):KN L 0 a:=h
theorem J6E(h:j<L.length)(ha:KN L j a):KN L (j+1) a\/a=(L[j].1:Int):=by
 obtain⟨o,ho,rfl⟩:=ha;rw[ξu h]at ho;rcases ζD.1 ho with rfl|ho
 ·omega
 ·exact .inl ⟨o,ho,rfl⟩
theorem Jdx(a:Int):¬KN L L.length a:=by
 rintro⟨o,ho,-⟩
 simp_all
theorem CD.found(h:CD v rs n R X s):CD v rs n R (KN s.L 0) ⟨s.L,s.st,false⟩:=⟨h.mkd,h.st,h.r,λ_ ha=>.inr (.inr (.inr (JmM ha)))⟩
def s0:MkS:=⟨[],[],false⟩
def TL(v:Vm)(rs:List Int)(c:MkC)(j:Nat)(s:MkS)(r vi:Int):Prop:=CD v rs c.n c.R (λ_=>False) s/\s.st=[]/\(∀x∈rs.take j,x≠0->Hs s.L x)/\MF s r vi/\(s.lost=true->s.L≠[])
def N3(v:Vm)(rs:List Int)(c:MkC)(s:MkS)(r vi:Int):Prop:=BK v rs c.n s.L/\MF s r vi
theorem YXl(h:A4 w SV G SW c v s0 0 0)(hp:∀a,Rch v rs a->c.z.Rd v a)(hA:FK (c.T G) w A rs)(hlen:rs.length<=maxLen):
  Calls prog 89 #[pP c.k,.slice A rs.length cp] w (CT w SV G SW c v (N3 v rs c) (¬CH v rs c.n)):=by
 have H:=h;have HA:=hA;have HP:=hp;have c6:=h.row.cc 6;have kf:=h.row.free 6;obtain⟨N,hN⟩:∃N,N=rs.length:=⟨_,rfl⟩;rw[<-hN]at hlen⊢;have HN:=ι hN;unfold maxLen at hlen;clear h hA hN hp;go_enter func89,ntmps89;go_wp2;have Yf:Hid (A4 (w.setCell ⟨c.k,6,none⟩ (.int .i64 1)) SV (plus G w) SW c v s0 1 0):=⟨(H.set (r':=1) (vi':=0) rfl).up H.bB⟩;have Yp:Hid (AB (c.T G) w (w.setCell ⟨c.k,6,none⟩ (.int .i64 1))):=⟨OZ 6 _⟩;obtain⟨w1,Yb⟩:∃w1,w1=w.setCell ⟨c.k,6,none⟩ (.int .i64 1):=⟨_,rfl⟩;rw[<-Yb]at Yf Yp⊢;clear c6 kf Yb
 go_loopw [14] (λs14 wr=>∃(j:Nat) (s:MkS) (r vi:Int),j<=N/\Hid (A4 wr SV (plus G w) SW c v s r vi)/\Hid (AB (c.T G) w wr)/\Hid (TL v rs c j s r vi)/\s14=iI j) (λs14 _=>N-(intOf s14).toNat)
 case atStart=>exact⟨0,s0,1,0,ζc _,Yf,Yp,⟨⟨Mk.nil _ _ _,(λ_ h=>by cases h),ζc _,(λa ha=>absurd rfl (ZZ ha))⟩,rfl,(λx hx=>by cases hx),(λ_=>⟨rfl,rfl⟩),(λh=>by cases h)⟩,rfl⟩
 case round=>
  obtain⟨j,s,r,vi,hj,HM,HT,HJ,rfl⟩:=hrel;by_cases Z:j=N
  ·subst Z;have Yg:Hid (TL v rs c rs.length s r vi):=⟨by have:=HJ.o;rwa [HN.o]at this⟩;clear HJ hj;go_wp2
   go_loopg [] (c.n+1) (λk wr=>∃(s:MkS) (r vi:Int),Hid (A4 wr SV (plus G w) SW c v s r vi)/\Hid (AB (c.T G) w wr)/\Hid (TL v rs c rs.length s r vi)/\Hid (s.lost=true->c.n+1<=s.L.length+k))
   case atStart=>exact⟨s,r,vi,HM,HT,Yg,⟨λ_=>by omega⟩⟩
   case round=>
    clear HM HT Yg;clear s r vi;obtain⟨wo,rfl⟩:∃wo:World,wo=wr:=⟨_,rfl⟩;obtain⟨s,r,vi,HM,HT,HJ,HK⟩:=hrel;have k2:=HM.o.row.cc 2;obtain⟨L,st,lost⟩:=s;have Ye:=(XPh HM.o.stk);cases lost with
    | false=>
     go_wp2_with(go_at_call 128;refine Ye.mono ?_;rintro e w2 ⟨rfl,rfl⟩);refine ζt (ζk rfl _ _ _) rfl ?_;obtain⟨q1,q2,q3,q4,q5⟩:=HJ.o;exact CT.ok HT.o HM.o ⟨q1.marks (λ_ h=>h) q2 rfl (λx hx h0=>q3 x (by rw[ζ8];exact hx) h0),q4⟩
    | true=>
     have Yy:st=[]:=HJ.o.2.1;subst Yy;have Xr:=HM.o.cut;obtain⟨G1,Xx⟩:∃G1,G1=AD (plus G w) wo:=⟨_,rfl⟩;rw[<-Xx]at Xr;have Xk:Hid (∀i,G1 i->plus G w i/\i<wo.heap.size):=⟨λi hi=>by rw[Xx]at hi;exact hi⟩;have Yv:=HJ.o.2.2.2.2 rfl;have Yh:=HJ.o.1.mkd.good;have Za:L.length<=1048576:=γ Yh.len HM.o.ext.nb.2;obtain⟨LN,Xq⟩:∃LN,LN=L.length:=⟨_,rfl⟩;have Xg:=ι Xq;rw[<-Xq]at Za;clear Xx Yh Xq
     go_wp2_with(first
      | (go_at_call 128;refine Ye.mono ?_;rintro e w2 ⟨rfl,rfl⟩)
      | (go_at_call 129;refine(Qf8 Xr.stk).mono ?_;rintro e w2 ⟨rfl,Xw,Yo⟩;have Xp:=(A4.popped (L:=L) (st:=[]) (lost:=true) Xr Xw Yo);have k6:=Xp.row.cc 6;have k1:=Xp.row.cc 1;have kf:=Xp.row.free 6;have Yn:=Xw;clear Xw Yo)
      | (go_at_call 130;have Xm:=(λx:Int=>Xp.set (j:=6) (u:=iI x) (r':=x) (vi':=vi) rfl);refine(Yde (Xm _).ext (Xm _).tab ((Xm _).row.cell (j:=1) rfl)).mono ?_;rintro e w3 ⟨vL,rfl,Xv,Xs⟩;have Xi:=((Xm _).gr Xv);have Yl:=ι Xv;obtain⟨A3,Yi,rfl,Ys,h32⟩:=DF Xs;have Xt:=ι Xs;rw[<-Xg.o]at Xt;rw[<-Xg.o]at Ys;clear Xv Xs))
     have hz2:wo.heap.size<=w2.heap.size:=Yn.size;have hz3:w2.heap.size<=w3.heap.size:=by simpa using Yl.o.size
     have hzw:w.heap.size<=wo.heap.size:=HT.o.size;have hBw:c.B<=w.heap.size:=H.bB
     have Yc:Hid (∀g,(Value.slice A3 LN Yi).ownBlock=some g->¬c.T (plus G1 w3) g):=⟨λg hg ht=>by
      obtain⟨a1,a2⟩:=BE Xt.o hg;have a1:w2.heap.size<=g:=by simpa using a1
      rcases ht with h1|h1|h1|h1
      ·have:=H.sep.kB;omega
      ·have:=H.sep.mB g h1;omega
      ·have:=(Xk.o g h1).2;omega
      ·omega⟩
     have Yj:Hid (DK c SV G1 SW):=⟨Xi.sep⟩;have Ya:Hid (AB (c.T G1) wo w3):=⟨((Yn.mono (λi _ h=>.inr (.inr h))).trans (OZ 6 _)).trans (Yl.o.touch _)⟩;clear k1 k2 k6 kf;rw[<-Xg.o]
     go_loopw [46] (λs46 wy=>∃(j:Nat) (s':MkS) (r' vi':Int),j<=LN/\Hid (A4 wy SV (plus G1 w3) SW c v s' r' vi')/\Hid (AB (c.T G1) w3 wy)/\Hid (wy.ownsRow 0 3 1 (.slice A3 LN Yi) LN (KR L LN))/\Hid (CD v rs c.n c.R (KN L j) s'/\DN ⟨L,[],false⟩ s'/\s'.st=[])/\s46=iI j) (λs46 _=>LN-(intOf s46).toNat)
     case atStart=>
      exact⟨0,⟨L,[],false⟩,_,vi,ζc _,⟨Xi.up (w:=w3) Xi.bB⟩,⟨AB.refl _ _⟩,⟨QrH Xt.o (ζc _)⟩,⟨HJ.o.1.found,DN.refl _,rfl⟩,rfl⟩
     case round=>
      obtain⟨j,s',r',vi',hj,Yk,Xy,Xu,Xn,rfl⟩:=hrel;by_cases Z:j=LN
      ·subst Z;go_wp2
       have hgk:1<=gk:=by
        have:=HK.o (by simp);have h2:=HJ.o.1.mkd.good.len;have h2:L.length<=c.n:=h2;have h3:c.n+1<=L.length+gk:=this;omega
       go_roundg (gk-1)
       case measure=>omega
       case rel=>
        obtain⟨q1,q2,q3⟩:=Xn.o;have D:=q2.len;have D:L.length<=s'.L.length:=D;have Yx:AB (c.T (plus G w)) wo wr:=(Ya.o.trans Xy.o).mono (λi _ h=>h.imp id (λh=>h.imp id (λh=>(Xk.o i h).1)));have Yq:s'.L≠[]:=λe=>by have h1:=D;rw[e]at h1;exact Yv (ζw (Nat.le_zero.1 h1))
        refine⟨s',r',vi',⟨Yk.o.sub (λi h=>h.elim (λh=>(Xk.o i h).1) (λh=>.inr Ω)) (H.sep.plus H.bB)⟩,⟨IU HT.o Yx⟩,⟨q1.weak (λa h=>absurd h (by rw[Xg.o];exact Jdx a)),q3,λx hx h0=>q2.sub _ (HJ.o.2.2.1 x hx h0),λh=>absurd h Yq,λ_=>Yq⟩,⟨λhl=>?_⟩⟩;have h5:=HK.o (by simp);have h5:c.n+1<=L.length+gk:=h5;rcases q2.los hl with h|h
        ·cases h
        ·have h:L.length<s'.L.length:=h;omega
      ·have U:j<L.length:=by have:=Xg.o;omega
       have Yu:(j:Int)<(LN:Int):=Ω
       obtain⟨g,cc',ea,-,-,-,-⟩:=ET Xu.o Ω;simp only[Value.slice.injEq]at ea;obtain⟨rfl,-,rfl⟩:=ea;obtain⟨a,ha⟩:∃a:Int,a=(L[j].1:Nat):=⟨_,rfl⟩;have kc:=BP Xu.o (j:=j) (u:=iI a) (by rw[ha];unfold KR zs;rw[Xg.o,ζ8];simp[U]);have Ym:Hid (Hs L a/\a=(L[j].1:Nat)):=⟨⟨L[j],μ U,ha.symm⟩,ha⟩;have Xb:=ι (ψ hj (ψ Z U));have Xo:Hid (∀(W:World) (t:MkS) (x y:Int),A4 W SV (plus G1 w3) SW c v t x y->AB (c.T G1) w3 W->A4 W SV (plus G w) SW c v t x y/\AB (c.T G) w W):=⟨λW t x y hm ht=>⟨hm.sub (λi h=>h.elim (λh=>(Xk.o i h).1) (λh=>.inr Ω)) (H.sep.plus H.bB),IU HT.o ((Ya.o.trans ht).mono (λi _ h=>h.imp id (λh=>h.imp id (λh=>(Xk.o i h).1))))⟩⟩;clear hj Z ha
       go_wp2_with(first
        | (go_at_call 131;refine(ZUP Yk.o HP Xn.o.1 (Xn.o.2.1.sub a Ym.o.1)).mono ?_;rintro e w4 ⟨Xc,(⟨rfl,s4,r4,Xz,Xa,E⟩|⟨rfl,E,s4,r4,Xz,Xa⟩)⟩ <;> (have Yr:=ι (BV Xu.o Xc Yc.o);have V:=ι (IU Xy.o Xc);have Xe:=ι (Xa.back Xy.o.size Yj.o Xi.bB);have J:=ι E;clear Xc Xa E))
        | (go_at_call 127;refine(VAa Xe.o HP (J.o.1.done J.o.2.2.1 (Y:=KN L (j+1)) (λx hx=>by rw[Ym.o.2];exact J6E Xb.o.2.2 hx))).mono ?_;rintro e w5 ⟨Xf,(⟨rfl,s5,r5,Xj,O,I⟩|⟨rfl,I,s5,r5,Xj,O⟩)⟩ <;> (have Yw:=ι (BV Yr.o Xf Yc.o);have Xd:=ι (IU V.o Xf);have Xh:=ι (O.back V.o.size Yj.o Xi.bB);have Xl:=ι I;clear Xf O I)))
       ·go_round
        case rel=>
         obtain⟨p1,p2,p3,p4⟩:=J.o;obtain⟨t1,t2,t3,t4⟩:=Xl.o;refine⟨j+1,s5,r5,Xj,by have:=Xb.o;omega,Xh,Xd,Yw,⟨t1,(Xn.o.2.1.trans p2).trans t2,t3⟩,by go_num⟩
        case measure=>have:=Xb.o;simp[intOf];omega
       ·exact⟨rfl,CT.no (Xo.o _ _ _ _ Xh.o Xd.o).2 (Xo.o _ _ _ _ Xh.o Xd.o).1 Xl.o⟩
       ·exact⟨rfl,CT.no (Xo.o _ _ _ _ Xe.o V.o).2 (Xo.o _ _ _ _ Xe.o V.o).1 J.o⟩
  ·have Yu:(j:Int)<(N:Int):=Ω
   have U:j<rs.length:=by have:=HN.o;omega
   obtain⟨b,o,rfl,hb,Yd,e0⟩:=HA j U;have i0:=(HT.o.cell hb Yd (o+j)).trans e0;obtain⟨a,ha⟩:∃a,a=rs[j]:=⟨_,rfl⟩;rw[<-ha]at i0 e0;have Yt:Hid (a≠0->Rch v rs a):=⟨λh0=>Rch.root (by rw[ha];exact μ U) h0⟩
   have Yz:Hid (∀x,x∈rs.take (j+1)->x∈rs.take j\/x=a):=⟨λx hx=>by
    rw[ζY U]at hx
    exact(ζg.1 hx).imp id (λh=>by rw[ha];exact ζO.1 h)⟩
   have Xb:=ι (ψ hj Z);clear hj Z U ha e0 Yd
   go_wp2_with(first
    | (go_at_call 126;refine(VVL HM.o HP HJ.o.1 Yt.o).mono ?_;rintro e w4 ⟨Xc,(⟨rfl,s4,r4,Xz,Xa,E⟩|⟨rfl,E,s4,r4,Xz,Xa⟩)⟩ <;> (have V:=ι (IU HT.o Xc);have Xe:=ι (Xa.back HT.o.size H.sep H.bB);have J:=ι E;clear Xc Xa E))
    | (go_at_call 127;refine(VAa Xe.o HP J.o.1).mono ?_;rintro e w5 ⟨Xf,(⟨rfl,s5,r5,Xj,O,I⟩|⟨rfl,I,s5,r5,Xj,O⟩)⟩ <;> (have Xd:=ι (IU V.o Xf);have Xh:=ι (O.back V.o.size H.sep H.bB);have Xl:=ι I;clear Xf O I)))
   ·go_round
    case rel=>
     obtain⟨q1,q2,q3,q4,q5⟩:=HJ.o;obtain⟨p1,p2,p3,rfl,rfl⟩:=J.o;obtain⟨t1,t2,t3,t4⟩:=Xl.o;have D:=p2.trans t2;refine⟨j+1,s5,r5,Xj,by have:=Xb.o;omega,Xh,Xd,⟨t1,t3,λx hx h0=>?_,t4 (λh=>q4 ?_),λhl=>?_⟩,by go_num⟩
     ·rcases Yz.o x hx with h|rfl
      ·exact D.sub _ (q3 x h h0)
      ·exact t2.sub _ (p3 h0)
     ·have:=p2.len;rw[h]at this;exact ζw (by simpa using this)
     ·have h5:=D.len;rcases D.los hl with h|h
      ·exact λe=>q5 h (ζw (by rw[e]at h5;simpa using h5))
      ·intro e;rw[e]at h;simp at h
    case measure=>have:=Xb.o;simp[intOf];omega
   ·exact⟨rfl,CT.no Xd.o Xh.o Xl.o⟩
   ·exact⟨rfl,CT.no V.o Xe.o J.o⟩
theorem VUu(args:Array Value)(W:World):(callFunc 88 args).run prog W=.ok (.enter 88 args) W:=by kernel_rfl
def V3(z:Sp)(m g:Nat)(wk:Value)(L:List Ob)(r vi:Int):List Value:=[z.v,pP m,pP g,wk,iI (L.length:Nat),iI (sizes L:Nat),iI r,iI vi]
theorem QNt(hrow:Rec w c.k 161 (V3 c.z c.m c.g (.pointer none) [] 0 0))(hp:∀a,Rch v rs a->c.z.Rd v a)(h:A4 (w.setCell ⟨c.k,3,none⟩ (.pointer (some ⟨c.wk,0,none⟩))) SV G SW c v s0 0 0)
  (c12:w.cell? ⟨b12,0,none⟩=some (pP c.k)) (c5:w.cell? ⟨b5,0,none⟩=some (.slice A rs.length cp)) (n12:b12≠c.k) (n5:b5≠c.k) (hA:FK (c.T G) w A rs) (hlen:rs.length<=maxLen):
  Calls prog 88 #[pP c.wk,pP b12,pP b5] w (CT w SV G SW c v (N3 v rs c) (¬CH v rs c.n)):=by
 have k3:=hrow.cc 3;have kf:=hrow.free 3;have U:(w.setCell ⟨c.k,3,none⟩ (.pointer (some ⟨c.wk,0,none⟩))).heap.size=w.heap.size:=World.size_setCell ..;have V:=hA.touch (OZ (w:=w) (c:=c) (G:=G) 3 (pP c.wk)) (λ_ _ h=>h);have Y:=(YXl (cp:=cp) h hp V hlen)
 have J:Hid (∀e w',CT (w.setCell ⟨c.k,3,none⟩ (.pointer (some ⟨c.wk,0,none⟩))) SV G SW c v (N3 v rs c) (¬CH v rs c.n) e w'->CT w SV G SW c v (N3 v rs c) (¬CH v rs c.n) e w'):=⟨λe w' he=>by
  obtain⟨ht,he⟩:=he;unfold plus at he;rw[U]at he
  exact⟨(OZ 3 _).trans ht,he⟩⟩
 have tk:=(AB.refl (λi=>i=c.k) w).setCell (a:=⟨c.k,3,none⟩) (λ_=>rfl) (pP c.wk);have x5:=(tk.cell (AT c5) n5 0).trans c5;have x12:=(tk.cell (AT c12) n12 0).trans c12;go_enter func88,ntmps88;go_wp2_with(go_at_call 89;refine Y.mono ?_;intro e w1 he;have he:=J.o _ _ he;rcases he with⟨Z,(⟨rfl,h1⟩|⟨rfl,h1⟩)⟩)
 ·refine ζt (ζk rfl _ _ _) rfl ?_;exact⟨Z,.inl ⟨rfl,h1⟩⟩
 ·obtain⟨-,h2⟩:=h1;exact⟨rfl,Z,.inr ⟨rfl,trivial,h2⟩⟩
structure JS(w:World)(SV:Nat->Prop)(z:Sp)(k m p1 b1 p2 b2 n g:Nat)(v:Vm)(L:List Ob)(r vi:Int):Prop where
 zk:z.Ok
 vm:z.I v SV w
 ext:Ext w m p1 b1 p2 b2 n L
 tab:AQ w
 row:∃wk,Rec w k 161 (V3 z m g wk L r vi)
theorem JS.touch{p1 b1 p2 b2:Nat}(h:JS w SV z k m p1 b1 p2 b2 n g v L r vi)(t:AB S w w')(hv:∀i,SV i->¬S i)(hm:∀i,AN m b1 b2 i->¬S i)(h1:¬S p1)(h2:¬S p2)(ht:¬S 1)(hk:¬S k)(hd:∀i,z.D i->¬S i):JS w' SV z k m p1 b1 p2 b2 n g v L r vi:=
 ⟨h.zk,h.zk.fr h.vm t (λi _ hi=>⟨λh=>hv i h hi,λh=>hd i h hi⟩) (λ_ h=>h),h.ext.touch t (hm _ (.inl rfl)) h1 (hm _ (.inr (.inl rfl))) h2 (hm _ (.inr (.inr rfl))),t.tab h.tab.lt ht h.tab,by obtain⟨wk,hr⟩:=h.row;exact⟨wk,hr.touch t hk⟩⟩
def XT9(w:World)(SV SG:Nat->Prop)(z:Sp)(k m p1 b1 p2 b2 n g:Nat)(v:Vm)(rs:List Int)(e:Ending)(w':World):Prop:=
 AB (λi=>i=k\/AN m b1 b2 i\/SG i\/SV i) w w'/\∃x y L r vi,e=.returned (.agg #[iI x,iI y])/\JS w' SV z k m p1 b1 p2 b2 n g v L r vi ∧
  ((x=0/\BK v rs n L/\(L=[]->r=1/\vi=0))\/(x=25/\¬CH v rs n))
theorem Q3I{SG:Nat->Prop}{p1 b1 p2 b2:Nat}(hz:z.Ok/\¬z.M)(hfail:CH v rs n\/∃q,z=spM q)(hp:∀a,Rch v rs a->z.Rd v a)(hD:∀i,z.D i->i<w.heap.size/\¬(i=k\/AN m b1 b2 i\/SG i))(hV:z.I v SV w)(hE:Ext w m p1 b1 p2 b2 n [])(hS:CA w SG g [] R false)(hR:Rec w k 161 (V3 z m g (.pointer none) [] 0 0))(hT:AQ w)
  (c12:w.cell? ⟨b12,0,none⟩=some (pP k)) (c5:w.cell? ⟨b5,0,none⟩=some (.slice A rs.length cp)) (n12:b12≠k) (n5:b5≠k) (hA:FK (λi=>i=k\/AN m b1 b2 i\/SG i) w A rs) (hlen:rs.length<=maxLen)
  (hSV:∀i,SV i->i<w.heap.size/\¬(i=k\/AN m b1 b2 i\/SG i)) (hSG:∀i,SG i->i<w.heap.size) (hp1:¬(p1=k\/AN m b1 b2 p1\/SG p1)) (hp2:¬(p2=k\/AN m b1 b2 p2\/SG p2)) (htb:¬(1=k\/AN m b1 b2 1\/SG 1))
  (hv1:¬SV p1) (hv2:¬SV p2) (hvt:¬SV 1) (hkm:¬AN m b1 b2 k) (hkg:¬SG k) (hmg:∀i,AN m b1 b2 i->¬SG i):
  Calls prog 87 #[z.v,.func (.func 88) #[] #[pP b12,pP b5]] w (XT9 w SV SG z k m p1 b1 p2 b2 n g v rs):=by
 have Xi:(AL w z.v).heap.size=w.heap.size+2:=by unfold AL;rw[χ,χ]
 obtain⟨q0,Xm⟩:∃q0,∀q,z=spM q->q0=q:=by
  by_cases h:∃q,z=spM q
  ·obtain⟨q,rfl⟩:=h;exact⟨q,λq' h=>by have:=congrArg Sp.rv h;simp[spM]at this;exact this⟩
  ·exact⟨0,λq h'=>absurd ⟨q,h'⟩ h⟩
 obtain⟨W0,U⟩:∃W0,W0=E0 (AL w z.v) (w.heap.size+1):=⟨_,rfl⟩;have Xq:W0.heap.size=w.heap.size+5:=by rw[U];unfold E0;rw[χ,χ,χ,Xi]
 have g1:Gr w (AL w z.v):=((Gr.refl w).alloc _).alloc _;have g2:Gr (AL w z.v) W0:=by rw[U];exact(((Gr.refl _).alloc _).alloc _).alloc _
 have g0:Gr w W0:=g1.trans g2;have Xj:=hR.lt
 have Z:∀i,AN m b1 b2 i->i<w.heap.size:=λi hi=>by
  rcases hi with rfl|rfl|rfl
  ·exact hE.hm
  ·exact hE.v1.hb
  ·exact hE.v2.hb
 have Xs:p1<w.heap.size:=hE.v1.hp;have Xp:p2<w.heap.size:=hE.v2.hp;have Xt:=hT.lt;obtain⟨c,hc⟩:∃c:MkC,c=⟨k,z,m,p1,b1,p2,b2,n,g,R,w.heap.size+1,w.heap.size+5⟩:=⟨_,rfl⟩
 have Xc:∀i,c.T SG i->i<w.heap.size:=λi hi=>by
  rw[hc]at hi;rcases hi with rfl|hi|hi
  ·exact Xj
  ·exact Z i hi
  ·exact hSG i hi
 have O:DK c SV SG (λi=>i=w.heap.size+1):=by
  have B:=Xc;rw[hc]at B⊢;exact⟨λi hi=>⟨by have:=(hSV i hi).1;show i<w.heap.size+5;omega,(hSV i hi).2⟩,λi hi=>⟨by show i<w.heap.size+5;omega,λh=>by have:=B i h;omega⟩,⟨by show _<w.heap.size+5;omega,htb⟩,⟨by show p1<w.heap.size+5;omega,hp1⟩,⟨by show p2<w.heap.size+5;omega,hp2⟩,hkm,hkg,by show k<w.heap.size+5;omega,hmg,λi hi=>by have:=Z i hi;show i<w.heap.size+5;omega,λi hi=>⟨by have:=(hD i hi).1;show i<w.heap.size+5;omega,(hD i hi).2⟩⟩
 have Xx:A4 (W0.setCell ⟨c.k,3,none⟩ (.pointer (some ⟨c.wk,0,none⟩))) SV SG (λi=>i=w.heap.size+1) c v s0 0 0:=by
  have tk:AB (λi=>i=c.k) W0 (W0.setCell ⟨c.k,3,none⟩ (.pointer (some ⟨c.wk,0,none⟩))):=(AB.refl (λi=>i=c.k) _).setCell (a:=⟨c.k,3,none⟩) (λ_=>rfl) _;have hw:=(QO w z.v).gr g2;rw[hc]at tk O⊢;refine⟨hz.1.fr (hz.1.gr hV g0) tk (λi _ e=>⟨λh=>(hSV i h).2 (.inl e),λh=>(hD i h).2 (.inl e)⟩) (λ_ h=>h),(hE.gr g0).touch tk (λe=>hkm (.inl e.symm)) (λe=>hp1 (.inl e)) (λe=>hkm (.inr (.inl e.symm))) (λe=>hp2 (.inl e)) (λe=>hkm (.inr (.inr e.symm))),(hS.gr g0).touch tk (λi hi _ e=>hkg (by subst e;exact hi)),hw.touch tk (λi hi _ e=>by have e:i=k:=e;omega),(hR.gr g0).set 3 (pP (w.heap.size+1)),tk.tab (g0.tab hT.lt hT).lt (λe=>htb (.inl e)) (g0.tab hT.lt hT),O,?_,hz⟩
  show w.heap.size+5<=_
  rw[World.size_setCell,Xq];exact ϑ _
 have Xb:=QNt (w:=W0) (b12:=b12) (b5:=b5) (cp:=cp) (A:=A) (rs:=rs) (by rw[hc];exact hR.gr g0) (by rw[hc];exact hp) Xx (by rw[hc];exact(g0.cell (AT c12) 0).trans c12) ((g0.cell (AT c5) 0).trans c5) (by rw[hc];exact n12) (by rw[hc];exact n5)
  (by rw[hc];exact hA.gr g0) hlen
 have V:Calls prog 88 (#[pP (w.heap.size+1)]++#[pP b12,pP b5]) W0
   (OU q0 (w.heap.size+1) (w.heap.size+3) (c.T SG) W0 (λw1=>∃s r vi,A4 w1 SV (plus SG W0) (λi=>i=w.heap.size+1) c v s r vi/\N3 v rs c s r vi)
    (λXd _ v' l S S2 w1=>Xd=25/\v'=v/\l=[]/\S=(λi=>i=w.heap.size+1)/\S2=SV/\¬CH v rs c.n/\∃s r vi,A4 w1 SV (plus SG W0) (λi=>i=w.heap.size+1) c v s r vi)):=by
  have hb:=Xb;rw[show c.wk=w.heap.size+1 by rw[hc]]at hb;refine hb.mono ?_;rintro e w1 ⟨ht,(⟨rfl,s,r,vi,hm,hp⟩|⟨rfl,hn,s,r,vi,hm⟩)⟩
  ·exact⟨ht,.inl ⟨rfl,s,r,vi,hm,hp⟩⟩
  ·obtain⟨q,hq⟩:=hfail.resolve_left (by have:=hn;rwa [show c.n=n by rw[hc]]at this);obtain rfl:=Xm q hq;have Xl:=hm.wk;have Xr:=hm.vm;rw[show c.wk=w.heap.size+1 by rw[hc],show c.z=spM q0 by rw[hc];exact hq]at Xl;rw[show c.z=spM q0 by rw[hc];exact hq]at Xr;exact⟨ht,.inr ⟨25,0,v,[],_,_,rfl,Xl,Xr,λi hi h=>by have:=(hSV i h).1;omega,by omega,λh=>by have:=(hSV _ h).1;omega,rfl,rfl,rfl,rfl,rfl,hn,s,r,vi,hm⟩⟩
 have Xg:=XV (w:=w) (sp:=z.v) (q:=q0) (F:=88) (caps:=#[pP b12,pP b5]) ⟨_,_,rfl⟩ VUu (by rw[<-U];exact V)
  (λi h1 h2 h=>by have:=Xc i h;omega) (λh=>by have:=Xc _ h;omega) (λXd a' v' l S' S2 w1 h=>by
   obtain⟨-,-,-,rfl,rfl,-⟩:=h
   exact⟨by omega,λh=>by have:=(hSV _ h).1;omega⟩)
 refine Xg.mono ?_;rintro e w' ⟨w2,fx,fy,⟨w1,Xh,hp⟩,rfl,rfl⟩;rw[<-U]at Xh;rw[Xi]at hp;subst hc;have T1:AB (λi=>i=k\/AN m b1 b2 i\/SG i\/SV i) w w1:=(g0.touch _).trans' Xh (λi hi h=>h.imp id (λh=>h.imp id .inl));have Xn:∀s r vi,A4 w1 SV (plus SG W0) (λi=>i=w.heap.size+1) ⟨k,z,m,p1,b1,p2,b2,n,g,R,w.heap.size+1,w.heap.size+5⟩ v s r vi->JS w1 SV z k m p1 b1 p2 b2 n g v s.L r vi:=λs r vi hm=>⟨hz.1,hm.vm,hm.ext,hm.tab,_,hm.row⟩
 have E:∀(W1 W2:World) (L:List Ob) (r vi:Int),JS W1 SV z k m p1 b1 p2 b2 n g v L r vi->AB (λi=>w.heap.size<=i) W1 W2->JS W2 SV z k m p1 b1 p2 b2 n g v L r vi:=λW1 W2 L r vi h t=>
  h.touch t (λi hi h=>by have:=(hSV i hi).1;omega) (λi hi h=>by have:=Z i hi;omega) Ω Ω Ω Ω (λi hi h=>by have:=(hD i hi).1;omega)
 have Xe:∀(W:World) (z1 z2:Value),AB (λi=>w.heap.size<=i) W ((W.setCell ⟨w.heap.size,0,none⟩ z1).setCell ⟨w.heap.size,1,none⟩ z2):=λW z1 z2=>
  ((AB.refl (λi=>w.heap.size<=i) W).setCell (a:=⟨w.heap.size,0,none⟩) (λ_=>ϑ _) z1).setCell (a:=⟨w.heap.size,1,none⟩) (λ_=>ϑ _) z2
 rcases hp with⟨⟨s,r,vi,hm,Xk,Xo⟩,he,rfl⟩|⟨Xd,a',v',l,S',S2,⟨rfl,rfl,rfl,rfl,rfl,hn,s,r,vi,hm⟩,he,Xu⟩
 ·have Xa:fx=0/\fy=0:=by simpa using he
  obtain⟨rfl,rfl⟩:=Xa;have Xv:=((AB.refl (λi=>w.heap.size<=i) w1).setCell (a:=⟨w.heap.size+2+1,0,none⟩) (λ_=>by show w.heap.size<=w.heap.size+2+1;omega) (iI 0)).setCell (a:=⟨w.heap.size+2+1,1,none⟩) (λ_=>by show w.heap.size<=w.heap.size+2+1;omega) (iI 0);have Xf:=Xv.trans (Xe _ (iI 0) (iI 0));exact⟨T1.trans' Xf (λi hi h=>by omega),0,0,s.L,r,vi,rfl,E _ _ _ _ _ (Xn s r vi hm) Xf,.inl ⟨rfl,Xk,Xo⟩⟩
 ·have Xa:fx=25/\fy=a':=by simpa using he
  obtain⟨rfl,rfl⟩:=Xa;obtain⟨q1,q2,q3,q4⟩:=Xu;obtain⟨q,hq⟩:=hfail.resolve_left hn;obtain rfl:=Xm q hq;subst hq
  have Y:∀i,i<w.heap.size->¬S2 i->¬(i=w.heap.size+1\/S2 i\/i=w.heap.size+2+1):=λi hi hs h=>by
   rcases h with h|h|h
   ·omega
   ·exact hs h
   ·omega
  have J:=Xn s r vi hm
  have Xw:JS w2 S2 (spM q0) k m p1 b1 p2 b2 n g v' s.L r vi:=⟨hz.1,q2,J.ext.touch q1 (Y _ (Z _ (.inl rfl)) (λh=>(hSV _ h).2 (.inr (.inl (.inl rfl))))) (Y _ Xs hv1) (Y _ (Z _ (.inr (.inl rfl))) (λh=>(hSV _ h).2 (.inr (.inl (.inr (.inl rfl)))))) (Y _ Xp hv2) (Y _ (Z _ (.inr (.inr rfl))) (λh=>(hSV _ h).2 (.inr (.inl (.inr (.inr rfl)))))),
   q1.tab J.tab.lt (Y _ Xt hvt) J.tab,by obtain⟨wk,hr⟩:=J.row;exact⟨wk,hr.touch q1 (Y _ Xj (λh=>(hSV _ h).2 (.inl rfl)))⟩⟩
  refine⟨(T1.trans' q1 (λi hi h=>?_)).trans' (Xe _ _ _) (λi hi h=>by omega),25,fy,s.L,r,vi,rfl,E _ _ _ _ _ Xw (Xe _ _ _),.inr ⟨rfl,hn⟩⟩;rcases h with h|h|h
  ·omega
  ·exact .inr (.inr (.inr h))
  ·omega
def L4(a b c d:Int):Value:=.agg #[iI a,iI b,iI c,iI d]
theorem US(W:World)(blk off:Nat)(p q r s:Value)(h0:W.cell? ⟨blk,off,none⟩=some p)(h1:W.cell? ⟨blk,off+1,none⟩=some q)(h2:W.cell? ⟨blk,off+2,none⟩=some r)(h3:W.cell? ⟨blk,off+3,none⟩=some s):(loadVar 97 ⟨blk,off,none⟩).run prog W=.ok (.agg #[p,q,r,s]) W:=by
 have a1:(isAgg 97).run prog W=.ok true W:=by kernel_rfl
 have a2:(sizeOf 97).run prog W=.ok 4 W:=by kernel_rfl
 simp[loadVar,Sem.run_bind,a1,a2,Result.andThen,loadCells,go_sem,h0,h1,h2,h3]
def VA2(w:World)(SV:Nat->Prop)(z:Sp)(m p1 b1 p2 b2 n:Nat)(v:Vm)(rs:List Int)(room:Int)(e:Ending)(w':World):Prop:=
 ((room<1\/4096<room)/\e=.returned (.tuple #[L4 0 0 0 0,iI 5])/\Gr w w') ∨
 (1<=room/\room<=4096/\AB (λi=>AN m b1 b2 i\/SV i) w w'/\z.I v SV w' ∧
  ((∃L r vi,e=.returned (.tuple #[L4 (L.length:Nat) (sizes L:Nat) r vi,iI 0])/\Ext w' m p1 b1 p2 b2 n L/\BK v rs n L/\(L=[]->r=1/\vi=0)) ∨
   (e=.returned (.tuple #[L4 0 0 0 0,iI 25])/\Ext w' m p1 b1 p2 b2 n []/\¬CH v rs n)))
section
variable{p1 b1 p2 b2:Nat}{L0:List Ob}
theorem KY(w:World)(o:Obj)(T:Nat)(xs:List Value):Rec ((w.alloc o).alloc (.cells xs.toArray T)) (w.heap.size+1) T xs:=by
 have:=Rec.new (w.alloc o) T xs
 simp_all
theorem YX(w:World)(o o':Obj)(T:Nat)(xs:List Value):Rec ((w.alloc o).alloc (.cells xs.toArray T)) (w.heap.size+1) T xs/\Rec (((w.alloc (.cells xs.toArray T)).alloc o')) w.heap.size T xs:=by
 have:=Rec.new (w.alloc o) T xs;rw[χ]at this;exact⟨this,(Rec.new w T xs).gr ((Gr.refl _).alloc _)⟩
theorem MO(W:World)(b:Nat)(z0 z1 z2 z3:Value):AB (λi=>i=b) W ((((W.setCell ⟨b,0,none⟩ z0).setCell ⟨b,1,none⟩ z1).setCell ⟨b,2,none⟩ z2).setCell ⟨b,3,none⟩ z3):=
 ((((AB.refl (λi=>i=b) W).setCell (a:=⟨b,0,none⟩) (λ_=>rfl) z0).setCell (a:=⟨b,1,none⟩) (λ_=>rfl) z1).setCell (a:=⟨b,2,none⟩) (λ_=>rfl) z2).setCell (a:=⟨b,3,none⟩) (λ_=>rfl) z3
theorem ZDS{W:World}{z0 z1 z2 z3:Value}(h:AB S w W):AB S w ((((W.setCell ⟨w.heap.size+1,0,none⟩ z0).setCell ⟨w.heap.size+1,1,none⟩ z1).setCell ⟨w.heap.size+1,2,none⟩ z2).setCell ⟨w.heap.size+1,3,none⟩ z3):=by
 have hx:∀j:Nat,(⟨w.heap.size+1,j,none⟩:Addr).block<w.heap.size->S (⟨w.heap.size+1,j,none⟩:Addr).block:=λj h=>absurd h (by grind);exact(((h.setCell (hx 0) z0).setCell (hx 1) z1).setCell (hx 2) z2).setCell (hx 3) z3
theorem Xbg(hz:z.Ok/\¬z.M)(hfail:CH v rs n\/∃q,z=spM q)(hp:∀a,Rch v rs a->z.Rd v a)(hD:∀i,z.D i->i<w.heap.size/\¬AN m b1 b2 i)(hV:z.I v SV w)(hE:Ext w m p1 b1 p2 b2 n L0)(hT:AQ w)(hA:FK (AN m b1 b2) w A rs)(hlen:rs.length<=maxLen)
  (hvm:∀i,SV i->¬AN m b1 b2 i) (hv1:¬SV p1) (hv2:¬SV p2) (hvt:¬SV 1) (htm:¬AN m b1 b2 1) (room:Int):
  Calls prog 48 #[z.v,.slice A rs.length cp,pP m,iI room] w (VA2 w SV z m p1 b1 p2 b2 n v rs room):=by
 have HE:=hE;have HV:=(hz.1.ct hV);have HZ:=hz;have HF:=hfail;have HP:=hp;have HD:=hD;have HT:=hT;have HA:=hA;have hn1:=hE.nb.1;have dn:((n:Int)==0)=false:=by simp;omega
 have Ya:∀i,AN m b1 b2 i->i<w.heap.size:=λi hi=>by
  rcases hi with rfl|rfl|rfl
  ·exact hE.hm
  ·exact hE.v1.hb
  ·exact hE.v2.hb
 have Xi:p1<w.heap.size:=hE.v1.hp;have Xh:p2<w.heap.size:=hE.v2.hp;have Yu:=hT.lt
 have Xd:¬AN m b1 b2 p1:=λh=>by
  rcases h with h|h|h
  ·exact hE.am.1 h.symm
  ·exact hE.v1.ne h
  ·exact hE.ab.1 h
 have Xc:¬AN m b1 b2 p2:=λh=>by
  rcases h with h|h|h
  ·exact hE.am.2.2.1 h.symm
  ·exact hE.ab.2.1 h
  ·exact hE.v2.ne h
 have U:=Ya;obtain⟨N,hN⟩:∃N,N=rs.length:=⟨_,rfl⟩;have HN:=ι hN;rw[<-hN]at hlen⊢;have h5:=(YX w (.cells #[.slice A N cp] 61) (.cells #[.int .i64 0,.int .i64 0,.int .i64 0,.int .i64 0] 97) 61 [.slice A N cp]).2;have h8:=(YX w (.cells #[.slice A N cp] 61) (.cells #[] 61) 97 [iI 0,iI 0,iI 0,iI 0]).1;have Yh:=h5;have Z:=h8;have Xm:Gr w ((w.alloc (.cells #[.slice A N cp] 61)).alloc (.cells #[.int .i64 0,.int .i64 0,.int .i64 0,.int .i64 0] 97)):=((Gr.refl w).alloc _).alloc _;have Yg:((w.alloc (.cells #[.slice A N cp] 61)).alloc (.cells #[.int .i64 0,.int .i64 0,.int .i64 0,.int .i64 0] 97)).heap.size=w.heap.size+2:=by rw[χ,χ]
 obtain⟨wa,Xg⟩:∃wa,wa=((w.alloc (.cells #[.slice A N cp] 61)).alloc (.cells #[.int .i64 0,.int .i64 0,.int .i64 0,.int .i64 0] 97)):=⟨_,rfl⟩;rw[show (w.alloc (.cells ([.slice A N cp]:List Value).toArray 61)).alloc (.cells #[.int .i64 0,.int .i64 0,.int .i64 0,.int .i64 0] 97)=wa from Xg.symm]at Yh;rw[show (w.alloc (.cells #[.slice A N cp] 61)).alloc (.cells ([.int .i64 0,.int .i64 0,.int .i64 0,.int .i64 0]:List Value).toArray 97)=wa from Xg.symm]at Z;rw[<-Xg]at Xm Yg;have Xy:=Xm;have Yl:=ι Xg;have Xu:=(HE.gr Xm);have Xq:Hid (∀i,AD SV w i->i<w.heap.size/\¬AN m b1 b2 i):=⟨λi hi=>⟨hi.2,hvm i hi.1⟩⟩;have Yj:=(ψ hv1 (ψ hv2 (ψ hvt (ψ htm (ψ Xd Xc)))));clear hV hz hfail hp hD hE hT hA h5 h8 Xg Xm hvm hv1 hv2 hvt htm Xd Xc Ya hN;by_cases Xs:room<1\/4096<room
 ·have Xw:Hid (∀W,cQ 85 #[iI room] W (.tuple #[.pointer none,iI 5])):=⟨λW=>(VgV room W).mono λe w' h=>by
   rcases h with⟨-,h1,h2⟩|⟨h1,h2,-⟩
   ·exact⟨h1,h2⟩
   ·omega⟩
  have Xa:=Xs;unfold Sp.v;go_enter func48,ntmps48;go_upto_region 1 with(fail);rw[<-Yl.o];have y0:=Z.cc 0;have y1:=Z.cc 1;have y2:=Z.cc 2;have y3:=Z.cc 3;have yf:=Z.free
  go_wp2_with(first
   | (go_at_call 84;refine(EX Xu).mono ?_;rintro e w1 ⟨rfl,rfl⟩)
   | (go_at_call 85;refine(Xw.o _).mono ?_;rintro e w1 ⟨rfl,rfl⟩))
  have R:=((((Z.set 0 (iI 0)).set 1 (iI 0)).set 2 (iI 0)).set 3 (iI 0));have hl:=US _ _ 0 _ _ _ _ (R.cc 0) (R.cc 1) (R.cc 2) (R.cc 3);refine ζF (v:=.tuple #[.agg #[iI 0,iI 0,iI 0,iI 0],iI 5]) ?_ rfl (.inl ⟨Xa,rfl,?_⟩)
  ·rw[results_cell_tmp rfl];simp[asAddr,Result.andThen,hl]
  ·exact(ZDS (Xy.touch _)).gr
 ·have Xl:1<=room/\room<=4096:=Ω
  have Xw:Hid (∀W,Calls prog 85 #[iI room] W λe w'=>e=.returned (.tuple #[pP W.heap.size,iI 0])/\Gr W w'/\CA w' (λk=>W.heap.size<=k) W.heap.size [] room.toNat false):=⟨λW=>(VgV room W).mono λe w' h=>by
   rcases h with⟨h1,-⟩|⟨-,-,h1,h2,h3⟩
   ·omega
   ·exact⟨h1,h2,h3⟩⟩
  have Xa:=Xl;unfold Sp.v;go_enter func48,ntmps48;go_upto_region 1 with(fail);rw[<-Yl.o];obtain⟨gs,Yd⟩:∃gs,gs=wa.heap.size:=⟨_,rfl⟩;have Yv:=Yd
  go_upto_region 8 with(first
   | (go_at_call 84;refine(EX Xu).mono ?_;rintro e w1 ⟨rfl,rfl⟩)
   | (go_at_call 85;refine(Xw.o _).mono ?_;rintro e ws ⟨rfl,Yr,Xz⟩;have O:=Yr;have Yf:=Xz.cut)
   | (go_at_call 86;refine(Zca (Xu.gr O)).mono ?_;rintro e w3 ⟨rfl,Yy,Yx⟩;have Xf:=Yy;have Yz:=Yx))
  have Yb:Hid (CA ws (AD (λk=>w.heap.size+2<=k) ws) (w.heap.size+2) [] room.toNat false):=⟨by have:=Yf;rw[Yg]at this;exact this⟩;have Zd:=O.size;have hz3:=Xf.size;have Za:w.heap.size+2<=w3.heap.size:=Ω
  have E:∀i,AN m b1 b2 i->i<w.heap.size:=U;obtain⟨hv1,hv2,hvt,htm,Xd,Xc⟩:=Yj;have g2:Gr w3 ((w3.alloc (.cells #[.iface z.T z.rv,.pointer (some ⟨m,0,none⟩),.pointer (some ⟨w.heap.size+2,0,none⟩),.pointer none,.int .i64 0,.int .i64 0,.int .i64 0,.int .i64 0] 161)).alloc (.cells #[.pointer (some ⟨w3.heap.size,0,none⟩)] 158)):=((Gr.refl w3).alloc _).alloc _;have Xe:((w3.alloc (.cells #[.iface z.T z.rv,.pointer (some ⟨m,0,none⟩),.pointer (some ⟨w.heap.size+2,0,none⟩),.pointer none,.int .i64 0,.int .i64 0,.int .i64 0,.int .i64 0] 161)).alloc (.cells #[.pointer (some ⟨w3.heap.size,0,none⟩)] 158)).heap.size=w3.heap.size+2:=by rw[χ,χ]
  have Xn:=KY w3 (.cells #[.iface z.T z.rv,.pointer (some ⟨m,0,none⟩),.pointer (some ⟨w.heap.size+2,0,none⟩),.pointer none,.int .i64 0,.int .i64 0,.int .i64 0,.int .i64 0] 161) 158 [pP w3.heap.size];have rk:=(Rec.new w3 161 [.iface z.T z.rv,pP m,pP (w.heap.size+2),.pointer none,iI 0,iI 0,iI 0,iI 0]).gr ((Gr.refl _).alloc (.cells #[.pointer (some ⟨w3.heap.size,0,none⟩)] 158));obtain⟨W,hW⟩:∃W,W=((w3.alloc (.cells #[.iface z.T z.rv,.pointer (some ⟨m,0,none⟩),.pointer (some ⟨w.heap.size+2,0,none⟩),.pointer none,.int .i64 0,.int .i64 0,.int .i64 0,.int .i64 0] 161)).alloc (.cells #[.pointer (some ⟨w3.heap.size,0,none⟩)] 158)):=⟨_,rfl⟩;rw[<-hW]at g2 Xe⊢;rw[show (w3.alloc (.cells #[.iface z.T z.rv,.pointer (some ⟨m,0,none⟩),.pointer (some ⟨w.heap.size+2,0,none⟩),.pointer none,.int .i64 0,.int .i64 0,.int .i64 0,.int .i64 0] 161)).alloc (.cells ([.pointer (some ⟨w3.heap.size,0,none⟩)]:List Value).toArray 158)=W from hW.symm]at Xn;rw[show (w3.alloc (.cells ([.iface z.T z.rv,.pointer (some ⟨m,0,none⟩),.pointer (some ⟨w.heap.size+2,0,none⟩),.pointer none,.int .i64 0,.int .i64 0,.int .i64 0,.int .i64 0]:List Value).toArray 161)).alloc (.cells #[.pointer (some ⟨w3.heap.size,0,none⟩)] 158)=W from hW.symm]at rk;have tW:AB (AN m b1 b2) w W:=((Xy.trans O).touch _ |>.trans Xf).trans (g2.touch _)
  have J:∀i,i<w.heap.size->¬AN m b1 b2 i->¬(i=w3.heap.size\/AN m b1 b2 i\/AD (λk=>w.heap.size+2<=k) ws i):=λi hi hn h=>by
   rcases h with h|h|h
   ·omega
   ·exact hn h
   ·have:=h.1;omega
  have Xj:=Q3I (w:=W) (SV:=AD SV w) (SG:=AD (λk=>w.heap.size+2<=k) ws) (z:=z) (k:=w3.heap.size) (m:=m) (g:=w.heap.size+2) (R:=room.toNat) (b12:=w3.heap.size+1) (b5:=w.heap.size) (cp:=cp) (v:=v) (rs:=rs) (A:=A)
   HZ HF HP (λi hi=>⟨by have:=(HD i hi).1;omega,J i (HD i hi).1 (HD i hi).2⟩) (HZ.1.fr HV tW (λi _ h=>⟨λhi=>(Xq.o i hi).2 h,λhi=>(HD i hi).2 h⟩) (λ_ h=>h)) (Yz.gr g2) ((Yb.o.touch Xf (λi hi _ h=>by have:=E i h;have:=hi.1;omega)).gr g2) rk (tW.tab HT.lt htm HT)
   (Xn.cc 0) (by rw[<-HN.o];exact(((Yh.gr O).touch Xf (λh=>by have:=E _ h;omega)).gr g2).cell (j:=0) rfl) Ω Ω
   ((HA.mono (T':=λi=>i=w3.heap.size\/AN m b1 b2 i\/AD (λk=>w.heap.size+2<=k) ws i) (λb hb h=>by
    rcases h with h|h|h
    ·omega
    ·exact h
    ·have:=h.1;omega)).touch tW (λ_ _ h=>.inr (.inl h))) (by rw[<-HN.o];exact hlen)
   (λi hi=>⟨by have:=hi.2;omega,λh=>by
    rcases h with h|h|h
    ·have:=hi.2;omega
    ·exact(Xq.o i hi).2 h
    ·have:=hi.2;have:=h.1;omega⟩) (λi hi=>by have:=hi.2;omega) (J _ Xi Xd) (J _ Xh Xc) (J _ Yu htm) (λh=>hv1 h.1) (λh=>hv2 h.1) (λh=>hvt h.1) (λh=>by have:=E _ h;omega) (λh=>by have:=h.2;omega) (λi hi h=>by have:=E i hi;have:=h.1;omega)
  have Xo:=Xj;have Ym:=tW;have Yn:=Xn;have Yc:=(((Z.gr O).touch Xf (λh=>by have:=E _ h;omega)).gr g2);have Xv:=(ψ Za (ψ Xe Zd))
  have Yi:Hid (∀i,w.heap.size<=i->i<w.heap.size+2\/i=w3.heap.size+1->¬(i=w3.heap.size\/AN m b1 b2 i\/AD (λk=>w.heap.size+2<=k) ws i\/AD SV w i)):=⟨λi h1 h2 h=>by
   rcases h with h|h|h|h
   ·omega
   ·have:=E i h;omega
   ·have:=h.1;have:=h.2;omega
   ·have:=h.2;omega⟩
  unfold Sp.v at Xo;clear Xj tW Xn rk hW g2 J Xe E Xd Xc hv1 hv2 hvt htm Yd Yv;have hcf:=VUu;have hmf:∀(fn:Fn) (first cap:Array Value) (w:World),(Instr.makeFunc fn first cap).run prog w=.ok (.func fn first cap) w:=λ_ _ _ _=>rfl
  go_wp2_with(first
   | (go_at_call 87;refine Xo.mono ?_;rintro e w5 ⟨Xt,x,y,L,r,vi,rfl,Yq,(⟨rfl,Zb,Ye⟩|⟨rfl,Yw⟩)⟩ <;> (have Ys:=Xt;have Xk:=Yq;have Xx:=Yn.touch Xt (Yi.o _ (by have:=Xv.1;omega) (.inr rfl));have R8:=Yc.touch Xt (Yi.o _ Ω (.inl Ω));have x12:=Xx.cc 0;have l12:=Xx.lt;have l8:=R8.lt;have e0:=R8.cc 0;have e1:=R8.cc 1;have e2:=R8.cc 2;have e3:=R8.cc 3;have ef:=R8.free;obtain⟨wk,V⟩:=Yq.row;have k4:=V.cc 4;have k5:=V.cc 5;have k6:=V.cc 6;have k7:=V.cc 7;have lk:=V.lt;have Xp:=R8))
   | (go_at_call 86;refine(Zca (Xk.ext.gr ((Gr.refl _).alloc _))).mono ?_;rintro e w6 ⟨rfl,Yk,Zc⟩;have Xb:=(Xp.gr ((Gr.refl _).alloc (.cells #[.int .i64 25,.int .i64 y] 163))).touch Yk (λh=>by have:=U _ h;omega);have f0:=Xb.cc 0;have f1:=Xb.cc 1;have f2:=Xb.cc 2;have f3:=Xb.cc 3;have ff:=Xb.free;have Yo:=Xb;have Yp:=Yk;have Yt:=Zc))
  ·have B:=λW=>(Gr.refl W).alloc (.cells #[.int .i64 0,.int .i64 y] 163);have R:=(((((Xp).set 0 (iI (L.length:Nat))).set 1 (iI (sizes L:Nat))).set 2 (iI r)).set 3 (iI vi)).gr (B _);have hl:=US _ _ 0 _ _ _ _ (R.cc 0) (R.cc 1) (R.cc 2) (R.cc 3);have tf:=MO w5 (w.heap.size+1) (iI (L.length:Nat)) (iI (sizes L:Nat)) (iI r) (iI vi)
   have hT:AB (λi=>AN m b1 b2 i\/SV i) w w5:=(Ym.mono (λi _ h=>.inl h)).trans' Ys (λi hi h=>by
    rcases h with h|h|h|h
    ·have:=Xv.1;omega
    ·exact .inl h
    ·have:=h.1;omega
    ·exact .inr h.1)
   have Xr:=(hT.trans' tf (λi hi h=>by omega)).trans ((B _).touch _);refine ζF (v:=.tuple #[.agg #[iI (L.length:Nat),iI (sizes L:Nat),iI r,iI vi],iI 0]) ?_ rfl (.inr ⟨Xa.1,Xa.2,Xr,?_,.inl ⟨L,r,vi,rfl,?_,Zb,Ye⟩⟩)
   ·rw[results_cell_tmp rfl];simp[asAddr,Result.andThen,hl]
   ·exact HZ.1.mono (HZ.1.gr (HZ.1.fr Xk.vm tf (λi _ h=>⟨λhi=>by have:=hi.2;omega,λhi=>by have:=(HD i hi).1;omega⟩) (λ_ h=>h)) (B _)) (λi hi=>hi.1)
   ·have Y:∀i,i<w.heap.size->i≠w.heap.size+1:=λi h=>by omega
    exact(Xk.ext.touch tf (Y _ (U _ (.inl rfl))) (Y _ Xi) (Y _ (U _ (.inr (.inl rfl)))) (Y _ Xh) (Y _ (U _ (.inr (.inr rfl))))).gr (B _)
  ·have B:=(Gr.refl w5).alloc (.cells #[.int .i64 25,.int .i64 y] 163);have R:=(((((Yo).set 0 (iI 0)).set 1 (iI 0)).set 2 (iI 0)).set 3 (iI 0));have hl:=US _ _ 0 _ _ _ _ (R.cc 0) (R.cc 1) (R.cc 2) (R.cc 3);have tf:=MO w6 (w.heap.size+1) (iI 0) (iI 0) (iI 0) (iI 0)
   have hT:AB (λi=>AN m b1 b2 i\/SV i) w w5:=(Ym.mono (λi _ h=>.inl h)).trans' Ys (λi hi h=>by
    rcases h with h|h|h|h
    ·have:=Xv.1;omega
    ·exact .inl h
    ·have:=h.1;omega
    ·exact .inr h.1)
   have Xr:=((hT.trans (B.touch _)).trans (Yp.mono (λi _ h=>.inl h))).trans' tf (λi hi h=>by omega);refine ζF (v:=.tuple #[.agg #[iI 0,iI 0,iI 0,iI 0],iI 25]) ?_ rfl (.inr ⟨Xa.1,Xa.2,Xr,?_,.inr ⟨rfl,?_,Yw⟩⟩)
   ·rw[results_cell_tmp rfl];simp[asAddr,Result.andThen,hl]
   ·exact HZ.1.mono (HZ.1.fr (HZ.1.fr (HZ.1.gr Xk.vm B) Yp (λi _ h=>⟨λhi=>(Xq.o i hi).2 h,λhi=>(HD i hi).2 h⟩) (λ_ h=>h)) tf (λi _ h=>⟨λhi=>by have:=hi.2;omega,λhi=>by have:=(HD i hi).1;omega⟩) (λ_ h=>h)) (λi hi=>hi.1)
   ·have Y:∀i,i<w.heap.size->i≠w.heap.size+1:=λi h=>by omega
    exact Yt.touch tf (Y _ (U _ (.inl rfl))) (Y _ Xi) (Y _ (U _ (.inr (.inl rfl)))) (Y _ Xh) (Y _ (U _ (.inr (.inr rfl))))
def J6M(w:World)(SV:Nat->Prop)(q m p1 b1 p2 b2 n:Nat)(v:Vm)(rs:List Int)(room:Int)(e:Ending)(w':World):Prop:=
 ((room<1\/4096<room)/\e=.returned (.tuple #[L4 0 0 0 0,iI 5])/\Gr w w') ∨
 (1<=room/\room<=4096/\AB (λi=>AN m b1 b2 i\/SV i) w w'/\AC w' SV q v ∧
  ((∃L r vi,e=.returned (.tuple #[L4 (L.length:Nat) (sizes L:Nat) r vi,iI 0])/\Ext w' m p1 b1 p2 b2 n L/\BK v rs n L/\(L=[]->r=1/\vi=0)) ∨
   (e=.returned (.tuple #[L4 0 0 0 0,iI 25])/\Ext w' m p1 b1 p2 b2 n []/\¬CH v rs n)))
theorem VZ(hV:AC w SV q v)(hE:Ext w m p1 b1 p2 b2 n L0)(hT:AQ w)(hA:FK (AN m b1 b2) w A rs)(hlen:rs.length<=maxLen)
  (hvm:∀i,SV i->¬AN m b1 b2 i) (hv1:¬SV p1) (hv2:¬SV p2) (hvt:¬SV 1) (htm:¬AN m b1 b2 1) (room:Int):
  Calls prog 48 #[spV q,.slice A rs.length cp,pP m,iI room] w (J6M w SV q m p1 b1 p2 b2 n v rs room):=
 Xbg (z:=spM q) ⟨RK q,λh=>h⟩ (.inr ⟨q,rfl⟩) (λ_ _=>⟨λ_=>trivial,λ_ _=>trivial⟩) (λ_ h=>h.elim) hV hE hT hA hlen hvm hv1 hv2 hvt htm room
end
section
attribute [local go_sem] Oper.semAt_some
structure PP(v:Vm)(rs:List Int)(c:Cf):Prop where
 cf:H6 v.pl.pg v.n c
 sd:CH v rs v.n
 inn:∀L,BK v rs v.n L->(∀o∈L,c.fr<=o.1/\o.1+o.2<=c.tp)/\c.to+sizes L<=c.lm
def V1i(w:World)(S:Nat->Prop)(q:Nat)(v:Vm)(rs:List Int)(e:Ending)(w':World):Prop:=
 ∃L,BK v rs v.n L/\e=.returned (.tuple #[iI (sizes L:Nat),iI 0])/\AB S w w'/\AC w' (AD S w) q v
structure YY(w wx:World)(S:Nat->Prop)(q m p1 b1 p2 b2 b11:Nat)(v:Vm)(rs:List Int)(c:Cf)(L:List Ob)(r vi:Int):Prop where
 t:AB S w wx
 vm:AC wx (AD S w) q v
 ex:Ext wx m p1 b1 p2 b2 v.n L
 mks:BK v rs v.n L
 st:Rec wx b11 97 [iI (L.length:Nat),iI (sizes L:Nat),iI r,iI vi]
 bx:Rec wx w.heap.size 143 [iI c.fr,iI c.tp,iI c.to,iI c.lm,iI c.bk,iI c.st,iI c.ah]
 r6:Rec wx (w.heap.size+1) 3 [iI 0]
 r7:Rec wx (w.heap.size+2) 27 [iI 0]
 lm:w.heap.size+3<=m
 l1:w.heap.size+3<=p1
 l2:w.heap.size+3<=b1
 l3:w.heap.size+3<=p2
 l4:w.heap.size+3<=b2
 l5:w.heap.size+3<=b11
section
variable{r:Nat}{c:Cf}
theorem Qwc(hV:AC w S q v)(hR:AS w r g rs)(hT:AQ w)(htS:¬S 1)(hc:PP v rs c):
  Calls prog 134 #[pP q,pP r,cfV c] w (V1i w S q v rs):=by
 have HV:=hV.cut;have HR:=hR;have HT:=hT;have Zm:=htS;have HC:=hc;have Ji:=hT.lt;have Xv:=hc.cf;have Jk:1<=v.n:=by have:=Xv.fr;have:=Xv.tp;have:=Xv.tn;have:=hV.ok.page.1;omega
 have hn2:=hV.ok.n2;have Jl:rs.length≠0:=λe=>hR.ne (ζw e);have Jp:=hR.le;have HX:=(λW=>OF v.n Jk Ω W);have Jq:=(ψ Xv.st.1 Xv.st.2);obtain⟨n,Yh⟩:∃n,n=rs.length:=⟨_,rfl⟩;have HN:=ι Yh;rw[<-Yh]at Jl Jp;have d0:((n:Int)==0)=false:=by simp;omega
 have g1:Gr w (((w.alloc (.cells #[.int .i64 c.fr,.int .i64 c.tp,.int .i64 c.to,.int .i64 c.lm,.int .i64 c.bk,.int .i64 c.st,.int .i64 c.ah] 143)).alloc (.cells #[.int .i64 0] 3)).alloc (.cells #[.int .i64 0] 27)):=(((Gr.refl w).alloc _).alloc _).alloc _;have Zw:=g1;clear hV hR hT htS hc Xv Yh g1;refine(τ (n:=5)).1 ?_;refine callsIn_of_wp_marks func134 rfl trivial ?_ rfl;simp only[ntmps134,ζT,ζB,ζX,Nat.reduceAdd,Nat.reduceSub,ζL,ζK,ζZ,ζR,ζU,ζr];unfold cfV;gi_upto_region 1 with(fail);obtain⟨W0,Xn⟩:∃W0,W0=(((w.alloc (.cells #[.int .i64 c.fr,.int .i64 c.tp,.int .i64 c.to,.int .i64 c.lm,.int .i64 c.bk,.int .i64 c.st,.int .i64 c.ah] 143)).alloc (.cells #[.int .i64 0] 3)).alloc (.cells #[.int .i64 0] 27)):=⟨_,rfl⟩;have Zl:W0.heap.size=w.heap.size+3:=by rw[Xn];simp only[χ]
 have Zt:Gr w W0:=by rw[Xn];exact Zw
 have rb:Rec W0 w.heap.size 143 [iI c.fr,iI c.tp,iI c.to,iI c.lm,iI c.bk,iI c.st,iI c.ah]:=by rw[Xn];exact(Rec.new w _ [iI c.fr,iI c.tp,iI c.to,iI c.lm,iI c.bk,iI c.st,iI c.ah]).gr (((Gr.refl _).alloc _).alloc _)
 have r6:Rec W0 (w.heap.size+1) 3 [iI 0]:=by rw[Xn];exact(KY w _ 3 [iI 0]).gr ((Gr.refl _).alloc _)
 have r7:Rec W0 (w.heap.size+2) 27 [iI 0]:=by
  rw[Xn];have:=KY (w.alloc (.cells #[.int .i64 c.fr,.int .i64 c.tp,.int .i64 c.to,.int .i64 c.lm,.int .i64 c.bk,.int .i64 c.st,.int .i64 c.ah] 143)) (.cells #[.int .i64 0] 3) 27 [iI 0];rw[χ]at this;exact this
 rw[<-Xn];clear Xn Zw;have Xb:=Zt;have Zx:=rb;have Jh:=r6;have Je:=r7;obtain⟨z0,z1,z2,z3,z4,z5,z6,zl⟩:=rb.k7;have Yu:=(λ(W:World) (g:Gr w W)=>WU (HR.gr g));rw[<-HN.o]at Yu;have Zp:=(λ(W:World) (g:Gr w W)=>QzK (HV.gr g) HC.cf);unfold cfV at Zp;have Jc:=(λ(W:World) (g:Gr w W)=>I9 (HV.gr g));clear rb r6 r7 Zt
 gi_upto_region 7 with(first
  | (refine⟨trivial,?_⟩;gi_at_call 155;refine(τ.2 (Yu _ Xb)).mono ?_;rintro e w1 ⟨rfl,rfl⟩)
  | (refine⟨trivial,?_⟩;gi_at_call 156;refine(τ.2 (Zp _ Xb)).mono ?_;rintro e w1 ⟨rfl,U⟩;have Xi:=U;clear U)
  | (refine⟨trivial,?_⟩;gi_at_call 47;refine(τ.2 (Jc _ (Xb.trans Xi))).mono ?_;rintro e w2 ⟨rfl,rfl⟩)
  | (refine⟨trivial,?_⟩;gi_at_call 46;refine(τ.2 (HX _)).mono ?_;rintro e w3 ⟨m,p1,b1,p2,b2,rfl,Zk,Zh,Xk,Xu,Xp,Xw,Xm⟩;have O:=(Xi.trans Zk);have Xs:=Zh;have HB:=(ψ (γ Xi.size Xk) (ψ (γ Xi.size Xu) (ψ (γ Xi.size Xp) (ψ (γ Xi.size Xw) (γ Xi.size Xm)))));clear Zk Zh Xk Xu Xp Xw Xm))
 gi_cut [11,12]from 15 (λs11 s12 wx=>∃(E:Nat) (L:List Ob) (rv vi:Int),s11=pP E/\s12=iI 0/\Hid (YY w wx S q m p1 b1 p2 b2 E v rs c L rv vi))
 case first=>
  have Jb:=HB;obtain⟨Xk,Xu,Xp,Xw,Xm⟩:=Jb;rw[Zl]at Xk Xu Xp Xw Xm;have Yx:=Xs.hm;have Yw:=Xs.v1.hp;have Ym:=Xs.v1.hb;have Yv:=Xs.v2.hp;have Yi:=Xs.v2.hb
  have Xo:∀i,AN m b1 b2 i->w.heap.size+3<=i/\i<w3.heap.size:=λi hi=>by
   rcases hi with rfl|rfl|rfl
   ·exact⟨Xk,Yx⟩
   ·exact⟨Xp,Ym⟩
   ·exact⟨Xm,Yi⟩
  have Ze:=Xo;have Ye:=(λ(W:World) (g:Gr w3 W)=>SJ (HR.gr ((Xb.trans O).trans g)));rw[<-HN.o]at Ye
  have Ya:Hid (∀(W:World) (g1 cp:Nat),Gr w3 W->w3.heap.size<=g1->W.ownsRow 0 3 1 (.slice (some ⟨g1,0,none⟩) n cp) n (zs rs)->Calls prog 48 #[.iface 78 (pP q),.slice (some ⟨g1,0,none⟩) n cp,pP m,iI c.st] W λe w'=>
    ∃(L:List Ob) (rv vi:Int),e=.returned (.tuple #[.agg #[iI (L.length:Nat),iI (sizes L:Nat),iI rv,iI vi],iI 0])/\AB (λi=>AN m b1 b2 i\/AD S w i) W w'/\AC w' (AD S w) q v/\Ext w' m p1 b1 p2 b2 v.n L/\BK v rs v.n L):=⟨λW g1 cp hg U ho=>by
   rw[HN.o]at ho⊢;have Yq:=(Xb.trans O).trans hg;refine(VZ (HV.gr Yq) (Xs.gr hg) (Yq.tab HT.lt HT) (λi hi=>?_) (by unfold maxLen;have:=HN.o;omega) (λi hi h=>by have:=(Xo i h).1;have:=hi.2;omega) (λh=>by have:=h.2;omega) (λh=>by have:=h.2;omega) (λh=>Zm h.1) (λh=>by have:=(Xo _ h).1;omega) (c.st:Int)).mono ?_
   ·exact⟨g1,0,rfl,(BE ho rfl).2,λh=>by have:=(Xo _ h).2;omega,by rw[ξq];exact BP ho (LW hi)⟩
   ·rintro e w' (⟨h,-⟩|⟨-,-,ht,hv,(⟨L,r',vi,rfl,he,hm,-⟩|⟨-,-,hn⟩)⟩)
    ·have:=Jq;omega
    ·exact⟨L,r',vi,rfl,ht,hv,he,hm⟩
    ·exact absurd HC.sd hn⟩
  have Zb:Hid (∀(W1 W2 W3:World) (E:Nat) (L:List Ob) (rv vi:Int),Gr w3 W1->AB (λi=>AN m b1 b2 i\/AD S w i) W1 W2->AC W2 (AD S w) q v->Ext W2 m p1 b1 p2 b2 v.n L->BK v rs v.n L->AB (λi=>i=E) W2 W3->w3.heap.size<=E →
    Rec W3 E 97 [iI (L.length:Nat),iI (sizes L:Nat),iI rv,iI vi]->YY w W3 S q m p1 b1 p2 b2 E v rs c L rv vi):=⟨λW1 W2 W3 E L rv vi hg ht hv he hm ht3 hb hr=>by
   have hz3:=(Xb.trans O).size;have hz13:=O.size;have Yq:=(Xb.trans O).trans hg
   have Yy:∀i,i<w.heap.size+3->w.heap.size<=i->¬(AN m b1 b2 i\/AD S w i):=λi h1 h2 h=>by
    rcases h with h|h
    ·have:=(Xo i h).1;omega
    ·have:=h.2;omega
   refine⟨((Yq.touch _).trans (ht.mono (T:=λi=>AN m b1 b2 i\/S i) (λi _ h=>h.imp id (λh=>h.1)))).trans' (T:=λi=>i=E) ht3 (λi hi h=>by omega) |>.mono (λi hi h=>h.elim (λh=>by have:=(Xo i h).1;omega) id),hv.touch ht3 (λi hi _ h=>by have:=hi.2;omega),he.touch ht3 Ω Ω Ω Ω Ω,hm,hr,?_,?_,?_,Xk,Xu,Xp,Xw,Xm,by omega⟩
   ·exact((Zx.gr (O.trans hg)).touch ht (Yy _ Ω Ω)).touch ht3 Ω
   ·exact((Jh.gr (O.trans hg)).touch ht (Yy _ Ω Ω)).touch ht3 Ω
   ·exact((Je.gr (O.trans hg)).touch ht (Yy _ Ω Ω)).touch ht3 Ω⟩
  have Xg:=Zx.gr O;have x5:=Xg.cc 5;have Zf:=Xg.lt;have KS:Hid (∀W',Gr w3 W'->W'.cell? ⟨w.heap.size,5,none⟩=some (iI c.st)):=⟨λW' h=>(h.cell Zf 5).trans x5⟩
  have KT:Hid (∀W1 W',Gr w3 W1->AB (λi=>AN m b1 b2 i\/AD S w i) W1 W'->W'.cell? ⟨w.heap.size,5,none⟩=some (iI c.st)):=⟨λW1 W' h t=>(t.cell (κ Zf h.size) (λh=>by
   rcases h with h|h
   ·have:=(Ze _ h).1;omega
   ·have:=h.2;omega) 5).trans ((h.cell Zf 5).trans x5)⟩
  obtain⟨Sx,Yr⟩:∃Sx:World->Prop,Sx=λW'=>W'.cell? ⟨w.heap.size,5,none⟩=some (iI c.st):=⟨_,rfl⟩;have y1:∀p':AA Sx,p'.w.cell? ⟨w.heap.size,5,none⟩=some (iI c.st):=λp=>AA.get Yr p;have Zi:Sx w3.drew:=by rw[Yr];exact x5
  have I:=ι Yr;have inst:Inhabited (AA Sx):=⟨⟨_,Zi⟩⟩;clear Yr x5 Xg z0 z1 z2 z3 z4 z5 z6 zl Xo Xk Xu Xp Xw Xm Yx Yw Ym Yv Yi;refine ZK Sx (.two [0,1,2,4,5,6] 3 (.two [] 7 (.one [8,9,10] 11 (.one [] 12 (.fin [13]))) 11 (.one [] 7 (.one [8,9,10] 12 (.fin [13])))) 11 (.one [] 3 (.one [] 7 (.one [8,9,10] 12 (.fin [13]))))) GM Zi ?_;refine QG ?_;simp only[AF,ν,π]
  repeat(go_big_quiet_step (fail))
  refine ζb ⟨?_,?_⟩
  ·gi_wp2_with(refine⟨trivial,?_⟩;gi_at_call 49;refine(τ.2 (Ye _ (Gr.refl w3).drew)).mono ?_;rintro e w4 ⟨g1,c1,rfl,Xt,Yd,Xy⟩;have Y:=ι ((Gr.refl w3).drew.trans Xt);have Yp:=ι Xy;have Ys:=ι Yd;clear Xt Xy Yd);refine⟨AA.of (by rw[I.o];exact KS.o _ Y.o),?_⟩;refine QG ?_;simp only[AF,ν,π];refine ζb ⟨?_,?_⟩
   ·gi_wp2_with(refine⟨trivial,?_⟩;gi_at_call 48;refine(τ.2 (Ya.o _ g1 c1 Y.o Ys.o Yp.o)).mono ?_;rintro e w5 ⟨L,rv,vi,rfl,Xa,Xe,Xf,Xh⟩;have J:=ι Xa;have Yg:=ι Xe;have Yk:=ι Xf;have Yc:=ι Xh;clear Xa Xe Xf Xh);refine⟨AA.of (by rw[I.o];exact KT.o _ _ Y.o J.o),?_⟩;refine LZ ?_;have u5:=KT.o _ _ Y.o J.o;have Zq:=AT u5;gi_wp2;refine⟨AA.of (by rw[I.o];exact(((Gr.refl w5).alloc _).cell Zq 5).trans u5),?_⟩;refine I2 ?_;simp only[AF,ν,π];refine ζb ?_;gi_wp2;refine⟨AA.of (by rw[I.o];exact(((Gr.refl w5).alloc _).cell Zq 5).trans u5),?_⟩;refine M4 ?_;gi_wp2
    gi_meet
    exact⟨_,L,rv,vi,rfl,rfl,⟨Zb.o _ _ _ _ L rv vi Y.o J.o Yg.o Yk.o Yc.o (((Gr.refl w5).alloc _).touch _) (γ Y.o.size J.o.size) (Rec.new w5 _ [iI (L.length:Nat),iI (sizes L:Nat),iI rv,iI vi])⟩⟩
   ·have x4:=KS.o _ Y.o;have Zy:=AT x4;gi_wp2;refine⟨AA.of (by rw[I.o];exact(((Gr.refl w4).alloc _).cell Zy 5).trans x4),?_⟩;refine I2 ?_;simp only[AF,ν,π];refine ζb ?_;have Xd:=ι (Rec.new w4 97 [iI 0,iI 0,iI 0,iI 0]);have V:=ι (Y.o.alloc (.cells #[.int .i64 0,.int .i64 0,.int .i64 0,.int .i64 0] 97))
    have Yj:Hid (¬(AN m b1 b2 w4.heap.size\/AD S w w4.heap.size)):=⟨λh=>by
     have:=Y.o.size;rcases h with h|h
     ·have:=(Ze _ h).2;omega
     ·have:=h.2;have:=(Xb.trans O).size;omega⟩
    have Yf:Hid (¬w.heap.size=w4.heap.size):=⟨by have:=Y.o.size;omega⟩;have Zu:=ι (CM Yp.o ((Gr.refl w4).alloc (.cells #[.int .i64 0,.int .i64 0,.int .i64 0,.int .i64 0] 97)));have Yl:Hid (w3.heap.size<=w4.heap.size):=⟨Y.o.size⟩;obtain⟨bA,Xq⟩:∃bA,bA=w4.heap.size:=⟨_,rfl⟩;obtain⟨WA,Xl⟩:∃WA,WA=w4.alloc (.cells #[.int .i64 0,.int .i64 0,.int .i64 0,.int .i64 0] 97):=⟨_,rfl⟩;rw[show w4.alloc (.cells ([.int .i64 0,.int .i64 0,.int .i64 0,.int .i64 0]:List Value).toArray 97)=WA from Xl.symm]at Xd;rw[<-Xl]at V Zu⊢;rw[<-Xq]at Xd Yj Yf Yl⊢;clear Xq Xl x4 Zy;gi_wp2_with(refine⟨trivial,?_⟩;gi_at_call 48;refine(τ.2 (Ya.o _ g1 c1 V.o Ys.o Zu.o)).mono ?_;rintro e w5 ⟨L,rv,vi,rfl,Xa,Xe,Xf,Xh⟩;have J:=ι Xa;have Yg:=ι Xe;have Yk:=ι Xf;have Yc:=ι Xh;have Z:=ι (Xd.o.touch Xa (Yj.o));have q0:=Z.o.cc 0;have q1:=Z.o.cc 1;have q2:=Z.o.cc 2;have q3:=Z.o.cc 3;have qf:=Z.o.free;have ql:=Z.o.lt;clear Xa Xe Xf Xh);refine⟨AA.of (by rw[I.o];exact KT.o _ _ V.o J.o),?_⟩;refine LZ ?_;gi_wp2;have R5:=(((Z.o.set 0 (iI (L.length:Nat))).set 1 (iI (sizes L:Nat))).set 2 (iI rv)).set 3 (iI vi);have t5:=MO w5 bA (iI (L.length:Nat)) (iI (sizes L:Nat)) (iI rv) (iI vi);have KF:=(t5.cell (AT (KT.o _ _ V.o J.o)) Yf.o 5).trans (KT.o _ _ V.o J.o);refine⟨AA.of (by rw[I.o];exact KF),?_⟩;refine M4 ?_;gi_wp2
    gi_meet
    exact⟨_,L,rv,vi,rfl,rfl,⟨Zb.o _ _ _ _ L rv vi V.o J.o Yg.o Yk.o Yc.o t5 Yl.o R5⟩⟩
  ·gi_wp2;have x3:=KS.o _ (Gr.refl w3);have Jn:=AT x3;refine⟨AA.of (by rw[I.o];exact KS.o _ ((Gr.refl w3).alloc _).drew),?_⟩;refine I2 ?_;simp only[AF,ν,π];refine ζb ?_;have Xd:=ι ((Rec.new w3 97 [iI 0,iI 0,iI 0,iI 0]).gr (Gr.refl _).drew);have V:=ι ((Gr.refl w3).alloc (.cells #[.int .i64 0,.int .i64 0,.int .i64 0,.int .i64 0] 97)).drew
   have Yj:Hid (¬(AN m b1 b2 w3.heap.size\/AD S w w3.heap.size)):=⟨λh=>by
    rcases h with h|h
    ·have:=(Ze _ h).2;omega
    ·have:=h.2;have:=(Xb.trans O).size;omega⟩
   have Yf:Hid (¬w.heap.size=w3.heap.size):=⟨by omega⟩;have Yl:Hid (w3.heap.size<=w3.heap.size):=⟨ϑ _⟩;obtain⟨WA,Xl⟩:∃WA,WA=(w3.alloc (.cells #[.int .i64 0,.int .i64 0,.int .i64 0,.int .i64 0] 97)).drew:=⟨_,rfl⟩;rw[show (w3.alloc (.cells ([.int .i64 0,.int .i64 0,.int .i64 0,.int .i64 0]:List Value).toArray 97)).drew=WA from Xl.symm]at Xd;rw[<-Xl]at V⊢;clear Xl;obtain⟨bA,Xq⟩:∃bA,bA=w3.heap.size:=⟨_,rfl⟩;rw[<-Xq]at Xd Yj Yf;rw[show w3.heap.size<=w3.heap.size↔w3.heap.size<=bA by rw[Xq]]at Yl;rw[show w3.heap.size=bA from Xq.symm];clear Xq x3 Jn;gi_wp2_with(refine⟨trivial,?_⟩;gi_at_call 49;refine(τ.2 (Ye _ V.o)).mono ?_;rintro e w4 ⟨g1,c1,rfl,Xt,Yd,Xy⟩;have Y:=ι (V.o.trans Xt);have Zg:=ι (Xd.o.gr Xt);have Yp:=ι Xy;have Ys:=ι (γ V.o.size Yd);clear Xt Xy Yd);refine⟨AA.of (by rw[I.o];exact KS.o _ Y.o),?_⟩;refine I2 ?_;simp only[AF,ν,π];refine ζb ?_;gi_wp2_with(refine⟨trivial,?_⟩;gi_at_call 48;refine(τ.2 (Ya.o _ g1 c1 Y.o Ys.o Yp.o)).mono ?_;rintro e w5 ⟨L,rv,vi,rfl,Xa,Xe,Xf,Xh⟩;have J:=ι Xa;have Yg:=ι Xe;have Yk:=ι Xf;have Yc:=ι Xh;have Z:=ι (Zg.o.touch Xa (Yj.o));have q0:=Z.o.cc 0;have q1:=Z.o.cc 1;have q2:=Z.o.cc 2;have q3:=Z.o.cc 3;have qf:=Z.o.free;have ql:=Z.o.lt;clear Xa Xe Xf Xh);refine⟨AA.of (by rw[I.o];exact KT.o _ _ Y.o J.o),?_⟩;refine LZ ?_;gi_wp2;have R5:=(((Z.o.set 0 (iI (L.length:Nat))).set 1 (iI (sizes L:Nat))).set 2 (iI rv)).set 3 (iI vi);have t5:=MO w5 bA (iI (L.length:Nat)) (iI (sizes L:Nat)) (iI rv) (iI vi);have KF:=(t5.cell (AT (KT.o _ _ Y.o J.o)) Yf.o 5).trans (KT.o _ _ Y.o J.o);refine⟨AA.of (by rw[I.o];exact KF),?_⟩;refine M4 ?_;gi_wp2
   gi_meet
   exact⟨_,L,rv,vi,rfl,rfl,⟨Zb.o _ _ _ _ L rv vi Y.o J.o Yg.o Yk.o Yc.o t5 Yl.o R5⟩⟩
 case rest=>
  obtain⟨E,L,rv,vi,rfl,rfl,HI⟩:=hcut;clear z0 z1 z2 z3 z4 z5 z6 zl;obtain⟨Zo,Yt⟩:=HC.inn L HI.o.mks;have Ja:=ι Zo;have Zr:=ι Yt;clear Zo Yt;gi_wp2_with(refine⟨trivial,?_⟩;gi_at_call 144;refine(τ.2 (J5 (some ⟨m,0,none⟩))).mono ?_;rintro e w1 ⟨rfl,rfl⟩);obtain⟨W1,Xz⟩:∃W1,W1=wc.alloc (.cells #[.pointer (some ⟨m,0,none⟩)] 93):=⟨_,rfl⟩;have U:Gr wc W1:=by rw[Xz];exact(Gr.refl wc).alloc _
  have hs1:W1.heap.size=wc.heap.size+1:=by rw[Xz,χ]
  have k4:W1.cell? ⟨wc.heap.size,0,none⟩=some (pP m):=by
   rw[Xz];exact(Boxed.new wc 93 (pP m)).cell
  rw[<-Xz];have hex:=HI.o.ex;have Yx:=hex.hm;have Yw:=hex.v1.hp;have Ym:=hex.v1.hb;have Yv:=hex.v2.hp;have Yi:=hex.v2.hb;have hwz:=HI.o.t.size;have Za:AQ wc:=HI.o.t.tab Ji Zm HT;have Jo:=ι Za;have Zn:=Za.lt;have Zd:=HI.o.bx;have hrl:=Zd.lt;clear Xz Za hex;have tI:∀(j:Nat) A B,(AB (λi=>W1.heap.size<=i) W1 A/\j<=L.length)->AB (λi=>W1.heap.size<=i/\i<W1.heap.size+2+4) A B->(AB (λi=>W1.heap.size<=i) W1 B/\j<=L.length):=λj A B h t=>⟨h.1.trans (t.mono (λi _ h=>h.1)),h.2⟩
  refine LU (K:=4) (s0:=0) rfl Ω (gf:=187) (lb:=#[pP wc.heap.size]) rfl trivial (enters_of func187 (by kernel_rfl) rfl)
   (OY _ wc.heap.size m p1 b1 p2 b2 v.n L _) (λ_=>rfl)
   (λ(j:Nat) A=>AB (λi=>W1.heap.size<=i) W1 A/\j<=L.length) (λ_ _=>False) tI (λ_ _ _ h _=>h)
   (λj A h=>⟨(HI.o.ex.gr U).touch h.1 Ω Ω Ω Ω Ω,(U.tab Zn Jo.o).touch' h.1 Ω,(h.1.cell Ω Ω 0).trans k4,h.2⟩)
   ⟨AB.refl _ _,ζc _⟩ ?round ?done ?stop
  case round=>
   intro lp j x W3 hsz3 Xc Xj;dsimp only[GQ];gi_wp2;refine⟨Gr.refl _,λW4 ht4 hI4=>?_⟩
   have Yo:j<L.length:=by
    rcases δ j L.length with h|h
    ·exact h
    ·unfold EU at Xj;rw[ζJ h]at Xj;cases Xj
   obtain rfl:x=L[j]:=by unfold EU at Xj;rw[ω Yo]at Xj;exact(Option.some.inj Xj).symm
   obtain⟨i1,i2⟩:=Ja.o _ (μ Yo);have Yb:=(Zd.gr U).touch hI4.1 Ω;obtain⟨c0,c1,cl⟩:=Yb.k2;have Zj:=(HI.o.ex.good.sz _ (μ Yo)).2;obtain⟨sa,Zv⟩:∃s,s=L[j].1:=⟨_,rfl⟩;obtain⟨sz,Xr⟩:∃s,s=L[j].2:=⟨_,rfl⟩;rw[<-Zv]at i1 i2 Zj⊢;rw[<-Xr]at i2 Zj⊢;have e0:decide ((sa:Int)<(c.fr:Int))=false:=ζ Ω;have e1:decide ((c.tp:Int)<(sa:Int)+(sz:Int))=false:=ζ Ω;have e2:decide (sa<c.fr)=false:=ζ Ω;have Jr:=ι hI4;clear Xc hI4 Xj ht4 Zv Xr;gi_wp2;exact⟨AB.refl _ _,j+1,rfl,Jr.o.1,Yo⟩
  case done=>
   rintro D j W3 hD rfl Xc hK;have hs5l:=HI.o.l5;have hb11l:=HI.o.st.lt;have Yz:=(HI.o.st.gr U).touch Xc.1 Ω;have Xg:=(Zd.gr U).touch Xc.1 Ω;have Xx:=(HI.o.r6.gr U).touch Xc.1 (by have:=HI.o.r6.lt;omega);have Yn:=(HI.o.r7.gr U).touch Xc.1 (by have:=HI.o.r7.lt;omega);have a1:=Yz.cc 1;have al:=Yz.lt;have c3:=Xg.cc 3;have c2:=Xg.cc 2;have cl:=Xg.lt;have q0:=Xx.cc 0;have q1:=Xx.free 0;have ql:=Xx.lt;have p0:=Yn.cc 0;have p1':=Yn.free 0;have pl:=Yn.lt;have Zz:=Zr.o;have hlm:=HC.cf.ln;have Jm:=HI.o.vm;obtain⟨sz,Xr⟩:∃s,s=sizes L:=⟨_,rfl⟩;have Jf:=ι Xr;rw[<-Xr]at a1 Zz;have e0:decide ((c.lm:Int)-(c.to:Int)<(sz:Int))=false:=ζ Ω;have HK:=ι hK;have HD:=ι hD;have Zs:=ι Xc;have Xd:=ι Xx;have Jg:=ι Yn;have hs3:=Xc.1.size;clear hK hD Xc Xr Yz Xg Xx Yn;gi_wp2
   have tg:AB (λi=>i=w.heap.size+1\/i=w.heap.size+2) W3 ((W3.setCell ⟨w.heap.size+1,0,none⟩ (.int .i64 (sz:Int))).setCell ⟨w.heap.size+1+1,0,none⟩ (.int .i64 0)):=
    ((AB.refl _ W3).setCell (a:=⟨w.heap.size+1,0,none⟩) (λ_=>.inl rfl) _).setCell (a:=⟨w.heap.size+1+1,0,none⟩) (λ_=>.inr rfl) _
   have b6:Rec ((W3.setCell ⟨w.heap.size+1,0,none⟩ (.int .i64 (sz:Int))).setCell ⟨w.heap.size+1+1,0,none⟩ (.int .i64 0)) (w.heap.size+1) 3 [iI (sz:Int)]:=
    (Xd.o.set 0 (iI (sz:Int))).touch ((AB.refl (λi=>i=w.heap.size+1+1) _).setCell (a:=⟨w.heap.size+1+1,0,none⟩) (λ_=>rfl) _) Ω
   have b7:Rec ((W3.setCell ⟨w.heap.size+1,0,none⟩ (.int .i64 (sz:Int))).setCell ⟨w.heap.size+1+1,0,none⟩ (.int .i64 0)) (w.heap.size+2) 27 [iI 0]:=
    (Jg.o.touch ((AB.refl (λi=>i=w.heap.size+1) W3).setCell (a:=⟨w.heap.size+1,0,none⟩) (λ_=>rfl) (iI (sz:Int))) Ω).set 0 (iI 0)
   have hD:=HD.o;have Zc:=(tg.block D (ζp.1 HK.o).1 Ω).trans HK.o;generalize ((W3.setCell ⟨w.heap.size+1,0,none⟩ (.int .i64 (sz:Int))).setCell ⟨w.heap.size+1+1,0,none⟩ (.int .i64 0))=W5 at *
   have k6:=b6.cc 0;have k7:=b7.cc 0;rw[show w.heap.size+2=w.heap.size+1+1 from rfl]at k7;refine⟨by simp,.inl ⟨_,_,rfl,run_takeDeferred Zc,?_⟩⟩;have Jj:=cell_kept k6 (grownBy_putObj' _ D (.deferred none)) (λr e=>by cases e;exact⟨_,Zc,rfl⟩);have Jd:=cell_kept k7 (grownBy_putObj' _ D (.deferred none)) (λr e=>by cases e;exact⟨_,Zc,rfl⟩);have tD:AB (λi=>W1.heap.size<=i) W5 (W5.putObj D (.deferred none)):=DB _ D _ Ω;refine⟨.tuple #[iI (sz:Int),iI 0],?_,?_⟩
   ·simp[results,f134,go_sem,Jj,Jd]
   ·refine⟨L,HI.o.mks,by rw[Jf.o],?_,?_⟩
    ·exact(((HI.o.t.trans (U.touch _)).trans' Zs.o.1 (λi hi h=>by omega)).trans' tg (λi hi h=>by omega)).trans' tD (λi hi h=>by omega)
    ·exact(((Jm.gr U).touch Zs.o.1 (λi hi _ h=>by have:=hi.2;omega)).touch tg (λi hi _ h=>by have:=hi.2;omega)).touch tD (λi hi _ h=>by have:=hi.2;omega)
  case stop=>
   rintro D c W3 hD h hK;exact h.elim
end
end
theorem UR(h:AE v){t:Nat}(ht:t<=v.n)(hE:BD v f t=0)(hG:BY v v1 (BW v f t)){a:Nat}(h1:f<=a)(h2:a<t):v1.ldE a=0:=by
 have hF:BW v f t=BZ v ((f:Int)/v.pl.pg).toNat (C0 v f t):=by unfold BW;grind
 rw[hG.ldE h Ω,hF];by_cases h0:v.pt.getD (a/v.pl.pg) 0=0
 ·rw[θ];rw[OW];refine⟨?_,h0⟩;have e1:((f:Int)/(v.pl.pg:Int)).toNat=f/v.pl.pg:=by grind
  have e2:C0 v f t=(t-1)/v.pl.pg+1-f/v.pl.pg:=by
   unfold C0
   grind
  have g1:f/v.pl.pg<=a/v.pl.pg:=ζa h1;have g2:a/v.pl.pg<=(t-1)/v.pl.pg:=ζa Ω;omega
 ·split
  ·rfl
  ·rw[h.ldE_of Ω,φ h0]
theorem VGS(hf:f<=v.n):BD v f f=0/\BW v f f=[]:=by
 have hE:BD v f f=0:=by unfold BD;omega
 refine⟨hE,?_⟩;unfold BW
 simp_all
theorem Z25(h:AE v){c:Cf}(hc:PP v rs c)(hM:BK v rs v.n L)(hE:BD v c.to ((c.to+sizes L:Nat):Int)=0)(hG:BY v v1 (BW v c.to ((c.to+sizes L:Nat):Int)))
  (hm:∀a:Nat,c.fr<=a->a<c.tp->v.ldE a=0):DM v1 rs L c.to/\FV v1 L:=by
 obtain⟨Z,htot⟩:=hc.inn L hM;have hw:=hG.wider h;have hp:=h.page;have Y:=hc.cf;have hln:=Y.ln;have hto:=Y.to;refine⟨⟨hG.ok,?_,by omega,λo ho=>?_,λa h1 h2=>UR h Ω hE hG h1 h2,by rw[hG.n];omega⟩,λo ho m hmo=>?_⟩
 ·rw[hG.n];exact hw.marks hM
 ·have hi:=Z o ho;have hs:1<=o.2:=(hM.mkd.good.sz o ho).1
  have hsz:1<=sizes L:=by
   have:∀l:List Ob,o∈l->o.2<=sizes l:=λl=>by
    induction l with
    | nil=>intro h;cases h
    | cons b r ih=>
     intro h;simp only[sizes];rcases ζD.1 h with rfl|h
     ·omega
     ·have:=ih h;omega
   grind
  have hup:c.tp<=upN c.tp v.pl.pg:=by
   unfold upN;have h1:=ζv (c.tp+v.pl.pg-1) v.pl.pg;have h2:=ξU (c.tp+v.pl.pg-1) (show 0<v.pl.pg by omega)
   grind
  have hap:=Y.ap;omega
 ·have hi:=Z o ho;have:=hm (o.1+m) Ω Ω;exact(hw.le _ (by exact this)).1
structure UA(v:Vm)(rs:List Int)(c:Cf)(L:List Ob)(v1 v2:Vm)(k kq:Nat):Prop where
 gr:BY v v1 (BW v c.to ((c.to+sizes L:Nat):Int))
 cx:DM v1 rs L c.to
 fo:FV v1 L
 ke:k=(AR v1 rs k).length
 st:CpS v1 rs L c.to (AR v1 rs k) k 0 v2
 q1:∀j,j<kq->(c.fr/v.pl.pg+j)*v.pl.pg<c.tp
 q2:c.tp<=(c.fr/v.pl.pg+kq)*v.pl.pg
theorem VQN(v:Vm)(rs:List Int)(k:Nat)(h:j<=(AR v rs k).length):(AR v rs (k+1)).take j=(AR v rs k).take j:=by
 obtain⟨X,hX⟩:=VE v rs k
 grind
theorem YnT(h:k<(AR v rs k).length):AR v rs (k+1)=DL (AR v rs k) (DP v ((AR v rs k).getD k 0)):=by
 show (if _ then _ else _)=_
 rw[θ h]
theorem XeB(c:DM v rs L to){X:List Int}(hR:∀a∈O++X,Rch v rs a)(hl:∀a∈l,a=0\/a∈O):l.map (λa=>BX v (O++X) to a)=l.map (λa=>BX v O to a):=by
 apply ξL;intro a ha;exact Vqd v X to (λh=>by have:=(DH (c.mks.sound.rd _ (hR 0 h))).1;omega) (hl a ha)
def CpJ(w3:World)(S3:Nat->Prop)(K M q g:Nat)(v:Vm)(rs:List Int)(L:List Ob)(to:Nat)(i:Nat)(W:World)(out:List Int):Prop:=
 ∃O v' Si,(∀b,Si b->plus S3 w3 b)/\C8 W Si K M q v to O v'/\CpS v rs L to O 0 0 v'/\O=DL [] (rs.take i)/\out=(rs.take i).map (λa=>BX v O to a)/\AB (λb=>b=g\/(b=K\/b=M)\/S3 b) w3 W
structure CpL(w3 wr:World)(S3 Si:Nat->Prop)(K M q r g:Nat)(v:Vm)(rs out:List Int)(L:List Ob)(to k:Nat)(v':Vm):Prop where
 sub:∀b,Si b->plus S3 w3 b
 cat:C8 wr Si K M q v to (AR v rs k) v'
 st:CpS v rs L to (AR v rs k) k 0 v'
 oe:out=rs.map (λa=>BX v (AR v rs k) to a)
 t:AB (λb=>b=g\/(b=K\/b=M)\/S3 b) w3 wr
 rt:AS wr r g out
def YZS(w:World)(S:Nat->Prop)(q r g:Nat)(v:Vm)(rs:List Int)(c:Cf)(e:Ending)(w':World):Prop:=
 ∃L,BK v rs v.n L/\AB (λb=>b=g\/S b) w w' ∧
  ((BD v c.to ((c.to+sizes L:Nat):Int)≠0/\e=.returned (.tuple #[iI 0,iI (BD v c.to ((c.to+sizes L:Nat):Int))])/\IC w' (plus S w) q v []/\AS w' r g rs) ∨
   (BD v c.to ((c.to+sizes L:Nat):Int)=0/\e=.returned (.tuple #[iI ((c.to+sizes L:Nat):Int),iI 0]) ∧
   ∃v1 v2 k kq,UA v rs c L v1 v2 k kq/\AC w' (plus S w) q (umN v2 (c.fr/v.pl.pg) kq)/\AS w' r g (rs.map (λa=>BX v1 (AR v1 rs k) c.to a))))
theorem C8.touch{T:Nat->Prop}{v':Vm}(h:C8 w S K M q v to O v')(t:AB T w w')(hK:¬T K)(hM:¬T M)(hS:∀b,S b->b<w.heap.size->¬T b):C8 w' S K M q v to O v':=
 ⟨h.rc.touch t hK,h.mp.touch t hM,h.vm.touch t hS,h.nK,h.nM⟩
structure YE(w3:World)(S3:Nat->Prop)(K M r g:Nat):Prop where
 r3:r<w3.heap.size
 g3:g<w3.heap.size
 rK:r≠K
 rM:r≠M
 gK:g≠K
 gM:g≠M
 rS:¬S3 r
 gS:¬S3 g
structure UmI(w3 wx:World)(S3:Nat->Prop)(K M q r g:Nat)(v:Vm)(out:List Int)(tt q0 j pg tp:Nat):Prop where
 t:AB (λb=>b=g\/(b=K\/b=M)\/S3 b) w3 wx
 vm:∃Sj,(∀b,Sj b->plus S3 w3 b)/\AC wx Sj q (umN v q0 j)/\¬Sj K
 rc:Rec wx K 209 [pP q,.map (some M),iI tt]
 rt:AS wx r g out
 q1:∀i,i<j->(q0+i)*pg<tp
theorem UmI.gr{wx:World}{r:Nat}{out:List Int}{tt q0 pg tp:Nat}(h:UmI w3 wx S3 K M q r g v out tt q0 j pg tp)(g':Gr wx w'):UmI w3 w' S3 K M q r g v out tt q0 j pg tp:=by
 obtain⟨h1,⟨Sj,h2,h3,h4⟩,h5,h6,h7⟩:=h;exact⟨h1.trans (g'.touch _),⟨Sj,h2,h3.gr g',h4⟩,h5.gr g',h6.gr g',h7⟩
section
variable{r:Nat}
theorem Q0I(hcat:C8 w3 S3 K M q v1 to [] v1)(cx:DM v1 rs L to)(fo:FV v1 L)(hR:AS w3 r g rs)(hrs:∀a∈rs,0<=a/\a<=2147483647)(sp:YE w3 S3 K M r g):
  Calls prog 135 #[pP r,.func (.func 136) #[pP K] #[]] w3 λe w'=>e=.returned (.tuple #[])/\∃out v' Si,CpL w3 w' S3 Si K M q r g v1 rs out L to 0 v':=by
 have h0:CpJ w3 S3 K M q g v1 rs L to 0 w3 []:=⟨[],v1,S3,λb h=>.inl h,hcat,⟨ξN,(λ_ h=>by cases h),Cpd.nil cx.ok to,(λj hj=>absurd hj (ζC _)),.inr ⟨rfl,rfl⟩⟩,rfl,rfl,AB.refl _ _⟩;refine(XP (F:=136) (pre:=#[pP K]) (caps:=#[]) (CpJ w3 S3 K M q g v1 rs L to) (λ_ _=>by kernel_rfl) hR h0 ?_ ?_).mono ?_
 ·rintro i hi W out ho ⟨O,v',Si,h1,h2,h3,h4,h5,h6⟩ hz;refine⟨O,v',Si,h1,h2,h3,?_,?_,h6⟩
  ·rw[IV hi,UI,<-h4,hz];exact(θ (.inl rfl)).symm
  ·rw[IV hi,ζ5,<-h5,hz]
   show out++[0]=out++[BX v1 O to 0]
   rw[OT v1 _ (h3.zero cx)]
 ·rintro i hi W out ho ⟨O,v',Si,h1,h2,h3,h4,h5,h6⟩ J Xa W0 Z;obtain⟨q1,q2⟩:=hrs _ (μ hi);obtain⟨a,ha⟩:∃a:Nat,(a:Int)=rs[i]:=⟨rs[i].toNat,by omega⟩;have hr:Rch v1 rs a:=by rw[ha];exact Rch.root (μ hi) Xa
  have Y:=Zz2 (h2.gr Z) cx fo h3 (a:=a) (.inr hr) Ω;rw[ha]at Y;refine Y.mono ?_;rintro e W' ⟨D,rfl,ht,I,V⟩;have hzW:=h6.size;have hz0:=Z.size;have U:∀b,b<w3.heap.size->¬S3 b->¬Si b:=λb hb hn h=>(h1 b h).elim hn (λh=>by omega);have E:(a:Int)∈CN O a:=NK.2 (.inr ⟨rfl,by omega⟩);have B:0<=BX v1 (CN O (a:Int)) to a:=by have:=(UU v1 (to:Int) E).1;omega
  rw[<-ha]at V I⊢;refine⟨_,rfl,(J.gr Z).touch ht (λh=>?_) (λh=>?_),λW'' t''=>⟨CN O a,D,plus Si W0,λb hb=>?_,I.touch t'' (Ne.symm sp.gK) (Ne.symm sp.gM) (λb hb _ e=>?_),V,?_,?_,?_⟩⟩
  ·rcases h with(h|h)|h
   ·exact sp.rK h
   ·exact sp.rM h
   ·exact U _ sp.r3 sp.rS h
  ·rcases h with(h|h)|h
   ·exact sp.gK h
   ·exact sp.gM h
   ·exact U _ sp.g3 sp.gS h
  ·rcases hb with h|h
   ·exact h1 b h
   ·right;omega
  ·subst e;rcases hb with h|h
   ·exact U _ sp.g3 sp.gS h
   ·have:=sp.g3;omega
  ·rw[IV hi,UI,<-h4,<-ha]
  ·obtain⟨X,hX⟩:=V2 O (a:Int);rw[IV hi,ζ5,<-ha,Int.max_eq_left B];congr 1;rw[h5]
   have hl:∀b∈rs.take i,b=0\/b∈O:=λb hb=>by
    by_cases h0:b=0
    ·exact .inl h0
    ·right;rw[h4];exact R7.2 (.inr ⟨hb,h0⟩)
   rw[hX];exact(XeB cx (by rw[<-hX];exact V.rch) hl).symm
  ·refine((h6.trans (Z.touch _)).trans' ht (λb hb h=>?_)).trans (t''.mono (λb _ h=>.inl h));rcases h with h|h
   ·exact .inr (.inl h)
   ·exact(h1 b h).elim (λh=>.inr (.inr h)) (λh=>by omega)
 ·rintro e w' ⟨rfl,out,-,⟨O,v',Si,h1,h2,h3,h4,h5,h6⟩,J⟩;rw[ζ8]at h4 h5;have hO:O=AR v1 rs 0:=h4;subst hO;exact⟨rfl,out,v',Si,h1,h2,h3,h5,h6,J⟩
end
section
variable{r:Nat}{c:Cf}
theorem Qj5(hV:AC w S q v)(hR:AS w r g rs)(hT:AQ w)(htS:¬S 1)(hrS:¬S r)(hgS:¬S g)(hc:PP v rs c)(hm:∀a:Nat,c.fr<=a->a<c.tp->v.ldE a=0)(hrs:∀a∈rs,0<=a/\a<=2147483647):
  Calls prog 94 #[pP q,pP r,cfV c] w (YZS w S q r g v rs c):=by
 have HV:=hV.cut;have HR:=hR;have HT:=hT;have I:=(ψ htS (ψ hrS hgS));have HC:=hc;have HM:=hm;have Jy:=hrs;have Yb:=hc.cf;have Jq:=hV.ok.page;have Zt:=hV.ok;have hn2:=hV.ok.n2;have Jp:=hT.lt;have hrl:=hR.lt;have hto:=Yb.to;have hlm:=Yb.ln;have Jk:=Yb.fr;have Xf:=((Gr.refl w).alloc (.cells #[.int .i64 c.fr,.int .i64 c.tp,.int .i64 c.to,.int .i64 c.lm,.int .i64 c.bk,.int .i64 c.st,.int .i64 c.ah] 143));have rb:=Rec.new w 143 [iI c.fr,iI c.tp,iI c.to,iI c.lm,iI c.bk,iI c.st,iI c.ah];obtain⟨W0,Xv⟩:∃W0,W0=w.alloc (.cells #[.int .i64 c.fr,.int .i64 c.tp,.int .i64 c.to,.int .i64 c.lm,.int .i64 c.bk,.int .i64 c.st,.int .i64 c.ah] 143):=⟨_,rfl⟩;have hsz0:W0.heap.size=w.heap.size+1:=by rw[Xv,χ]
 rw[<-Xv]at Xf;rw[show w.alloc (.cells ([.int .i64 c.fr,.int .i64 c.tp,.int .i64 c.to,.int .i64 c.lm,.int .i64 c.bk,.int .i64 c.st,.int .i64 c.ah]:List Value).toArray 143)=W0 from Xv.symm]at rb;have Jz:=rb;have Zo:=(Qwc (HV.gr Xf) (HR.gr Xf) (Xf.tab Jp HT) (λh=>htS h.1) hc);obtain⟨z0,z1,z2,z3,z4,z5,z6,zl⟩:=rb.k7;have Za:=Yb;have Zi:=Zt;unfold cfV at Zo⊢;clear hV hR hT htS hrS hgS hc hm hrs rb Yb Zt;go_enter func94,ntmps94;go_upto_region 1 with(fail);rw[<-Xv];clear Xv;go_upto_region 4 with(go_at_call 134;refine Zo.mono ?_;rintro e w1 ⟨L,hM,rfl,Yf,Xx⟩;have Ye:=hM;have Yl:=Yf;have Yx:=Xx;have Xs:=(Jz.touch Yf (λh=>by have:=h.2;omega));have Yv:=ι ((HR.gr Xf).touch Yf (λh=>I.2.1 h.1) (λh=>I.2.2 h.1));obtain⟨y0,y1,y2,yl⟩:=Xs.k3;clear hM Yf Xx);obtain⟨Jn,Yn⟩:=HC.inn L Ye;obtain⟨nn,Yu⟩:∃nn,nn=sizes L:=⟨_,rfl⟩;have Xp:=ι Yu;rw[<-Yu]at Yn⊢;have Xu:(c.to:Int)+(nn:Int)=((c.to+nn:Nat):Int):=by push_cast;rfl
 have Zd:Hid (Calls prog 117 #[pP q,iI c.to,iI ((c.to:Int)+(nn:Int))] w1 λe w'=>e=.returned (iI (BD v c.to ((c.to+nn:Nat):Int)))/\AB (AD S w) w1 w'/\IC w' (plus (AD S w) w1) q v (BW v c.to ((c.to+nn:Nat):Int))):=⟨by
  rw[Xu];by_cases h0:nn=0
  ·subst h0;have hq:=VGS (v:=v) (f:=c.to) Ω;rw[ξm,hq.1,hq.2];refine(ZO Yx c.to c.to Ω (ϑ _)).mono ?_;rintro e w' ⟨rfl,hg⟩;exact⟨rfl,hg.touch _,v,BY.refl Zi,(Yx.gr hg).mono (λb hb=>.inl hb.1)⟩
  ·refine(QT Yx c.to (c.to+nn) Ω Ω).mono ?_;rintro e w' ⟨rfl,ht,v',hg,hv⟩
   exact⟨rfl,ht.mono (λb _ hb=>hb.1),v',hg,hv.mono (λb hb=>hb.imp (λh=>h.1) id)⟩⟩
 clear z0 z1 z2 z3 z4 z5 z6 zl Yu Xu;obtain⟨E,hE⟩:∃E,E=BD v c.to ((c.to+nn:Nat):Int):=⟨_,rfl⟩;have HE:=ι hE;rw[<-hE]at Zd;clear hE;by_cases Yh:E=0
 ·subst Yh;have Jg:=@run_makeMap prog;have hmf:∀(fn:Fn) (first cap:Array Value) (w:World),(Instr.makeFunc fn first cap).run prog w=.ok (.func fn first cap) w:=λ_ _ _ _=>rfl;go_upto_region 8 with(go_at_call 117;refine Zd.o.mono ?_;rintro e w2 ⟨rfl,Xd,Xw⟩;have Yc:=ι Xd;have Yr:=ι Xw;have Xe:=ι (Xs.touch Xd (λh=>by have:=h.2;omega));have Jb:=ι (Yv.o.touch Xd (λh=>I.2.1 h.1) (λh=>I.2.2 h.1));have x2:=Xe.o.cc 2;have xl:=Xe.o.lt;clear Xd Xw);obtain⟨v1,Yi,Xx⟩:=Yr.o;rw[Xp.o]at Yi;have hE:=HE.o;rw[Xp.o]at hE;obtain⟨cx,fo⟩:=Z25 Zi HC Ye hE.symm Yi HM;have hz1:=Yl.size;have hz2:=Yc.o.size;have Xb:∀b,AD (plus (AD S w) w1) w2 b->plus S w b/\b<w2.heap.size:=λb hb=>⟨hb.1.elim (λh=>.inl h.1) (λh=>.inr Ω),hb.2⟩
  have Xh:=KY w2 (.map #[] 0) 209 [pP q,.map (some w2.heap.size),iI c.to];have Xc:Gr w2 ((w2.alloc (.map #[] 0)).alloc (.cells #[.pointer (some ⟨q,0,none⟩),.map (some w2.heap.size),.int .i64 c.to] 209)):=((Gr.refl w2).alloc _).alloc _;have Xi:=(BI.made (P:=prog) (K:=3) w2).gr ((Gr.refl _).alloc (.cells #[.pointer (some ⟨q,0,none⟩),.map (some w2.heap.size),.int .i64 c.to] 209));obtain⟨M,hM⟩:∃M,M=w2.heap.size:=⟨_,rfl⟩;obtain⟨W3,Yg⟩:∃W3,W3=((w2.alloc (.map #[] 0)).alloc (.cells #[.pointer (some ⟨q,0,none⟩),.map (some w2.heap.size),.int .i64 c.to] 209)):=⟨_,rfl⟩;have hsz3:W3.heap.size=M+2:=by rw[Yg,χ,χ,hM]
  have hMw:w.heap.size<M:=by rw[hM];exact Xe.o.lt
  have hMw2:M<=w2.heap.size/\w2.heap.size<=M:=Ω
  rw[show (w2.alloc (.map #[] 0)).alloc (.cells ([.pointer (some ⟨q,0,none⟩),.map (some w2.heap.size),.int .i64 c.to]:List Value).toArray 209)=W3 from Yg.symm]at Xh;rw[<-Yg]at Xc Xi⊢;rw[<-hM]at Xh Xi Xb⊢;have hr1:=Yv.o.lt;have hr2:=Jb.o.lt;have Yo:C8 W3 (AD (plus (AD S w) w1) w2) (M+1) M q v1 c.to [] v1:=⟨by simpa[AI]using Xh,Xi.congr (λy=>by simp[K0]),Xx.cut.gr Xc,λh=>by have:=(Xb _ h).2;omega,λh=>by have:=(Xb _ h).2;omega⟩;have Zc:YE W3 (AD (plus (AD S w) w1) w2) (M+1) M r g:=⟨by omega,by omega,by omega,by omega,by omega,by omega,λh=>(Xb _ h).1.elim I.2.1 (λh=>by omega),λh=>(Xb _ h).1.elim I.2.2 (λh=>by omega)⟩;have Ju:=ι (Q0I Yo cx fo (Jb.o.gr Xc) Jy Zc);have Xr:=ι (ψ cx fo);have Yj:=ι Xc;have Yw:=ι Yi;have Jc:=ι Xb;have J:=ι Zc;have Jl:=(Xe.o.gr Xc).cell (j:=2) rfl;have Jj:=(Xe.o.gr Xc).lt;clear Yi Xx cx fo Yg hM Xc Xi Xh Yo Zc Xb x2 xl y0 y1 y2 yl hE;go_upto_region 9 with(go_at_call 135;refine Ju.o.mono ?_;rintro e w4 ⟨rfl,Yt,v',Si,hL⟩;have HL:=ι hL;clear hL)
  have Ys:Hid (∀W' S',AB (λb=>b=g\/(b=M+1\/b=M)\/AD (plus (AD S w) w1) w2 b) W3 W'->Gr W' S'->Rec S' w.heap.size 143 [iI c.fr,iI c.tp,iI c.to,iI c.lm,iI c.bk,iI c.st,iI c.ah]):=⟨λW' S' t g'=>((Xe.o.gr Yj.o).touch t (λh=>by
   have h2:=Xe.o.lt;have h3:=Yj.o.size;rcases h with h|h|h
   ·omega
   ·omega
   ·rcases h.1 with h|h
    ·have:=h.2;omega
    ·omega)).gr g'⟩
  have V:=Ys.o _ _ HL.o.t (Gr.refl _);have u2:=V.cc 2;have ul:=V.lt;clear V Jl Jj Jg;go_wp2
  go_loopw [12] (λs12 wr=>∃(k:Nat) (v':Vm) (Si:Nat->Prop),Hid (CpL W3 wr (AD (plus (AD S w) w1) w2) Si (M+1) M q r g v1 rs Yt L c.to k v')/\s12=iI ((c.to:Int)+AI v1 ((AR v1 rs k).take k))) (λs12 _=>((c.to:Int)+sizes L+1-intOf s12).toNat)
  case atStart=>exact⟨0,v',Si,HL,by simp[AI]⟩
  case round=>
   obtain⟨k,Xl,Zu,Y,rfl⟩:=hrel;obtain⟨cx,fo⟩:=Xr.o;have O:=Y.o.st.lt;have c2:=Y.o.cat.rc.cc 2;have Xo:=cx.sum Y.o.st.nd Y.o.st.rch;have Zf:=GH v1 ((AR v1 rs k).take k);have Zj:=SI v1 (AR v1 rs k) k;have Ya:=cx.top;have Zr:v1.n=v.n:=Yw.o.n;clear u2 ul;by_cases hk:k<(AR v1 rs k).length
   ·have Zx:=(DH (cx.mks.sound.rd _ (Y.o.st.rch _ (μ hk)))).2.1;have Je:=K8 v1 hk;have Zl:=SI v1 (AR v1 rs k) (k+1);have Zh:=ι (ZQS Y.o.cat cx fo Y.o.st hk);have HK:=ι hk;have Jh:Hid (AI v1 ((AR v1 rs k).take k)+1<=AI v1 ((AR v1 rs k).take (k+1))):=⟨by omega⟩;obtain⟨aa,Ze⟩:∃aa:Nat,(aa:Int)=c.to+AI v1 ((AR v1 rs k).take k):=⟨((c.to:Int)+AI v1 ((AR v1 rs k).take k)).toNat,by omega⟩;obtain⟨tt,Xk⟩:∃tt:Nat,(tt:Int)=c.to+AI v1 (AR v1 rs k):=⟨((c.to:Int)+AI v1 (AR v1 rs k)).toNat,by omega⟩;have Jd:=ι Ze;rw[<-Ze]at Zh⊢;rw[<-Xk]at c2;have e0:decide ((aa:Int)<(tt:Int))=true:=ξ Ω;have e1:decide (aa<tt)=true:=ξ Ω;have HB:=ι (ψ Zl Xo);clear hk Zx Je Zl Ze Xk cx fo O Xo Zf Zj Ya Zr;go_wp2_with(go_at_call 137;refine Zh.o.mono ?_;rintro e w5 ⟨v3,rfl,Xz,Zq,Zs⟩;have Xm:=ι Xz;have Jx:=ι Zq;have Jr:=ι Zs;clear Xz Zq Zs);go_round
    case rel=>
     have Zm:=YnT HK.o;refine⟨k+1,v3,plus Zu wr,⟨⟨λb hb=>?_,by rw[Zm];exact Jx.o,by rw[Zm];exact Jr.o,?_,?_,?_⟩⟩,?_⟩
     ·have:=Y.o.t.size;rcases hb with h|h
      ·exact Y.o.sub b h
      ·right;omega
     ·rw[Y.o.oe];obtain⟨X,hX⟩:=VE v1 rs k;have Zp:∀a∈AR v1 rs k++X,Rch v1 rs a:=λa ha=>V16 Xr.o.1 (k+1) a (by rw[hX];exact ha);rw[hX]
      exact(XeB Xr.o.1 Zp (λa ha=>by
       by_cases h0:a=0
       ·exact .inl h0
       ·exact .inr (Zqu v1 rs k a ha h0))).symm
     ·refine Y.o.t.trans' Xm.o (λb hb h=>?_);rcases h with h|h
      ·exact .inr (.inl h)
      ·exact(Y.o.sub b h).elim (λh=>.inr (.inr h)) (λh=>by omega)
     ·refine Y.o.rt.touch Xm.o (λh=>?_) (λh=>?_)
      ·rcases h with(h|h)|h
       ·exact J.o.rK h
       ·exact J.o.rM h
       ·exact(Y.o.sub _ h).elim J.o.rS (λh=>by have:=J.o.r3;omega)
      ·rcases h with(h|h)|h
       ·exact J.o.gK h
       ·exact J.o.gM h
       ·exact(Y.o.sub _ h).elim J.o.gS (λh=>by have:=J.o.g3;omega)
     ·rw[VQN v1 rs k (by have:=HK.o;omega)]
    case measure=>
     have h1:=Jh.o;have h2:=HB.o;have h3:=Jd.o;simp only[intOf];omega
   ·have Yk:k=(AR v1 rs k).length:=by
     rcases O with h|h
     ·exact absurd h hk
     ·exact h.1
    have Ja:=(cx.done Yk).2;rw[ψo (ξl Yk.symm)];obtain⟨tt,Xk⟩:∃tt:Nat,(tt:Int)=c.to+AI v1 (AR v1 rs k):=⟨((c.to:Int)+AI v1 (AR v1 rs k)).toNat,by omega⟩;have Zw:tt=c.to+sizes L:=Ω
    rw[<-Xk]at c2⊢;have e0:decide ((tt:Int)<(tt:Int))=false:=ζ Ω;have Xt:Xl.pl.pg=v.pl.pg:=Y.o.st.cp.sm.pg.trans Yw.o.pg;have Yq:=ι (λ(W:World) (g':Gr wr W)=>IY (Y.o.cat.vm.gr g'));rw[Xt]at Yq;have Zk:=ι (ψ Yk (ψ Ja Zw));have Js:Hid (Rec wr (M+1) 209 [pP q,.map (some M),iI tt]):=⟨by have:=Y.o.cat.rc;rw[<-Xk]at this;exact this⟩;obtain⟨pg,Xg⟩:∃pg,pg=v.pl.pg:=⟨_,rfl⟩;have Xy:=ι Xg;have Zv:=Za.af;have htp:=Za.tp;have htpn:=Za.tn;rw[<-Xg]at Yq Jq Zv Jk;obtain⟨q0,Xn⟩:∃q0,q0=c.fr/pg:=⟨_,rfl⟩
    have Yp:q0*pg=c.fr:=by
     have:=ζv c.fr pg;rw[Zv,ζW]at this;rw[Xn];omega
    have Zb:=ι Xn;have g1:((c.fr:Int).tdiv (pg:Int))=(q0:Int):=by rw[Xn];rfl
    have g2:((c.fr:Int)/(pg:Int))=(q0:Int):=by rw[Xn];rfl
    have hpg0:(pg:Int)≠0:=Ω
    have hq0n:q0<=524288:=by have:=ζ4 c.fr pg;omega
    have Ji:=ι Yp;have V:=Ys.o _ _ Y.o.t (Gr.refl _);obtain⟨u0,u1,ul⟩:=V.k2;have Jo:Hid (UmI W3 wr (AD (plus (AD S w) w1) w2) (M+1) M q r g Xl Yt tt q0 0 pg c.tp):=⟨Y.o.t,⟨Zu,Y.o.sub,Y.o.cat.vm,Y.o.cat.nK⟩,Js.o,Y.o.rt,λi hi=>absurd hi (ζC _)⟩;have HHK:=ι hk;have Jm:Hid (Xl.pl.pg=pg):=⟨by rw[Xt,Xg]⟩;clear V cx fo O Xo Zf Zj Ya Zr hk Yk Ja Xk Zw Xg Xn Xt Yp Jn Yn;go_upto_region 12 with(fail);obtain⟨Sx,U⟩:∃Sx:World->Prop,Sx=λW'=>W'.cell? ⟨w.heap.size,0,none⟩=some (iI c.fr):=⟨_,rfl⟩;have x1:∀p':AA Sx,p'.w.cell? ⟨w.heap.size,0,none⟩=some (iI c.fr):=λp=>AA.get U p;have Z:Sx wr.drew:=by rw[U];exact u0
    have Jw:=ι U;have D:Inhabited (AA Sx):=⟨⟨_,Z⟩⟩;clear U;refine AV Sx 6 [([0,1,2],3)] [4,5] Z ?_;refine AH ?_;go_wp2_with(go_at_call 138;refine(Yq.o _ (Gr.refl wr).drew).mono ?_;rintro e w5 ⟨rfl,rfl⟩);refine⟨.inr (AA.of Z),?_⟩;refine BG ?_;clear x1 Z D;clear Jw Sx;go_wp2
    go_loopw [13] (λs13 wx=>∃j:Nat,Hid (UmI W3 wx (AD (plus (AD S w) w1) w2) (M+1) M q r g Xl Yt tt q0 j pg c.tp)/\s13=iI ((q0+j:Nat):Int)) (λs13 _=>c.tp-(intOf s13).toNat*pg)
    case atStart=>exact⟨0,⟨Jo.o.gr (Gr.refl wr).drew⟩,rfl⟩
    case round=>
     obtain⟨j,HU,rfl⟩:=hrel;clear u0 u1 ul c2;obtain⟨Sj,Zz,Yz,Zn⟩:=HU.o.vm;have V:=Ys.o _ _ HU.o.t (Gr.refl _);have u1:=V.cc 1;have Yy:=IY (Yz.gr (Gr.refl wr).drew);rw[(LY Xl q0 j).2.1,Jm.o]at Yy;have Ym:=ι Yy;have Zy:=ι Yz;have B:=ι (ψ Zz Zn);obtain⟨qq,Xq⟩:∃qq,qq=q0+j:=⟨_,rfl⟩;obtain⟨pp,Xj⟩:∃pp,pp=qq*pg:=⟨_,rfl⟩
     have hppb:pp<=1048576:=by
      rcases ζG j with h0|h0
      ·rw[Xj,Xq,h0,ξm,Ji.o];omega
      ·have:=HU.o.q1 (j-1) Ω;have e:pp=(q0+(j-1))*pg+pg:=by rw[Xj,Xq,show q0+j=(q0+(j-1))+1 by omega,ξg,ξC]
       omega
     have hqb:qq<=pp:=by rw[Xj];exact ξ3 _ Ω
     have hmul:((qq:Int)*(pg:Int))=(pp:Int):=by rw[Xj];push_cast;rfl
     have Xa:=ι (ψ Xq Xj);rw[<-Xq];clear V Yy Yz Zz Zn Xq Xj;by_cases O:pp<c.tp
     ·have e1:decide ((pp:Int)<(c.tp:Int))=true:=ξ Ω;have e2:decide (pp<c.tp)=true:=ξ O;have Yd:=ι O;have Jv:=ι (λ(W:World) (g':Gr wr W)=>NB (Zy.o.gr g') (qq:Int));clear O;go_upto_region 13 with(fail);obtain⟨Sx,U⟩:∃Sx:World->Prop,Sx=λW'=>W'.cell? ⟨w.heap.size,1,none⟩=some (iI c.tp):=⟨_,rfl⟩;have x1:∀p':AA Sx,p'.w.cell? ⟨w.heap.size,1,none⟩=some (iI c.tp):=λp=>AA.get U p;have Z:Sx wr.drew:=by rw[U];exact u1
      have D:Inhabited (AA Sx):=⟨⟨_,Z⟩⟩;clear U;refine AV Sx 7 [([0,1,4,5],2)] [3,6] Z ?_;refine AH ?_;go_wp2_with(go_at_call 138;refine Ym.o.mono ?_;rintro e w5 ⟨rfl,rfl⟩);refine⟨.inr (AA.of Z),?_⟩;refine BG ?_;clear x1 Z D;clear Sx;go_wp2_with(go_at_call 139;refine(Jv.o _ (Gr.refl wr).drew).mono ?_;rintro e w5 ⟨rfl,Xz,Zg⟩;have Xm:=ι Xz;have Jt:=ι Zg;clear Xz Zg);go_round
      case rel=>
       have Jf:=HU.o.t.size;refine⟨j+1,⟨⟨?_,⟨plus Sj wr.drew,λb hb=>?_,?_,λh=>?_⟩,?_,?_,λi hi=>?_⟩⟩,?_⟩
       ·refine(HU.o.t.trans ((Gr.refl wr).drew.touch _)).trans' Xm.o (λb hb h=>?_);exact(B.o.1 b h).elim (λh=>.inr (.inr h)) (λh=>by omega)
       ·rcases hb with h|h
        ·exact B.o.1 b h
        ·right;exact γ Jf h
       ·have:=Jt.o;rw[Xa.o.1]at this;exact this
       ·rcases h with h|h
        ·exact B.o.2 h
        ·have:=HU.o.rc.lt;exact absurd this (ξf h)
       ·exact(HU.o.rc.gr (Gr.refl wr).drew).touch Xm.o B.o.2
       ·refine(HU.o.rt.gr (Gr.refl wr).drew).touch Xm.o (λh=>?_) (λh=>?_)
        ·exact(B.o.1 _ h).elim J.o.rS (λh=>by have:=J.o.r3;omega)
        ·exact(B.o.1 _ h).elim J.o.gS (λh=>by have:=J.o.g3;omega)
       ·rcases δ i j with h|h
        ·exact HU.o.q1 i h
        ·obtain rfl:i=j:=Ω
         rw[<-Xa.o.1,<-Xa.o.2];exact Yd.o
       ·rw[show q0+(j+1)=qq+1 by rw[Xa.o.1];omega]
        go_num
      case measure=>
       have h1:=Yd.o;have h2:=Xa.o.2;simp only[intOf];rw[show ((qq:Int)+1).toNat=qq+1 by omega,υ,ξg,ξC,<-h2];omega
     ·have e1:decide ((pp:Int)<(c.tp:Int))=false:=ζ Ω;have e2:decide (pp<c.tp)=false:=ζ O;have Yd:=ι O;have c2:=HU.o.rc.cc 2;have c2l:=HU.o.rc.lt;clear O;go_upto_region 13 with(fail);obtain⟨Sx,U⟩:∃Sx:World->Prop,Sx=λW'=>W'.cell? ⟨w.heap.size,1,none⟩=some (iI c.tp):=⟨_,rfl⟩;have x1:∀p':AA Sx,p'.w.cell? ⟨w.heap.size,1,none⟩=some (iI c.tp):=λp=>AA.get U p;have Z:Sx wr.drew:=by rw[U];exact u1
      have D:Inhabited (AA Sx):=⟨⟨_,Z⟩⟩;clear U;refine AV Sx 7 [([0,1,4,5],2)] [3,6] Z ?_;refine AH ?_;go_wp2_with(go_at_call 138;refine Ym.o.mono ?_;rintro e w5 ⟨rfl,rfl⟩);refine⟨.inr (AA.of Z),?_⟩;refine BG ?_;clear x1 Z D;clear Sx;go_wp2;go_ret2;have hz3:=Yj.o.size;have Ua:AB (λb=>b=g\/S b) w W3:=(((Xf.touch _).trans (Yl.mono (λi _ h=>.inr h.1))).trans (Yc.o.mono (λi _ h=>.inr h.1))).trans (Yj.o.touch _);have hE:=HE.o;rw[Xp.o]at hE;refine⟨L,Ye,?_,.inr ⟨hE.symm,?_,v1,Xl,k,j,⟨Yw.o,Xr.o.1,Xr.o.2,Zk.o.1,Y.o.st,?_,?_⟩,?_,?_⟩⟩
      ·refine(Ua.trans' HU.o.t (λb hb h=>?_)).trans ((Gr.refl wr).drew.touch _);rcases h with h|h|h
       ·exact .inl h
       ·omega
       ·exact(Jc.o b h).1.elim .inr (λh=>by omega)
      ·rw[<-Zk.o.2.2];exact BL rfl rfl
      ·intro i hi;rw[<-Xy.o,<-Zb.o];exact HU.o.q1 i hi
      ·rw[<-Xy.o,<-Zb.o,<-Xa.o.1,<-Xa.o.2];have:=Yd.o;omega
      ·rw[<-Xy.o,<-Zb.o];refine(Zy.o.gr (Gr.refl wr).drew).mono (λb hb=>?_);exact(B.o.1 b hb).elim (λh=>(Jc.o b h).1) (λh=>.inr Ω)
      ·rw[<-Y.o.oe];exact HU.o.rt.gr (Gr.refl wr).drew
 ·have d0:(E !=0)=true:=by simpa using Yh
  go_wp2_with(go_at_call 117;refine Zd.o.mono ?_;rintro e w2 ⟨rfl,Xd,Xw⟩;have Yc:=ι Xd;have Yr:=ι Xw;clear Xd Xw);go_ret2;refine⟨L,Ye,?_,.inl ⟨?_,?_,?_,?_⟩⟩
  ·exact(((Xf.touch _).trans (Yl.mono (λi _ h=>.inr h.1))).trans (Yc.o.mono (λi _ h=>.inr h.1)))
  ·rw[<-Xp.o,<-HE.o];exact Yh
  ·rw[<-Xp.o,<-HE.o];exact BL rfl rfl
  ·have hF:BW v c.to ((c.to+nn:Nat):Int)=[]:=by unfold BW;rw[φ (λh=>Yh (HE.o.trans h.1))]
   obtain⟨v',hg,hv⟩:=Yr.o;rw[hF]at hg;have:=Yl.size;exact⟨v',hg,hv.mono (λb hb=>hb.elim (λh=>.inl h.1) (λh=>.inr Ω))⟩
  ·exact Yv.o.touch Yc.o (λh=>I.2.1 h.1) (λh=>I.2.2 h.1)
end
end Go.Proofs.YtggjoonlcjjgkaaGreatDoor
