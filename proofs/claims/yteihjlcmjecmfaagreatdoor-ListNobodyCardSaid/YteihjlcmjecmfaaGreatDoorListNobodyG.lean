/- Part 7 of what ListNobody leans on: my own lemmas, merged by shake.py. -/
import Derived.Test.YteihjlcmjecmfaaGreatDoorListNobodyF
import Derived.Deep.LoopGhost
namespace Go.Proofs.YteihjlcmjecmfaaGreatDoor
open _root_.Go.Proofs.Tryz
set_option maxHeartbeats 6400000
set_option maxRecDepth 100000
section
open Go.RowKit
section
variable {F:Fence} {n:Nat} {P:Program}
def VZU(K:Nat){σ α:Type}(F:Fence)(n:Nat)(P:Program)(g:Nat)(lb:Array Value)(encs:α->Array Value)(Inv:σ->World->Prop)(gives:σ->α->Prop)(next:σ->α->σ->Prop)(fin:σ->Prop)(s0:σ)(w:World):Prop:=
 ∀(l:Nat) (J:σ->World->Prop) (Jx:World->Prop) (W:World),Gr w W->(∀s A B,J s A->XF4 (λk=>W.heap.size<=k/\k<W.heap.size+K) A B->J s B)->(∀A B,Jx A->XF4 (λk=>W.heap.size<=k/\k<W.heap.size+K) A B->Jx B)->(∀s A,J s A->Inv s A) →
  (∀s x W1,J s W1->W.heap.size+K<=W1.heap.size->gives s x->YieldAt F (n-1) P l (encs x) W1 λe W'=>((e=.returned (.bool true)/\∃s',next s x s'/\J s' W')\/(e=.returned (.bool false)/\Jx W'))/\XF4 (λk=>k<W.heap.size\/W.heap.size+K<=k) W1 W') →
  J s0 W->CallsIn F n P g (#[.func (.yield l) #[] #[]]++lb) W λe W'=>(∃v,e=.returned v)/\((∃s,fin s/\J s W')\/Jx W')
def Y3E{σ α:Type}(B K:Nat)(I:σ->World->Prop)(Ix:Code->World->Prop)(next:σ->α->σ->Prop)(s:σ)(x:α)(W:World):Exit->Act->World->Prop
 | .normal,_,W'=>XF4 (λk=>k<B\/B+K<=k) W W'/\∃s',next s x s'/\I s' W'
 | .ret,_,W'=>XF4 (λk=>k<B\/B+K<=k) W W'/\Ix .ret W'
 | .exit id,_,W'=>XF4 (λk=>k<B\/B+K<=k) W W'/\Ix (.exit id) W'
 | .goto t,_,W'=>XF4 (λk=>k<B\/B+K<=k) W W'/\Ix (.goto t) W'
 | _,_,_=>False
theorem ZAK.toU{σ α:Type}{g:Nat}{lb:Array Value}{encs:α->Array Value}{Inv:σ->World->Prop}{gives:σ->α->Prop}{next:σ->α->σ->Prop}{fin:σ->Prop}{s0:σ}{w:World}(h:ZAK F n P g lb encs Inv gives next fin s0 w):VZU 0 F n P g lb encs Inv gives next fin s0 w:=by
 intro l J Jx W hg hJ U hI hY h0;refine h l (λs A=>J s A/\W.heap.size<=A.heap.size) Jx W hg (λs A B hs hAB=>⟨hJ s A B hs.1 (hAB.touch _),ζb hs.2 hAB.size⟩) (λA B hs hAB=>U A B hs (hAB.touch _)) (λs A hs=>hI s A hs.1) ?_ ⟨h0,π _⟩ |>.mono ?_
 ·rintro s x W1 ⟨hs,Z⟩ hx;refine(hY s x W1 hs Z hx).mono ?_;rintro e W' ⟨⟨he,s',hn,Y⟩|⟨he,V⟩,ht⟩
  ·exact .inl ⟨he,s',hn,Y,ζb Z ht.size⟩
  ·exact .inr ⟨he,V⟩
 ·rintro e W' ⟨hv,⟨s,hs,Y,_⟩|hx⟩
  ·exact⟨hv,.inl ⟨s,hs,Y⟩⟩
  ·exact⟨hv,.inr hx⟩
theorem JYJ{σ α:Type}{g:Operand}{ps:Array Tmp}{assign body:Code}{Q:Exit->Act->World->Prop}{a:Act}{w:World}
  (hro:F.round=none) (h1:1<=n) {gf:Nat} {lb:Array Value} (hg:a.eval g=.func (.func gf) #[] lb) (hFg:F.fn gf) (eg:∀args w,(callFunc gf args).run P w=.ok (.enter gf args) w)
  {encs:α->Array Value} {Inv:σ->World->Prop} {gives:σ->α->Prop} {next:σ->α->σ->Prop} {fin:σ->Prop} {s0:σ} {K:Nat} (hseq:VZU K F (n-1) P gf lb encs Inv gives next fin s0 w)
  (hps:∀x,(encs x).size=ps.size)
  (I:σ->World->Prop) (Ix:Code->World->Prop) (hI:∀s A B,I s A->XF4 (λk=>w.heap.size<=k/\k<w.heap.size+2+K) A B->I s B) (hIx:∀c A B,Ix c A->XF4 (λk=>w.heap.size<=k/\k<w.heap.size+2+K) A B->Ix c B)
  (hInv:∀s A,I s A->Inv s A) (h0:I s0 w)
  (hround:∀(l:Nat) (s:σ) (x:α) (W:World),w.heap.size+2+K<=W.heap.size->I s W->gives s x →
   assign.wpIn (F.inRound l) (n-1-1) P (Exit.then (λa' Wa=>Gr W Wa/\∀W2,XF4 (λk=>k=w.heap.size+1) Wa W2->I s W2->body.wpIn (F.inRound l) (n-1-1) P (Y3E w.heap.size (2+K) I Ix next s x W2) a' W2) (λ_ _ _=>False))
    {tmps:=(ps.zip (encs x)).foldl (λt (p,v)=>t.setIfInBounds p v) a.tmps,defers:=[]} W)
  (hdone:∀(D:Nat) (s:σ) (W:World),D=w.heap.size->fin s->I s W->W.heap[D]?=some (.deferred (some []))->Q .normal {a with defers:={target:=.collected D,args:=#[]} :: a.defers} W)
  (hstop:∀(D:Nat) (c:Code) (W:World),D=w.heap.size->Ix c W->W.heap[D]?=some (.deferred (some []))->c.wpIn F n P Q {a with defers:={target:=.collected D,args:=#[]} :: a.defers} W):
  (Code.rangeFunc g ps assign body).wpIn F n P Q a w:=by
 refine wpIn_rangeFunc ?_;intro fn Xj;rw[hro];obtain⟨Z,J⟩:∃Z:LoopState->Option Code->Loop,Z=λst pe=>{state:=st,pending:=pe,fn,tmps:=a.tmps,params:=ps,assign,body,defers:=w.heap.size}:=⟨_,rfl⟩;obtain⟨W1,Xa⟩:∃W1,(w.alloc (.deferred (some []))).alloc (.loop (Z .ready none))=W1:=⟨_,rfl⟩
 have Xi:W1.heap[w.heap.size+1]?=some (.loop (Z .ready none)):=by
  rw[<-Xa];have:=ξM (w.alloc (.deferred (some []))) (.loop (Z .ready none));rwa [η]at this
 have Xk:W1.heap[w.heap.size]?=some (.deferred (some [])):=by
  rw[<-Xa];exact(Below.heap_alloc _ _ _ (by simp)).trans (ξM w _)
 have Xd:Gr w W1:=by rw[<-Xa];exact((Gr.refl w).alloc _).alloc _
 have tt:∀{A B:World},Gr A B->XF4 (λk=>w.heap.size<=k/\k<w.heap.size+2+K) A B:=λh=>h.touch _;have Y:∀{A:World} {k:Nat} {o:Obj},A.heap[k]?=some o->k<A.heap.size:=λh=>(ζn.1 h).1
 refine⟨w.heap.size+1,[{target:=.collected w.heap.size,args:=#[]}],W1,{target:=.fn (.func gf) lb,args:=#[.func (.yield (w.heap.size+1)) #[] #[]]},W1,gf,
  #[.func (.yield (w.heap.size + 1)) #[] #[]] ++ lb, W1, ?_, ?_, ?_, ?_, λ_ => h1, ?_⟩
 ·rw[<-Xa,J];exact run_enterLoop_outer _ _ _ _ _
 ·simp only[resolve,hg];simp[go_sem]
 ·intro f' Xg;simp[Target.leads]at Xg;subst Xg;exact hFg
 ·simp[invoke,go_sem,eg]
 ·have hs1:W1.heap.size=w.heap.size+2:=by rw[<-Xa];simp
  refine(hseq (w.heap.size+1)
   (λs W=>I s W/\W.heap[w.heap.size+1]?=some (.loop (Z .ready none))/\W.heap[w.heap.size]?=some (.deferred (some [])))
   (λW=>∃c,Ix c W/\W.heap[w.heap.size+1]?=some (.loop (Z .done (some c)))/\W.heap[w.heap.size]?=some (.deferred (some [])))
   W1 Xd
   (λs A B hs ht=>⟨hI s A B hs.1 (ht.mono (λk _ h=>by omega)),(ht.block _ (Y hs.2.1) Ω).trans hs.2.1,(ht.block _ (Y hs.2.2) Ω).trans hs.2.2⟩)
   (λA B hs ht=>by
    obtain⟨c,hc,hl,hk⟩:=hs
    exact⟨c,hIx c A B hc (ht.mono (λk _ h=>by omega)),(ht.block _ (Y hl) Ω).trans hl,(ht.block _ (Y hk) Ω).trans hk⟩)
   (λs A hs=>hInv s A hs.1) ?_ ⟨hI _ _ _ h0 (tt Xd),Xi,Xk⟩).mono ?_
  ·rintro s x W ⟨hi,hl,hk⟩ hszW Xl;have Xc:w.heap.size+1<W.heap.size:=Y hl;have hy:=run_yield (P:=P) (args:=encs x) hl (by rw[J];exact hps x);rw[J]at hy;refine⟨fn,_,assign,body,hy,roundIn_of_wpIn Xj (wpIn_mono (hround _ s x W Ω hi Xl) ?_)⟩;rintro e a' Wa hp;cases e with
   | normal=>?_
   | _=>exact False.elim hp
   obtain⟨L,E⟩:=hp
   replace hl:=(L.block Xc).trans hl
   replace hk:=(L.block Ω).trans hk
   replace Xc:=Y hl
   replace hi:=hI _ _ _ hi (tt L)
   clear hy;revert E L;generalize W=W0;intro L E;obtain⟨W,rfl⟩:∃W,W=Wa:=⟨_,rfl⟩;refine⟨_,run_beginRound hl (by rw[J]),?_⟩;have Xf:(W.putObj (w.heap.size+1) (.loop {Z .ready none with state:=.busy})).heap[w.heap.size+1]?=some (.loop {Z .ready none with state:=.busy}):=ξJ Xc;have Xh:(W.putObj (w.heap.size+1) (.loop {Z .ready none with state:=.busy})).heap[w.heap.size]?=some (.deferred (some [])):=(ζu Ω).trans hk;refine wpIn_mono (E _ ⟨rfl,rfl,rfl,by simp,λk _ hn=>ζu hn⟩ (hI _ _ _ hi ((Vx3 W (w.heap.size+1) _).mono (λk _ h=>by omega)))) ?_
   have fin:∀(jump:Option Code) (W3:World),XF4 (λk=>k<w.heap.size\/w.heap.size+(2+K)<=k) (W.putObj (w.heap.size+1) (.loop {Z .ready none with state:=.busy})) W3 →
     (Instr.endRound (w.heap.size+1) jump).run P W3=.ok (.bool jump.isNone) (W3.putObj (w.heap.size+1) (.loop (Z (if jump.isNone then .ready else .done) jump))) ∧
     (W3.putObj (w.heap.size+1) (.loop (Z (if jump.isNone then .ready else .done) jump))).heap[w.heap.size+1]?=some (.loop (Z (if jump.isNone then .ready else .done) jump)) ∧
     (W3.putObj (w.heap.size+1) (.loop (Z (if jump.isNone then .ready else .done) jump))).heap[w.heap.size]?=some (.deferred (some [])):=λjump W3 U=>by
    have Xe:=(U.block _ (Y Xf) Ω).trans Xf;have:=run_endRound (P:=P) jump Xe;rw[J]at this⊢;exact⟨this,ξJ (Y Xe),(ζu Ω).trans ((U.block _ (Y Xh) Ω).trans Xh)⟩
   have Xb:∀(o:Obj) (W3:World),XF4 (λk=>k<w.heap.size\/w.heap.size+(2+K)<=k) (W.putObj (w.heap.size+1) (.loop {Z .ready none with state:=.busy})) W3->XF4 (λk=>k<W1.heap.size\/W1.heap.size+K<=k) W0 (W3.putObj (w.heap.size+1) o):=λo W3 h3=>
    (((L.touch _).trans ((Vx3 W (w.heap.size+1) _).mono (λk _ h=>by omega))).trans (h3.mono (λk _ h=>by omega))).trans ((Vx3 W3 (w.heap.size+1) o).mono (λk _ h=>by omega))
   rintro e a3 W3 hp;cases e with
   | normal=>
    obtain⟨U,s',Xm,M⟩:=hp;obtain⟨hr,O,V⟩:=fin none W3 U;exact⟨_,_,hr,.inl ⟨rfl,s',Xm,hI _ _ _ M ((Vx3 W3 (w.heap.size+1) _).mono (λk _ h=>by omega)),O,V⟩,Xb _ _ U⟩
   | ret=>
    obtain⟨U,M⟩:=hp;obtain⟨hr,O,V⟩:=fin (some .ret) W3 U;exact⟨_,_,hr,.inr ⟨rfl,.ret,hIx _ _ _ M ((Vx3 W3 (w.heap.size+1) _).mono (λk _ h=>by omega)),O,V⟩,Xb _ _ U⟩
   | exit id=>
    obtain⟨U,M⟩:=hp;obtain⟨hr,O,V⟩:=fin (some (.exit id)) W3 U;exact⟨_,_,hr,.inr ⟨rfl,.exit id,hIx _ _ _ M ((Vx3 W3 (w.heap.size+1) _).mono (λk _ h=>by omega)),O,V⟩,Xb _ _ U⟩
   | goto t=>
    obtain⟨U,M⟩:=hp;obtain⟨hr,O,V⟩:=fin (some (.goto t)) W3 U;exact⟨_,_,hr,.inr ⟨rfl,.goto t,hIx _ _ _ M ((Vx3 W3 (w.heap.size+1) _).mono (λk _ h=>by omega)),O,V⟩,Xb _ _ U⟩
   | panic ch=>exact hp.elim
   | outgrown=>exact hp.elim
  ·rintro e W2 ⟨⟨v,rfl⟩,(⟨s,hS,hi,hl,hk⟩|⟨c,hi,hl,hk⟩)⟩
   ·exact⟨none,_,by have:=run_endLoop (P:=P) hl (by rw[J];simp);rw[J]at this;exact this,hdone _ s _ rfl hS (hI _ _ _ hi ((Vx3 W2 (w.heap.size+1) _).mono (λk _ h=>by omega))) ((ζu Ω).trans hk)⟩
   ·exact⟨some c,_,by have:=run_endLoop (P:=P) hl (by rw[J];simp);rw[J]at this;exact this,hstop _ c _ rfl (hIx _ _ _ hi ((Vx3 W2 (w.heap.size+1) _).mono (λk _ h=>by omega))) ((ζu Ω).trans hk)⟩
end
end
section
open Go.RowKit Go.Shelf Word
attribute [local go_sem] Oper.semAt_some
theorem Yd3(n':Nat)(box m p1 b1 p2 b2 n:Nat)(L:List Ob)(w:World):
  VZU 4 Fence.wide n' prog 173 #[.pointer (some ⟨box,0,none⟩)] VYF (Zxj box m p1 b1 p2 b2 n L) (YdH L) (λj _ j'=>j'=j+1) (λj=>j=L.length) 0 w:=by
 intro l J Jx W hg hJ Xi hI hY h0;refine ζa.2 ((ζa (n:=5)).1 ?_);refine callsIn_of_wp_marks func173 rfl trivial ?_ rfl;have Xb:=hI _ _ h0;have c0:=Xb.2.2.1;have k0:=Xb.1.c0;have Xf:=hid Xb;have Xu:=hid h0;have Xq:=hid hI;clear Xb h0 hI;simp only[ntmps173,ξa,ζU,ξq,Nat.reduceAdd,Nat.reduceSub,ζ2,ζ1,ξf,ζ7,ξb,ζL];have hbox:box<W.heap.size:=ZQf c0;have hmw:=Xf.o.1.hm
 gi_wp2_with(first
  | (refine⟨trivial,?_⟩;gi_at_call 138;refine(ζa.2 (VaK (Xf.o.1.gr ((Gr.refl W).alloc _)))).mono ?_;rintro e w1 ⟨rfl,rfl⟩)
  | (refine⟨trivial,?_⟩;gi_at_call 174;refine(ζa.2 (Xig (some ⟨p1,0,none⟩))).mono ?_;rintro e w1 ⟨rfl,rfl⟩))
 obtain⟨W0,U⟩:∃W0,W0=(W.alloc (.cells #[.func (.yield l) #[] #[]] 250)).alloc (.cells #[.pointer (some ⟨p1,0,none⟩)] 163):=⟨_,rfl⟩;have Yd:Gr W W0:=by rw[U];exact((Gr.refl W).alloc _).alloc _
 have Xm:W0.heap.size=W.heap.size+2:=by rw[U];simp
 have bY:W0.cell? ⟨W.heap.size,0,none⟩=some (.func (.yield l) #[] #[]):=by rw[U];exact((Boxed.new W _ _).alloc _).cell
 have bV:W0.cell? ⟨W.heap.size+1,0,none⟩=some (.pointer (some ⟨p1,0,none⟩)):=by
  rw[U];have:=Boxed.new (W.alloc (.cells #[.func (.yield l) #[] #[]] 250)) 163 (.pointer (some ⟨p1,0,none⟩));rw[η]at this;exact this.cell
 rw[<-U];have Y:=Xf.o.1.good;have hnb:=Xf.o.1.nb;have Xo:J 0 W0:=hJ _ _ _ Xu.o (Yd.touch _);have HH0:=hid U;clear U c0 k0;have Xz:Jxr L ((0:Nat):Int)=0:=Qzy (ζh _) (λi hi h=>by omega) (λh=>by omega)
 have tI:∀s A B,X94 n L J W.heap.size (W.heap.size+1) p1 (.func (.yield l) #[] #[]) s A->XF4 (λk=>W0.heap.size<=k/\k<W0.heap.size+2+0) A B->X94 n L J W.heap.size (W.heap.size+1) p1 (.func (.yield l) #[] #[]) s B:=λs A B h t=>
  ⟨h.st,h.ps,by obtain⟨j,hj,e⟩:=h.j;exact⟨j,hJ _ _ _ hj (t.mono (λk _ h=>by omega)),e⟩,(t.cell (ZQf h.y) (by show ¬(W0.heap.size<=W.heap.size/\_);omega) 0).trans h.y,(t.cell (ZQf h.v) (by show ¬(W0.heap.size<=W.heap.size+1/\_);omega) 0).trans h.v⟩
 refine JYJ (K:=0) (s0:=(VC5 n L,0)) rfl Ω (gf:=208) (lb:=#[.pointer (some ⟨W.heap.size+1,0,none⟩)]) rfl trivial (enters_of func208 (by kernel_rfl) rfl)
  (ZNp _ (W.heap.size+1) p1 b1 n (VC5 n L) _).toU (λ_=>rfl)
  (X94 n L J W.heap.size (W.heap.size+1) p1 (.func (.yield l) #[] #[])) (λc A=>c=.ret/\Jx A) tI (λc A B h t=>⟨h.1,Xi _ _ h.2 (t.mono (λk _ h=>by omega))⟩)
  (λs A h=>by
   obtain⟨j,hj,-⟩:=h.j;have hi:=Xq.o _ _ hj
   exact⟨by rw[h.st];exact hi.1.v1,by rw[h.st,JQA],hi.2.1,h.v,h.ps⟩)
  ⟨rfl,ζh _,⟨0,Xo,Xz⟩,bY,bV⟩ ?round ?done ?stop
 case round=>
  intro lp s x W3 hsz3 Xg Xx;gi_wp2;refine⟨Gr.refl _,λW4 ht4 hI4=>?_⟩;obtain⟨O,Xs,⟨j,hj,V⟩,hy,hv⟩:=hI4;obtain⟨hx,Xt⟩:=Xx;have I:=Xq.o _ _ hj;rw[O]at hx Xt
  have Z:j<L.length:=by
   rcases γ j L.length with h|h
   ·exact h
   ·have:=YTx Y (a:=(s.2:Int)) (by rw[V];omega);omega
  have Yc:x=L[j].1:=by
   have:=(Jia Y (a:=(s.2:Int)) (by rw[V];exact Z)).1;rw[hx,this];congr 2
  subst Yc;have Xw:J j W4.drew:=hJ _ _ _ hj ((Gr.refl W4).drew.touch _);have Xl:W.heap.size+4<=W4.drew.heap.size:=by have:=ht4.size;show W.heap.size+4<=W4.heap.size;omega
  obtain⟨fn,tmps,assign,body,Yb,hR⟩:=ZVe (m':=2) (l2:=lp) (hY j L[j] W4.drew Xw Xl (δ Z));have HZ:=hid (VRE (I.1.gr (Gr.refl W4).drew) ((Gr.refl W4).drew.tab I.2.1.lt I.2.1) Z);have cbx:=I.2.2.1;have hbxs:=Xm;have HS:=hid (ν O (ν V Z));clear O V hj I hx Xt Xg;dsimp only[VYF]at Yb
  have Xr:=hR.mono (R':=λe W'=>∃bb:Bool,e=.returned (.bool bb)/\((bb=true/\J (j+1) W')\/(bb=false/\Jx W'))/\XF4 (λk=>k<W.heap.size\/W.heap.size+4<=k) W4.drew W') (by
   rintro e W' ⟨⟨he,s',rfl,Ya⟩|⟨he,hx⟩,ht⟩
   ·exact⟨true,he,.inl ⟨rfl,Ya⟩,ht⟩
   ·exact⟨false,he,.inr ⟨rfl,hx⟩,ht⟩)
  clear hR;gi_wp2;obtain⟨Sx,Xd⟩:∃S:World->Prop,S=λA=>A.cell? ⟨W.heap.size,0,none⟩=some (.func (.yield l) #[] #[]):=⟨_,rfl⟩;have x1:∀p:ZJV Sx,p.w.cell? ⟨W.heap.size,0,none⟩=some (.func (.yield l) #[] #[]):=λp=>ZJV.get Xd p;have Xa:Sx W4.drew:=by rw[Xd];exact hy
  have Xj:=hid Xd;clear Xd;have Xk:Inhabited (ZJV Sx):=⟨⟨_,Xa⟩⟩;refine V0Y Sx 7 [([0,1,3],2),([],4),([],5)] [6] (λ_=>trivial) (by kernel_rfl) (by kernel_rfl) Xa ?_;refine QgQ ?_;simp only[XZy,ζ,ξ]
  repeat(go_big_quiet_step (fail))
  refine θ ?_;gi_wp2;refine⟨.inr (ZJV.of Xa),?_⟩;refine QgQ ?_;simp only[XZy,ζ,ξ];refine θ ?_;gi_wp2_with(refine⟨trivial,?_⟩;gi_at_call 175;refine(CallsIn.inRound lp (ζa.2 HZ.o)).mono ?_;rintro e w' ⟨rfl,rfl⟩);refine⟨.inr (ZJV.of Xa),?_⟩;refine QgQ ?_;simp only[XZy,ζ,ξ];refine θ ?_;gi_wp2;refine Xr.mono ?_;rintro e W5 ⟨bb,rfl,Xe,Xc⟩;have Xp:=(Xc.cell (ZQf hy) (by show ¬(W.heap.size<W.heap.size\/W.heap.size+4<=W.heap.size);omega) 0).trans hy;have Xy:=(Xc.cell (ZQf hv) (by show ¬(W.heap.size+1<W.heap.size\/W.heap.size+4<=W.heap.size+1);omega) 0).trans hv;gi_wp2;refine⟨.inr (ZJV.of (by rw[Xj.o];exact Xp)),?_⟩;refine X0q ?_;simp only[XZy,ζ,ξ]
  repeat(go_big_quiet_step (fail))
  refine θ ?_;refine β ?_;have T5:=hid (((Gr.refl W4).drew.touch (λk=>k<W0.heap.size\/W0.heap.size+(2+0)<=k)).trans (Xc.mono (λk _ h=>by omega)));have Xv:=hid (Y.sz _ (χ Z));clear x1 Xa Xj Xk Xr Xc;clear Sx;cases bb with
  | true=>
   have E:J (j+1) W5:=by
    rcases Xe with⟨_,h⟩|⟨h,_⟩
    ·exact h
    ·cases h
   have Xh:=hid E;clear Xe E;gi_wp2;exact⟨T5.o,(VC5 n L,L[j].1+1),rfl,rfl,by have:=Xv.o;show L[j].1+1<=n;omega,⟨j+1,Xh.o,by have:=ZjB Y Z;push_cast;exact this⟩,Xp,Xy⟩
  | false=>
   have E:Jx W5:=by
    rcases Xe with⟨h,_⟩|⟨_,h⟩
    ·cases h
    ·exact h
   have Xh:=hid E;clear Xe E;gi_wp2;exact⟨T5.o,rfl,Xh.o⟩
 case done=>
  rintro D s W3 hD M Xg hK;obtain⟨O,Xs,⟨j,hj,V⟩,hy,hv⟩:=Xg
  have Z:¬j<L.length:=λh=>by
   have:=Jia Y (a:=(s.2:Int)) (by rw[V];exact h);unfold VEN at M;rw[O]at M;exact M this.2
  have Xn:j=L.length:=by have:=XH0 L (s.2:Int);omega
  have HE:=hid (ν Xn hj);have HK:=hid hK;have HD:=hid hD;clear O Xs V hy hv M Xn hj hK hD Z;gi_wp2;refine⟨by simp,.inl ⟨_,_,rfl,run_takeDeferred HK.o,?_⟩⟩;refine⟨.tuple #[],ζr rfl _ _ _,⟨_,rfl⟩,.inl ⟨j,HE.o.1,hJ _ _ _ HE.o.2 ((Vx3 W3 D _).mono (λk _ h=>by have:=HD.o;omega))⟩⟩
 case stop=>
  rintro D c W3 hD ⟨rfl,hx⟩ hK;have HE:=hid hx;have HK:=hid hK;have HD:=hid hD;clear hx hK hD;gi_wp2;refine⟨by simp,.inl ⟨_,_,rfl,run_takeDeferred HK.o,?_⟩⟩;refine⟨.tuple #[],ζr rfl _ _ _,⟨_,rfl⟩,.inr (Xi _ _ HE.o ((Vx3 W3 D _).mono (λk _ h=>by have:=HD.o;omega)))⟩
end
section
open Go.RowKit Word
structure MkC where
 k:Nat
 z:Sp
 m:Nat
 p1:Nat
 b1:Nat
 p2:Nat
 b2:Nat
 n:Nat
 g:Nat
 R:Nat
 wk:Nat
 B:Nat
def MkC.T(c:MkC)(G:Nat->Prop)(i:Nat):Prop:=i=c.k\/YBz c.m c.b1 c.b2 i\/G i
structure X2M(c:MkC)(SV G SW:Nat->Prop):Prop where
 sv':∀i,SV i->i<c.B/\¬c.T G i
 sw':∀i,SW i->i<c.B/\¬c.T G i
 tab':1<c.B/\¬c.T G 1
 p1':c.p1<c.B/\¬c.T G c.p1
 p2':c.p2<c.B/\¬c.T G c.p2
 k1:¬YBz c.m c.b1 c.b2 c.k
 k2:¬G c.k
 kB:c.k<c.B
 mg:∀i,YBz c.m c.b1 c.b2 i->¬G i
 mB:∀i,YBz c.m c.b1 c.b2 i->i<c.B
 sd':∀i,c.z.D i->i<c.B/\¬c.T G i
section
variable {c:MkC} {SV G SW:Nat->Prop}
theorem X2M.sv(h:X2M c SV G SW):∀i,SV i->¬c.T G i:=λi hi=>(h.sv' i hi).2
theorem X2M.sw(h:X2M c SV G SW):∀i,SW i->¬c.T G i:=λi hi=>(h.sw' i hi).2
theorem X2M.sd(h:X2M c SV G SW):∀i,c.z.D i->¬c.T G i:=λi hi=>(h.sd' i hi).2
theorem MkC.vm(hz:c.z.Ok)(hs:X2M c SV G SW){v:Vm}{T':Nat->Prop}{w w':World}(h:c.z.I v SV w)(t:XF4 T' w w')(hT:∀i,T' i->c.T G i):c.z.I v SV w':=hz.fr h t (λk _ hk=>⟨λh=>hs.sv k h (hT k hk),λh=>hs.sd k h (hT k hk)⟩) (λ_ h=>h)
theorem X2M.tab(h:X2M c SV G SW):¬c.T G 1:=h.tab'.2
theorem X2M.p1(h:X2M c SV G SW):¬c.T G c.p1:=h.p1'.2
theorem X2M.p2(h:X2M c SV G SW):¬c.T G c.p2:=h.p2'.2
theorem X2M.plus(h:X2M c SV G SW){w:World}(hw:c.B<=w.heap.size):X2M c SV (plus G w) SW:=by
 have Y:∀i,i<c.B/\¬c.T G i->i<c.B/\¬c.T (Go.Proofs.YteihjlcmjecmfaaGreatDoor.plus G w) i:=λi hi=>⟨hi.1,λht=>by
  rcases ht with h1|h1|h1|h1
  ·exact hi.2 (.inl h1)
  ·exact hi.2 (.inr (.inl h1))
  ·exact hi.2 (.inr (.inr h1))
  ·have:=hi.1;omega⟩
 exact⟨λi hi=>Y i (h.sv' i hi),λi hi=>Y i (h.sw' i hi),Y _ h.tab',Y _ h.p1',Y _ h.p2',h.k1,λh1=>h1.elim h.k2 (λh2=>by have:=h.kB;omega),h.kB,λi hi h1=>h1.elim (h.mg i hi) (λh2=>by have:=h.mB i hi;omega),h.mB,λi hi=>Y i (h.sd' i hi)⟩
end
def J1W(c:MkC)(L:List Ob)(r vi:Int):List Value:=[c.z.v,.pointer (some ⟨c.m,0,none⟩),.pointer (some ⟨c.g,0,none⟩),.pointer (some ⟨c.wk,0,none⟩),.int .i64 (L.length:Nat),.int .i64 (sizes L:Nat),.int .i64 r,.int .i64 vi]
structure ZxD(w:World)(SV G SW:Nat->Prop)(c:MkC)(v:Vm)(s:MkS)(r vi:Int):Prop where
 vm:c.z.I v SV w
 ext:Ext w c.m c.p1 c.b1 c.p2 c.b2 c.n s.L
 stk:QH2 w G c.g s.st c.R s.lost
 wk:ZIR w SW c.wk c.z.v []
 row:Rec w c.k 174 (J1W c s.L r vi)
 tab:VRW w
 sep:X2M c SV G SW
 bB:c.B<=w.heap.size
 zk:c.z.Ok/\¬c.z.M
theorem ZxD.gr{w w':World}{SV G SW:Nat->Prop}{c:MkC}{v:Vm}{s:MkS}{r vi:Int}(h:ZxD w SV G SW c v s r vi)(g:Gr w w'):ZxD w' SV G SW c v s r vi:=
 ⟨h.zk.1.gr h.vm g,h.ext.gr g,h.stk.gr g,h.wk.gr g,h.row.gr g,g.tab h.tab.lt h.tab,h.sep,ζb h.bB g.size,h.zk⟩
theorem ZxD.set{w:World}{SV G SW:Nat->Prop}{c:MkC}{v:Vm}{s:MkS}{r vi:Int}(h:ZxD w SV G SW c v s r vi){j:Nat}{u:Value}{r' vi':Int}(hj:(J1W c s.L r vi).set j u=J1W c s.L r' vi'):ZxD (w.setCell ⟨c.k,j,none⟩ u) SV G SW c v s r' vi':=by
 have t:XF4 (λi=>i=c.k) w (w.setCell ⟨c.k,j,none⟩ u):=(XF4.refl (λi=>i=c.k) w).setCell (a:=⟨c.k,j,none⟩) (λ_=>rfl) u;have hs:=h.sep;refine⟨MkC.vm h.zk.1 hs h.vm t (λi e=>.inl e),?_,h.stk.touch t (λi hi _ e=>hs.k2 (e▸hi)),h.wk.touch t (λi hi _ e=>hs.sw i hi (.inl e)),hj▸h.row.set j u,t.tab h.tab.lt (λe=>hs.tab (.inl e)) h.tab,hs,ζb h.bB t.size,h.zk⟩;exact h.ext.touch t (λe=>hs.k1 (e▸.inl rfl)) (λe=>hs.p1 (.inl e)) (λe=>hs.k1 (e▸.inr (.inl rfl))) (λe=>hs.p2 (.inl e)) (λe=>hs.k1 (e▸.inr (.inr rfl)))
theorem YeZ{w:World}{c:MkC}{G:Nat->Prop}(j:Nat)(u:Value):XF4 (c.T G) w (w.setCell ⟨c.k,j,none⟩ u):=(XF4.refl _ w).setCell (a:=⟨c.k,j,none⟩) (λ_=>.inl rfl) u
def Z92(w:World)(SV G SW:Nat->Prop)(c:MkC)(v:Vm)(P:MkS->Int->Int->Prop)(N:Prop)(e:Ending)(w':World):Prop:=
 XF4 (c.T G) w w'/\((e=.returned (.tuple #[])/\∃s r vi,ZxD w' SV (plus G w) SW c v s r vi/\P s r vi)\/(e=.panicked [{v:=VSi 25 0,recovered:=false}]/\N/\∃s r vi,ZxD w' SV (plus G w) SW c v s r vi))
section
variable {w w':World} {SV G SW:Nat->Prop} {c:MkC} {v:Vm} {P:MkS->Int->Int->Prop} {N:Prop} {s:MkS} {r vi:Int}
theorem ZxD.sub{G':Nat->Prop}(h:ZxD w SV G SW c v s r vi)(hg:∀i,G i->G' i)(hs:X2M c SV G' SW):ZxD w SV G' SW c v s r vi:=⟨h.vm,h.ext,h.stk.mono hg,h.wk,h.row,h.tab,hs,h.bB,h.zk⟩
theorem ZxD.up(h:ZxD w' SV G SW c v s r vi)(hw:c.B<=w.heap.size):ZxD w' SV (plus G w) SW c v s r vi:=h.sub (λ_ h=>.inl h) (h.sep.plus hw)
theorem ZxD.back{w0:World}(h:ZxD w' SV (plus (plus G w0) w) SW c v s r vi)(hz:w0.heap.size<=w.heap.size)(hs:X2M c SV G SW)(hw:c.B<=w0.heap.size):ZxD w' SV (plus G w0) SW c v s r vi:=
 h.sub (λ_ h=>h.elim id (λh=>.inr (ζb hz h))) (hs.plus hw)
theorem QsC{a b d:World}(h:XF4 (c.T G) a b)(k:XF4 (c.T (plus G a)) b d):XF4 (c.T G) a d:=
 h.trans' k (λi hi ht=>by
  rcases ht with h1|h1|h1|h1
  ·exact .inl h1
  ·exact .inr (.inl h1)
  ·exact .inr (.inr h1)
  ·omega)
theorem Z92.ok(t:XF4 (c.T G) w w')(h:ZxD w' SV (plus G w) SW c v s r vi)(p:P s r vi):Z92 w SV G SW c v P N (.returned (.tuple #[])) w':=⟨t,.inl ⟨rfl,s,r,vi,h,p⟩⟩
theorem Z92.no(t:XF4 (c.T G) w w')(h:ZxD w' SV (plus G w) SW c v s r vi)(n:N):Z92 w SV G SW c v P N (.panicked [{v:=VSi 25 0,recovered:=false}]) w':=⟨t,.inr ⟨rfl,n,s,r,vi,h⟩⟩
end
theorem VEk(L:List Ob)(o:Ob):sizes (VZz L o)=sizes L+o.2:=by
 induction L with
 | nil=>simp[VZz,sizes]
 | cons q t ih=>
  unfold VZz
  split
  ·simp only[sizes];omega
  ·simp only[sizes,ih];omega
theorem Jqz{n:Nat}{L:List Ob}(h:Q4l n L){a:Int}(ha:Hs L a):ZH8 L a<L.length/\obS L (ZH8 L a)=a:=by
 obtain⟨o,ho,rfl⟩:=ha;obtain⟨j,hj,rfl⟩:=ζt ho;have hz:=(h.sz _ ho).1;rw[XxN h hj (ξU _) Ω];exact⟨hj,(YpZ hj).1⟩
theorem Z8n{L:List Ob}{a:Int}(hn:¬Hs L a)(hf:ZH8 L a<L.length):obS L (ZH8 L a)≠a:=by
 rw[(YpZ hf).1];exact λe=>hn ⟨_,χ hf,e⟩
theorem QH2.set2{w:World}{G:Nat->Prop}{g R k i j:Nat}{l:List Int}{b:Bool}{u u':Value}(h:QH2 w G g l R b)(hk:¬G k):QH2 ((w.setCell ⟨k,i,none⟩ u).setCell ⟨k,j,none⟩ u') G g l R b:=
 (h.touch ((XF4.refl (λx=>x=k) w).setCell (a:=⟨k,i,none⟩) (λ_=>rfl) u) (λ_ hx _ e=>hk (e▸hx))).touch ((XF4.refl (λx=>x=k) _).setCell (a:=⟨k,j,none⟩) (λ_=>rfl) u') (λ_ hx _ e=>hk (e▸hx))
theorem VNW{c:MkC}{L:List Ob}{r vi a z:Int}(he:ZbB L c.n a z=0):((J1W c L r vi).set 4 (.int .i64 ((L.length:Nat)+1))).set 5 (.int .i64 ((sizes L:Nat)+z))=J1W c (VI0 L c.n a z) r vi:=by
 have hz:=(YLm he).1;have h1:=ZoS he;have h2:sizes (VI0 L c.n a z)=sizes L+z.toNat:=by unfold VI0;rw[μ he,VEk]
 unfold J1W;rw[h1,h2]
 show [_,_,_,_,_,_,_,_]=[_,_,_,_,_,_,_,_]
 have e1:((L.length:Nat):Int)+1=((L.length+1:Nat):Int):=Ω
 have e2:((sizes L:Nat):Int)+z=((sizes L+z.toNat:Nat):Int):=Ω
 rw[e1,e2]
theorem ZxD.pushed{w w4 w5:World}{SV G SW:Nat->Prop}{c:MkC}{v:Vm}{s:MkS}{r vi:Int}(h:ZxD w SV G SW c v s r vi){L':List Ob}{st':List Int}{lost':Bool}{u u':Value}(t4:XF4 (YBz c.m c.b1 c.b2) w w4)(x4:Ext w4 c.m c.p1 c.b1 c.p2 c.b2 c.n L')
  (t5:XF4 G ((w4.setCell ⟨c.k,4,none⟩ u).setCell ⟨c.k,5,none⟩ u') w5) (s5:QH2 w5 (plus G ((w4.setCell ⟨c.k,4,none⟩ u).setCell ⟨c.k,5,none⟩ u')) c.g st' c.R lost') (hm:((J1W c s.L r vi).set 4 u).set 5 u'=J1W c L' r vi):
  ZxD w5 SV (plus G w) SW c v ⟨L',st',lost'⟩ r vi/\XF4 (c.T G) w w5:=by
 have hs:=h.sep
 have tk:XF4 (λi=>i=c.k) w4 ((w4.setCell ⟨c.k,4,none⟩ u).setCell ⟨c.k,5,none⟩ u'):=
  ((XF4.refl (λi=>i=c.k) w4).setCell (a:=⟨c.k,4,none⟩) (λ_=>rfl) u).setCell (a:=⟨c.k,5,none⟩) (λ_=>rfl) u'
 have hz:w.heap.size<=((w4.setCell ⟨c.k,4,none⟩ u).setCell ⟨c.k,5,none⟩ u').heap.size:=ζb t4.size tk.size;have Y:¬G c.k:=hs.k2
 refine⟨⟨MkC.vm h.zk.1 hs (MkC.vm h.zk.1 hs (MkC.vm h.zk.1 hs h.vm t4 (λi e=>.inr (.inl e))) tk (λi e=>.inl e)) t5 (λi e=>.inr (.inr e)),?_,s5.mono (λi hi=>hi.imp id (λh'=>ζb hz h')),((h.wk.touch t4 (λi hi _ e=>hs.sw i hi (.inr (.inl e)))).touch tk (λi hi _ e=>hs.sw i hi (.inl e))).touch t5 (λi hi _ e=>hs.sw i hi (.inr (.inr e))),
   (hm▸((h.row.touch t4 hs.k1).set 4 u).set 5 u').touch t5 Y,?_,hs.plus h.bB,ζb h.bB (ζb hz t5.size),h.zk⟩,?_⟩
 ·have e1:=x4.touch tk (λe=>hs.k1 (e▸.inl rfl)) (λe=>hs.p1 (.inl e)) (λe=>hs.k1 (e▸.inr (.inl rfl))) (λe=>hs.p2 (.inl e)) (λe=>hs.k1 (e▸.inr (.inr rfl)));exact e1.touch t5 (hs.mg _ (.inl rfl)) (λe=>hs.p1 (.inr (.inr e))) (hs.mg _ (.inr (.inl rfl))) (λe=>hs.p2 (.inr (.inr e))) (hs.mg _ (.inr (.inr rfl)))
 ·have a1:=t4.tab h.tab.lt (λe=>hs.tab (.inr (.inl e))) h.tab;have a2:=tk.tab a1.lt (λe=>hs.tab (.inl e)) a1;exact t5.tab a2.lt (λe=>hs.tab (.inr (.inr e))) a2
 ·exact((t4.mono (λi _ hi=>.inr (.inl hi))).trans (tk.mono (λi _ hi=>.inl hi))).trans (t5.mono (λi _ hi=>.inr (.inr hi)))
section
variable {w:World} {SV G SW:Nat->Prop} {c:MkC} {v:Vm} {s:MkS} {r vi:Int} {X:Int->Prop} {rs:List Int}
theorem Xot(w:World)(k:Nat):Calls prog 190 #[.pointer (some ⟨k,0,none⟩),.bool true] w λe w'=>e=.returned (.tuple #[])/\w=w':=by
 go_enter func190,ntmps190;go_wp2;refine ζF (ζr rfl _ _ _) rfl ?_;exact⟨rfl,rfl⟩
theorem YeK(h:ZxD w SV G SW c v s r vi):Calls prog 190 #[.pointer (some ⟨c.k,0,none⟩),.bool false] w λe w'=>e=.panicked [{v:=VSi 25 0,recovered:=false}]/\w=w':=by
 have c3:=h.row.cc 3;have HF:=hid (JcB h.zk.1.nn h.wk 25 0);clear h;go_enter func190,ntmps190;go_wp2_with(go_at_call 151;refine HF.o.mono ?_;rintro e w1 ⟨rfl,rfl⟩);exact⟨rfl,rfl,rfl⟩
def Sp.Rd(z:Sp)(v:Vm)(a:Int):Prop:=(0<a->z.P a)/\∀i:Int,v.plE a i 1=0->z.P (a+1+i)
def XLt(s:MkS)(v:Vm)(rs:List Int)(c:MkC)(X:Int->Prop)(a r vi:Int)(s':MkS)(r' vi':Int):Prop:=YK6 v rs c.n c.R X s'/\QxY s s'/\(a≠0->Hs s'.L a)/\r'=r/\vi'=vi
theorem VVL(h:ZxD w SV G SW c v s r vi)(hp:∀a,Rch v rs a->c.z.Rd v a)(hi:YK6 v rs c.n c.R X s){a:Int}(ha:a≠0->Rch v rs a):Calls prog 142 #[.pointer (some ⟨c.k,0,none⟩),.int .i64 a] w (Z92 w SV G SW c v (XLt s v rs c X a r vi) (¬Xd6 v rs c.n)):=by
 have H:=hid h;have HI:=hid hi;by_cases h0:a=0
 ·subst h0;clear h hi ha hp;go_enter func142,ntmps142;go_wp2;refine ζF (ζr rfl _ _ _) rfl ?_;exact Z92.ok (XF4.refl _ _) (H.o.up H.o.bB) ⟨HI.o,QxY.refl _,λh=>absurd rfl h,rfl,rfl⟩
 ·have hR:=ha h0;have HR:=hid hR;have d0:(a==0)=false:=by simpa using h0
  have c0:=h.row.cc 0;have c1:=h.row.cc 1;unfold Sp.v at c0;have I:=hid (Q6S h.ext h.tab a);unfold YEC at I;have Xa:=hi.mkd.good;by_cases hs:Hs s.L a
  ·obtain⟨f1,f2⟩:=Jqz Xa hs;rw[f2,κ f1]at I;have HS:=hid hs;clear h hi ha hp h0 hR hs Xa f1 f2;go_enter func142,ntmps142;go_wp2_with(go_at_call 189;refine I.o.mono ?_;rintro e w1 ⟨rfl,rfl⟩);refine ζF (ζr rfl _ _ _) rfl ?_;exact Z92.ok (XF4.refl _ _) (H.o.up H.o.bB) ⟨HI.o,QxY.refl _,λ_=>HS.o,rfl,rfl⟩
  ·have Xf:=hid (λhf=>Z8n hs hf);have Yb:=hid hs;obtain⟨st,Xh⟩:∃st,st=obS s.L (ZH8 s.L a):=⟨_,rfl⟩;obtain⟨sz,Xl⟩:∃sz,sz=obZ s.L (ZH8 s.L a):=⟨_,rfl⟩;obtain⟨fb,Xe⟩:∃fb,fb=decide (ZH8 s.L a<s.L.length):=⟨_,rfl⟩;rw[<-Xh,<-Xl,<-Xe]at I;rw[<-Xh]at Xf;have Xj:=hid Xe
   have Xo:fb=false\/(fb=true/\(st==a)=false):=by
    cases hb:fb with
    | false=>exact .inl rfl
    | true=>exact .inr ⟨rfl,by have:=Xf.o (of_decide_eq_true (Xj.o.symm.trans hb));simpa using this⟩
   have U:=hid (λW (g:Gr w W)=>(JYm h.zk.1 (h.zk.1.gr h.vm g) a (hp a hR).1).mono λ_ _ hh=>ν hh.1 (hh.2.ro h.zk.2));unfold Sp.v at U;have Yc:s.L.length<=1048576:=ζb Xa.len h.ext.nb.2;have Ye:sizes s.L<=1048576:=ζb (XY5 Xa) h.ext.nb.2;by_cases hE:v.rdE a=0
   ·have HE:=hid hE;obtain⟨-,-,p,f,k,hh,Xs⟩:=J7F hE;have Xb:=QXB hE;have Xd:=hid (λW=>ZUg ⟨p,f,k⟩ W);have ho:v.osz a=Z3o ⟨p,f,k⟩:=by unfold Vm.osz;rw[hh]
    rw[<-ho]at Xd;rw[hE,hh]at U;unfold X79 at U Xd;obtain⟨z,hz⟩:∃z,z=v.osz a:=⟨_,rfl⟩;rw[<-hz]at Xd Xb;have HZ:=hid hz;have Xk:=hid (λW (g:Gr w W)=>Zc1 (h.ext.gr g) (g.tab h.tab.lt h.tab) a z);unfold Vag at Xk;have Y:=h.sep;have Xz:=hid (λ(W W':World) (g:Gr w W) (t:XF4 (YBz c.m c.b1 c.b2) W W') (x:Ext W' c.m c.p1 c.b1 c.p2 c.b2 c.n s.L)=>(⟨MkC.vm h.zk.1 Y (h.zk.1.gr h.vm g) t (λi e=>.inr (.inl e)),x,(h.stk.gr g).touch t (λi hi _ e=>Y.mg i e hi),(h.wk.gr g).touch t (λi hi _ e=>Y.sw i hi (.inr (.inl e))),(h.row.gr g).touch t Y.k1,t.tab (g.tab h.tab.lt h.tab).lt (λe=>Y.tab (.inr (.inl e))) (g.tab h.tab.lt h.tab),Y,ζb h.bB (ζb g.size t.size),h.zk⟩:ZxD W' SV G SW c v s r vi));by_cases hA:ZbB s.L c.n a z=0
    ·have HA:=hid hA;rw[hA]at Xk;have Xq:=hid (VNW (c:=c) (r:=r) (vi:=vi) hA);have Xu:=h.sep.k2;have Yd:=hid Xu;have Xr:=hid (hi.push hR hE (by rw[<-hz];exact hA));rw[<-hz]at Xr;have hz1:1<=z:=Xb.2.1;have hz2:z<=256:=Xb.2.2;obtain⟨LN,Xn⟩:∃LN:Nat,LN=s.L.length:=⟨_,rfl⟩;obtain⟨SN,Xp⟩:∃SN:Nat,SN=sizes s.L:=⟨_,rfl⟩;rw[<-Xn]at Yc Xq;rw[<-Xp]at Ye Xq;have Z:=hid (ν Xn Xp);clear h hi ha hp h0 hR hs Xa Xh Xl Xe hE Xf Xj hh Xs ho hz hA Y Xu Xb Xn Xp;rcases Xo with rfl|⟨rfl,d3⟩
     all_goals
      go_enter func142,ntmps142
      go_wp2_with(first
       | (go_at_call 189;refine I.o.mono ?_;rintro e w1 ⟨rfl,rfl⟩)
       | (go_at_call 69;refine(U.o _ (Gr.refl _)).mono ?_;rintro e w1 ⟨rfl,V⟩;have J:=hid (V.alloc (.cells #[.int .i64 p,.int .i64 f,.int .i64 k] 63));clear V)
       | (go_at_call 190;(with_reducible refine(Xot _ _).mono ?_);rintro e w2 ⟨rfl,rfl⟩)
       | (go_at_call 58;refine(Xd.o _).mono ?_;rintro e w3 ⟨rfl,B⟩;have O:=hid (J.o.trans B);have Yg:=(H.o.gr (J.o.trans B)).row.cell (j:=1) rfl;clear B)
       | (go_at_call 171;refine(Xk.o _ O.o).mono ?_;rintro e w4 ⟨rfl,M,Xc⟩;have Xy:=hid Xc;have Xm:=hid M;have Xg:=hid (H.o.gr O.o);have Xi:=hid (Xg.o.row.touch M Xg.o.sep.k1);have y2:=Xi.o.cc 2;have y4:=Xi.o.cc 4;have y5:=Xi.o.cc 5;have yf:=Xi.o.free;have Yf:=hid (Xg.o.stk.touch M (λi hi _ e=>Xg.o.sep.mg i e hi));rw[<-Z.o.1]at y4;rw[<-Z.o.2]at y5;clear M Xc)
       | (go_at_call 191;refine(Y4L (Yf.o.set2 Yd.o) a).mono ?_;intro e w5 hp;have Ya:(∃b,e=.returned (.bool b)):=by {rcases hp with⟨_,rfl,_⟩|⟨_,rfl,_⟩ <;> exact⟨_,rfl⟩};have HP:=hid hp;obtain⟨pb,rfl⟩:=Ya;clear hp))
      refine ζF (ζr rfl _ _ _) rfl ?_;have Xv:=Xq.o;rw[Z.o.1,Z.o.2]at Xv
      have Xx:∀st' lost',s.push c.R (VI0 s.L c.n a z) a=⟨VI0 s.L c.n a z,st',lost'⟩->XF4 G ((w4.setCell ⟨c.k,4,none⟩ (.int .i64 ((s.L.length:Nat)+1))).setCell ⟨c.k,5,none⟩ (.int .i64 ((sizes s.L:Nat)+z))) w5/\QH2 w5 (plus G ((w4.setCell ⟨c.k,4,none⟩ (.int .i64 ((s.L.length:Nat)+1))).setCell ⟨c.k,5,none⟩ (.int .i64 ((sizes s.L:Nat)+z)))) c.g st' c.R lost'->Z92 w SV G SW c v (XLt s v rs c X a r vi) (¬Xd6 v rs c.n) (.returned (.tuple #[])) w5:=λst' lost' hpe ⟨E,D⟩=>by
       obtain⟨q1,q2,q3⟩:=Xr.o;rw[hpe]at q1 q2 q3;obtain⟨m5,t5⟩:=Xg.o.pushed Xm.o Xy.o E D Xv;exact Z92.ok ((O.o.touch _).trans t5) (m5.sub (λi hi=>hi.imp id (λh'=>ζb O.o.size h')) (H.o.sep.plus H.o.bB)) ⟨q1,q2,λ_=>q3,rfl,rfl⟩
      rcases HP.o with⟨hf,-,E,D⟩|⟨hf,-,E,D⟩
      ·refine Xx s.st true (ϑ Ω) ⟨?_,?_⟩
       ·rw[Z.o.1,Z.o.2]at E;exact E
       ·rw[Z.o.1,Z.o.2]at D;exact D
      ·refine Xx (s.st++[a]) s.lost (μ hf) ⟨?_,?_⟩
       ·rw[Z.o.1,Z.o.2]at E;exact E
       ·rw[Z.o.1,Z.o.2]at D;exact D
    ·obtain⟨y,hy⟩:∃y,y=ZbB s.L c.n a z:=⟨_,rfl⟩;have d2:(y==0)=false:=by rw[hy];simpa using hA
     have Xt:=hid hA;have HY:=hid hy;clear h hi ha hp h0 hR hs Xa Xh Xl Xe hE Xf Xj hh Xs ho hz hA hy Y;rcases Xo with rfl|⟨rfl,d3⟩
     all_goals
      go_enter func142,ntmps142
      go_wp2_with(first
       | (go_at_call 189;refine I.o.mono ?_;rintro e w1 ⟨rfl,rfl⟩)
       | (go_at_call 69;refine(U.o _ (Gr.refl _)).mono ?_;rintro e w1 ⟨rfl,V⟩;have J:=hid (V.alloc (.cells #[.int .i64 p,.int .i64 f,.int .i64 k] 63));clear V)
       | (go_at_call 190;(with_reducible refine(YeK Xw.o).mono ?_);rintro e w2 ⟨rfl,rfl⟩)
       | (go_at_call 190;(with_reducible refine(Xot _ _).mono ?_);rintro e w2 ⟨rfl,rfl⟩)
       | (go_at_call 58;refine(Xd.o _).mono ?_;rintro e w3 ⟨rfl,B⟩;have O:=hid (J.o.trans B);have Yg:=(H.o.gr (J.o.trans B)).row.cell (j:=1) rfl;clear B)
       | (go_at_call 171;refine(Xk.o _ O.o).mono ?_;rintro e w4 ⟨rfl,M,Xc⟩;rw[<-HY.o];have Xm:=hid ((O.o.touch (c.T G)).trans (M.mono (λi _ hi=>.inr (.inl hi))));have Xw:=hid (Xz.o _ _ O.o M (by rw[show VI0 s.L c.n a z=s.L from ϑ Xt.o]at Xc;exact Xc));clear M Xc))
      exact⟨rfl,Z92.no Xm.o (Xw.o.up H.o.bB) (HI.o.mkd.fail HR.o Yb.o (by rw[<-HZ.o];exact Xt.o))⟩
   ·have HE:=hid hE;obtain⟨y,hy⟩:∃y,y=v.rdE a:=⟨_,rfl⟩;have d2:(y==0)=false:=by rw[hy];simpa using hE
    rw[<-hy]at U;unfold X79 at U;clear h hi ha hp h0 hR hs Xa Xh Xl Xe hE hy Xf Xj;rcases Xo with rfl|⟨rfl,d3⟩
    all_goals
     go_enter func142,ntmps142
     go_wp2_with(first
      | (go_at_call 189;refine I.o.mono ?_;rintro e w1 ⟨rfl,rfl⟩)
      | (go_at_call 69;refine(U.o _ (Gr.refl _)).mono ?_;rintro e w1 ⟨rfl,V⟩;have J:=hid V;clear V)
      | (go_at_call 190;refine(YeK (H.o.gr (J.o.alloc _))).mono ?_;rintro e w2 ⟨rfl,rfl⟩))
     exact⟨rfl,Z92.no ((J.o.alloc _).touch _) ((H.o.gr (J.o.alloc _)).up H.o.bB) (ZFY HR.o HE.o)⟩
def Yr9(s:MkS)(v:Vm)(rs:List Int)(c:MkC)(X:Int->Prop)(a r:Int)(s':MkS)(r' _vi':Int):Prop:=YK6 v rs c.n c.R X s'/\QxY s s'/\Cl v s'.L a/\r'=r
theorem ZUP(h:ZxD w SV G SW c v s r vi)(hp:∀a,Rch v rs a->c.z.Rd v a)(hi:YK6 v rs c.n c.R X s){a:Int}(ha:Hs s.L a):Calls prog 147 #[.pointer (some ⟨c.k,0,none⟩),.int .i64 a] w (Z92 w SV G SW c v (Yr9 s v rs c X a r) (¬Xd6 v rs c.n)):=by
 have H:=hid h;have HI:=hid hi;obtain⟨hR,hE⟩:=hi.mkd.hs ha;obtain⟨-,-,p,f,k,hh,hsm⟩:=J7F hE;have HR:=hid (ν hR (ν hE hh));have Xh:=hid (hp a hR);have I:=hid (λW (g:Gr w W)=>(JYm h.zk.1 (h.zk.1.gr h.vm g) a (hp a hR).1).mono λ_ _ hh=>ν hh.1 (hh.2.ro h.zk.2));have HP:=hid hp;rw[hE,hh]at I;unfold Sp.v X79 at I;have c0:=h.row.cc 0;unfold Sp.v at c0;have HN:=hid (Rec.new w 63 [.int .i64 p,.int .i64 f,.int .i64 k]);clear h hi ha hp hR hE hh;go_enter func147,ntmps147
 go_wp2_with(first
  | (go_at_call 69;refine(I.o _ (Gr.refl _)).mono ?_;rintro e w1 ⟨rfl,Xa⟩;have Xe:=hid (Xa.alloc (.cells #[.int .i64 p,.int .i64 f,.int .i64 k] 63));clear Xa)
  | (go_at_call 190;(with_reducible refine(Xot _ _).mono ?_);rintro e w2 ⟨rfl,rfl⟩))
 go_loopw [24] (λs24 wr=>∃(j:Nat) (s':MkS) (r' vi':Int),j<=p/\Hid (ZxD wr SV (plus G w) SW c v s' r' vi')/\Hid (XF4 (c.T G) w wr)/\Hid (YK6 v rs c.n c.R X s'/\QxY s s'/\ClN v s'.L a j/\r'=r)/\s24=.int .i64 j) (λs24 _=>p-(intOf s24).toNat)
 case atStart=>exact⟨0,s,r,vi,by omega,⟨(H.o.gr Xe.o).up H.o.bB⟩,⟨Xe.o.touch _⟩,⟨HI.o,QxY.refl _,λi hi=>by omega,rfl⟩,rfl⟩
 case round=>
  obtain⟨j,s',r',vi',hj,HM,HT,HJ,rfl⟩:=hrel;have k0:=HM.o.row.cc 0;have k7:=HM.o.row.cc 7;have kf:=HM.o.row.free 7;unfold Sp.v at k0;clear c0;by_cases Y:j=p
  ·subst Y;go_wp2;refine ζF (ζr rfl _ _ _) rfl ?_;obtain⟨q1,q2,q3,q4⟩:=HJ.o;exact Z92.ok (HT.o.trans (YeZ 7 _)) (HM.o.set (r':=r') (vi':=wrap64 (vi' + 1)) rfl) ⟨q1,q2,q3.cl (by rw[HR.o.2.2];exact ξU _),q4⟩
  ·have Xj:(j:Int)<(p:Int):=Ω
   have J:=hid ((Zn7 HM.o.zk.1 HM.o.vm a (j:Int) Xh.o.1 (Xh.o.2 _)).mono λ_ _ hh=>ν hh.1 (hh.2.ro HM.o.zk.2));unfold Sp.v at J;have B:Hid (v.ptE a j=0->((v.ptV a j:Nat):Int)≠0->Rch v rs (v.ptV a j:Nat)):=⟨λh1 h2=>HR.o.1.step ⟨HR.o.2.1,j,by rw[HR.o.2.2];exact Xj,h1,by omega,rfl⟩⟩;have Xd:=hid (ν hj Y);clear hj Y;by_cases U:v.ptE a j=0
   ·have O:=hid U;rw[U]at J;obtain⟨x,hx⟩:∃x,x=v.ptV a j:=⟨_,rfl⟩;rw[<-hx]at J B;have Xk:=hid hx;clear U hx
    go_wp2_with(first
     | (go_at_call 74;refine J.o.mono ?_;rintro e w2 ⟨rfl,Z⟩;have M:=hid (HM.o.gr Z);have V:=hid (HT.o.trans (Z.touch _));clear Z)
     | (go_at_call 190;(with_reducible refine(Xot _ _).mono ?_);rintro e w3 ⟨rfl,rfl⟩)
     | (go_at_call 142;refine(VVL M.o HP.o HJ.o.1 (B.o O.o)).mono ?_;rintro e w4 ⟨Xc,(⟨rfl,s4,r4,Xi,E,D⟩|⟨rfl,D,s4,r4,Xi,E⟩)⟩ <;> (have Xb:=hid (QsC V.o Xc);have Xf:=hid (E.back V.o.size H.o.sep H.o.bB);have Xg:=hid D;clear Xc E D)))
    ·go_round
     case rel=>
      obtain⟨q1,q2,q3,q4⟩:=HJ.o;obtain⟨p1,p2,p3,p4,p5⟩:=Xg.o;refine⟨j+1,s4,r4,Xi,by have:=Xd.o;omega,Xf,Xb,⟨p1,q2.trans p2,(q3.mono p2.sub).succ O.o (λh0=>?_),p4.trans q4⟩,by go_num⟩;rw[<-Xk.o]at h0⊢;exact p3 Ω
     case measure=>have:=Xd.o;simp[intOf];omega
    ·exact⟨rfl,Z92.no Xb.o Xf.o Xg.o⟩
   ·have O:=hid U;obtain⟨y,hy⟩:∃y,y=v.ptE a j:=⟨_,rfl⟩;have d2:(y==0)=false:=by rw[hy];simpa using U
    rw[<-hy]at J;clear U hy
    go_wp2_with(first
     | (go_at_call 74;refine J.o.mono ?_;rintro e w2 ⟨rfl,Z⟩;have M:=hid (HM.o.gr Z);have V:=hid (HT.o.trans (Z.touch _));clear Z)
     | (go_at_call 190;(with_reducible refine(YeK M.o).mono ?_);rintro e w3 ⟨rfl,rfl⟩))
    exact⟨rfl,Z92.no V.o M.o (J7J HR.o.1 (by rw[HR.o.2.2];exact Xj) O.o)⟩
end
end
section
open Go.RowKit Go.Shelf Word
attribute [local go_sem] Oper.semAt_some
def QpM(L:List Ob)(j:Nat):List Value:=zs ((L.take j).map λo=>(o.1:Int))
theorem QZB{L:List Ob}{j:Nat}(h:j<L.length):QpM L (j+1)=QpM L j++[.int .i64 (L[j].1:Nat)]:=by
 unfold QpM zs;rw[ξe h,ζO,ζO];rfl
theorem QrH{w:World}{b b' E size:Nat}{v:Value}{n:Nat}{xs:List Value}(h:w.ownsRow b E size v n xs)(hb:b'<=b):w.ownsRow b' E size v n xs:=by
 obtain⟨h1,h2⟩:=h;refine⟨h1,h2.imp id ?_⟩;rintro⟨g,Z,Y,e1,e2,e3⟩;exact⟨g,Z,Y,e1,ζb hb e2,e3⟩
structure StI(W0:World)(B:Nat)(L:List Ob)(j:Nat)(A:World):Prop where
 t:XF4 (λi=>i=B\/W0.heap.size<=i) W0 A
 jl:j<=L.length
 f0:A.frozen? ⟨B,0,none⟩=false
 row:∃vL,A.cell? ⟨B,0,none⟩=some vL/\A.ownsRow (W0.heap.size+6) 3 1 vL j (QpM L j)
def JLP(w:World)(L:List Ob)(e:Ending)(w':World):Prop:=∃vL,e=.returned vL/\Gr w w'/\w'.ownsRow w.heap.size 3 1 vL L.length (QpM L L.length)
theorem Yde{w:World}{k m p1 b1 p2 b2 n:Nat}{L:List Ob}(hE:Ext w m p1 b1 p2 b2 n L)(hT:VRW w)(c1:w.cell? ⟨k,1,none⟩=some (.pointer (some ⟨m,0,none⟩))):
  Calls prog 146 #[.pointer (some ⟨k,0,none⟩)] w (JLP w L):=by
 have HE:=hid hE;have HT:=hid hT;have hkl:=ZQf c1;clear hE hT;refine(ζa (n:=5)).1 ?_;refine callsIn_of_wp_marks func146 rfl trivial ?_ rfl;simp only[ntmps146,ξa,ζU,ξq,Nat.reduceAdd,Nat.reduceSub,ζ2,ζ1,ξf,ζ7,ξb,ζL];gi_wp2_with(refine⟨trivial,?_⟩;gi_at_call 132;refine(ζa.2 (JMu (some ⟨m,0,none⟩))).mono ?_;rintro e w1 ⟨rfl,rfl⟩);obtain⟨W2,M⟩:∃W2,W2=w.alloc (.cells #[.slice none 0 0] 66):=⟨_,rfl⟩;have Xe:Boxed W2 w.heap.size 66 (.slice none 0 0):=by rw[M];exact Boxed.new w _ _
 have Xd:Gr w W2:=by rw[M];exact(Gr.refl w).alloc _
 have Xf:W2.heap.size=w.heap.size+1:=by rw[M];simp
 rw[<-M];obtain⟨W0,V⟩:∃W0,W0=W2.alloc (.cells #[.pointer (some ⟨m,0,none⟩)] 103):=⟨_,rfl⟩;have Xa:Gr w W0:=by rw[V];exact Xd.alloc _
 have hsz:W0.heap.size=w.heap.size+2:=by rw[V];simp;omega
 have k1:Boxed W0 w.heap.size 66 (.slice none 0 0):=by rw[V];exact Xe.alloc _
 have k4:W0.cell? ⟨w.heap.size+1,0,none⟩=some (.pointer (some ⟨m,0,none⟩)):=by
  rw[V];have:=(Boxed.new W2 103 (.pointer (some ⟨m,0,none⟩))).cell
  rwa [Xf]at this
 rw[<-V];have Y:=HE.o;have o1:=Y.hm;have o2:=Y.v1.hp;have o3:=Y.v1.hb;have o4:=Y.v2.hp;have o5:=Y.v2.hb;have o6:=HT.o.lt;have hnb:=Y.nb;have E:=Y.good;have hlen:=E.len;clear M V Xd Xf Xe Y;obtain⟨ii,Xm,Xg,Xl,Xp⟩:=info_parts J0c
 have tI:∀j A B,StI W0 w.heap.size L j A->XF4 (λi=>W0.heap.size<=i/\i<W0.heap.size+2+4) A B->StI W0 w.heap.size L j B:=λj A B h t=>by
  have ht:=h.t.size;obtain⟨vL,hc,ho⟩:=h.row;exact⟨h.t.trans (t.mono (λi _ h=>.inr h.1)),h.jl,(t.frozen Ω (by show ¬(W0.heap.size<=w.heap.size/\_);omega) 0).trans h.f0,vL,(t.cell Ω (by show ¬(W0.heap.size<=w.heap.size/\_);omega) 0).trans hc,Zs2 ho t (λg hg h=>by have:=(Vvr ho hg).1;omega)⟩
 refine JYJ (K:=4) (s0:=0) rfl Ω (gf:=173) (lb:=#[.pointer (some ⟨w.heap.size+1,0,none⟩)]) rfl trivial (enters_of func173 (by kernel_rfl) rfl)
  (Yd3 _ (w.heap.size+1) m p1 b1 p2 b2 n L _) (λ_=>rfl)
  (StI W0 w.heap.size L) (λ_ _=>False) tI (λ_ _ _ h _=>h)
  (λj A h=>⟨(HE.o.gr Xa).touch h.t Ω Ω Ω Ω Ω,(Xa.tab o6 HT.o).touch' h.t Ω,(h.t.cell Ω Ω 0).trans k4,h.jl⟩)
  ⟨XF4.refl _ _,ζh _,k1.frozen,_,k1.cell,Vm9 _ _ _ _⟩ ?round ?done ?stop
 case round=>
  intro lp j x W3 hsz3 U J;dsimp only[VYF];gi_wp2;refine⟨Gr.refl _,λW4 ht4 hI4=>?_⟩
  have Xb:j<L.length:=by
   rcases γ j L.length with h|h
   ·exact h
   ·unfold YdH at J;rw[ζf h]at J;cases J
  obtain rfl:x=L[j]:=by unfold YdH at J;rw[δ Xb]at J;exact(Option.some.inj J).symm
  have I:=QZB Xb;obtain⟨y,hy⟩:∃y,y=L[j].1:=⟨_,rfl⟩;rw[<-hy]at I⊢;obtain⟨vL,hc,ho⟩:=hI4.row;have Xn:=hI4.f0;have hsz4:W0.heap.size+6<=W4.heap.size:=by have:=ht4.size;omega
  have Xo:=hid hI4;have HO:=hid ho;have Xk:=hid I;clear U hI4 I hy ho J ht4;gi_wp2_with(gi_at_builtin;refine wpListIn_append_own _ rfl _ _ 66 rfl (W0.heap.size+6) 3 ii _ 1 8 underlying66 Xm Xg Xl Xp rfl (by decide) _ _ _ rfl (HO.o.alloc _) ⟨W4.heap.size,0,none⟩ 1 1 [.int .i64 (y:Nat)] rfl rfl (cell_one_new _ _ _) (by simp[Value.oneCell']) (by unfold maxLen;omega) Ω (by simp;omega) ?_;intro v' w5 Z O _;obtain⟨A5,c5,rfl,-,-⟩:=ZfN Z;have t5:XF4 (λi=>W0.heap.size+6<=i) W4 w5:=((((Gr.refl W4).alloc _).touch _)).trans (VxQ O _ (λi e _=>(Vvr HO.o e).1));have Xi:=(t5.cell (b:=w.heap.size) Ω Ω 0).trans hc;have Xq:=(t5.frozen (b:=w.heap.size) Ω Ω 0).trans Xn;have Xc:=hid Z;have Xh:=hid t5;clear Z O t5);have tt:XF4 (λi=>i=w.heap.size\/W0.heap.size+6<=i) W4 (w5.setCell ⟨w.heap.size,0,none⟩ (.slice A5 (j+1) c5)):=(Xh.o.mono (λi _ h=>.inr h)).setCell (a:=⟨w.heap.size,0,none⟩) (λ_=>.inl rfl) _;refine⟨tt.mono (λi _ h=>by omega),j+1,rfl,⟨Xo.o.t.trans (tt.mono (λi _ h=>h.imp id (λh=>by omega))),Xb,by rw[ξd];exact Xq,_,World.cell?_setCell_same' w5 ⟨w.heap.size,0,none⟩ _ (by rw[Xi];rfl),?_⟩⟩;rw[Xk.o];exact VDR Xc.o _ (λg hg=>by have:=(Vvr Xc.o hg).1;omega)
 case done=>
  rintro D j W3 hD rfl U hK;obtain⟨vL,hc,ho⟩:=U.row;have HO:=hid ho;have HK:=hid hK;have HD:=hid hD;have Xj:=hid U;have hs3:=U.t.size;clear ho hK hD U;gi_wp2;refine⟨by simp,.inl ⟨_,_,rfl,run_takeDeferred HK.o,?_⟩⟩;refine⟨_,results_tmp rfl _ _ _,vL,rfl,(((Xa.touch (λ_=>False)).trans' Xj.o.t (λi hi h=>by omega)).trans' (Vx3 W3 D _) (λi hi h=>by have:=HD.o;omega)).gr,?_⟩;exact QrH (Zs2 HO.o (Vx3 W3 D _) (λg hg h=>by have:=(Vvr HO.o hg).1;have:=HD.o;omega)) Ω
 case stop=>
  rintro D c W3 hD h hK;exact h.elim
end
section
open Go.RowKit Word
def XBr(s:MkS)(r vi:Int):Prop:=s.L=[]->r=1/\vi=0
theorem ZxD.popped{w w':World}{SV G SW:Nat->Prop}{c:MkC}{v:Vm}{L:List Ob}{st st':List Int}{lost lost':Bool}{r vi:Int}(h:ZxD w SV G SW c v ⟨L,st,lost⟩ r vi)(t:XF4 G w w')(s':QH2 w' G c.g st' c.R lost'):ZxD w' SV G SW c v ⟨L,st',lost'⟩ r vi:=by
 have hs:=h.sep;have Y:¬G c.k:=hs.k2;exact⟨MkC.vm h.zk.1 hs h.vm t (λi e=>.inr (.inr e)),h.ext.touch t (hs.mg _ (.inl rfl)) (λe=>hs.p1 (.inr (.inr e))) (hs.mg _ (.inr (.inl rfl))) (λe=>hs.p2 (.inr (.inr e))) (hs.mg _ (.inr (.inr rfl))),s',h.wk.touch t (λi hi _ e=>hs.sw i hi (.inr (.inr e))),h.row.touch t Y,t.tab h.tab.lt (λe=>hs.tab (.inr (.inr e))) h.tab,hs,ζb h.bB t.size,h.zk⟩
def J5X(st st':List Int)(a:Int)(b:Bool):Prop:=(b=true/\st=st'++[a])\/(b=false/\st=[]/\st'=[])
def VSm(w:World)(SV G SW:Nat->Prop)(c:MkC)(v:Vm)(s:MkS)(r vi:Int)(e:Ending)(w':World):Prop:=∃a b st',e=.returned (.tuple #[.int .i64 a,.bool b])/\XF4 (c.T G) w w'/\ZxD w' SV G SW c v ⟨s.L,st',s.lost⟩ r vi/\J5X s.st st' a b
section
variable {w:World} {SV G SW:Nat->Prop} {c:MkC} {v:Vm} {s:MkS} {r vi:Int} {X:Int->Prop} {rs:List Int}
theorem VPs(h:ZxD w SV G SW c v s r vi):Calls prog 192 #[.pointer (some ⟨c.g,0,none⟩)] w (VSm w SV G SW c v s r vi):=by
 refine(ZtN h.stk).mono ?_;rintro e w' (⟨h0,rfl,rfl⟩|⟨l',a,h0,rfl,ht,hs⟩)
 ·refine⟨0,false,[],rfl,XF4.refl _ _,?_,.inr ⟨rfl,h0,rfl⟩⟩;rw[<-h0];exact h
 ·exact⟨a,true,l',rfl,ht.mono (λi _ hi=>.inr (.inr hi)),ZxD.popped (L:=s.L) (st:=s.st) (lost:=s.lost) h ht hs,.inl ⟨rfl,h0⟩⟩
def DrS(v:Vm)(rs:List Int)(c:MkC)(X:Int->Prop)(s:MkS)(a:Int)(b:Bool)(k:Nat):Prop:=
 ((b=false/\s.st=[]/\YK6 v rs c.n c.R X s)\/(b=true/\Hs s.L a/\YK6 v rs c.n c.R (λx=>X x\/x=a) s))/\2*c.n+s.st.length+(if b then 1 else 0)<=2*s.L.length+k
theorem DrS.of{s:MkS}(h:YK6 v rs c.n c.R X s){st':List Int}{a:Int}{b:Bool}(hp:J5X s.st st' a b){k:Nat}(hk:2*c.n+s.st.length<=2*s.L.length+k):DrS v rs c X ⟨s.L,st',s.lost⟩ a b k:=by
 rcases hp with⟨rfl,h1⟩|⟨rfl,h1,rfl⟩
 ·have h':YK6 v rs c.n c.R X ⟨s.L,st'++[a],s.lost⟩:=by rw[<-h1];exact h
  refine⟨.inr ⟨rfl,h'.pop.2,h'.pop.1⟩,?_⟩;rw[h1]at hk;simp at hk⊢;omega
 ·refine⟨.inl ⟨rfl,rfl,by rw[<-h1];exact h⟩,?_⟩;rw[h1]at hk;simpa using hk
def VA5(s:MkS)(v:Vm)(rs:List Int)(c:MkC)(X:Int->Prop)(r vi:Int)(s':MkS)(r' vi':Int):Prop:=YK6 v rs c.n c.R X s'/\QxY s s'/\s'.st=[]/\(XBr s r vi->XBr s' r' vi')
theorem JY8{s t:MkS}{st':List Int}{a:Int}{b:Bool}(h:QxY s t)(hp:J5X t.st st' a b):QxY s ⟨t.L,st',t.lost⟩:=by
 refine⟨h.sub,h.len,h.los,?_⟩;have:=h.mea;rcases hp with⟨-,h1⟩|⟨-,h1,rfl⟩
 ·rw[h1]at this;simp at this;show 2*s.L.length+st'.length<=2*t.L.length+s.st.length;omega
 ·rw[h1]at this;exact this
theorem QHb{L:List Ob}{a:Int}(h:Hs L a):L≠[]:=by
 rintro rfl;obtain⟨o,ho,-⟩:=h;cases ho
theorem VAa(h:ZxD w SV G SW c v s r vi)(hp:∀a,Rch v rs a->c.z.Rd v a)(hi:YK6 v rs c.n c.R X s):Calls prog 143 #[.pointer (some ⟨c.k,0,none⟩)] w (Z92 w SV G SW c v (VA5 s v rs c X r vi) (¬Xd6 v rs c.n)):=by
 have H:=hid h;have HI:=hid hi;have c2:=h.row.cc 2;have HP:=hid hp;clear h hi hp;go_enter func143,ntmps143;go_wp2_with(go_at_call 192;refine(VPs H.o).mono ?_;rintro e w1 ⟨a0,b0,st0,rfl,O,E,V⟩;have Xf:=hid O;have Xi:=hid (E.up (w:=w) H.o.bB);have U:=hid V;clear O E V)
 go_loopg [2,3] (2*c.n+s.st.length) (λk s2 s3 wr=>∃(a:Int) (b:Bool) (s':MkS) (r' J:Int),s2=.int .i64 a/\s3=.bool b/\Hid (ZxD wr SV (plus G w) SW c v s' r' J)/\Hid (XF4 (c.T G) w wr)/\Hid (QxY s s'/\(XBr s r vi->XBr s' r' J)/\DrS v rs c X s' a b k))
 case atStart=>
  refine⟨a0,b0,_,r,vi,rfl,rfl,Xi,Xf,⟨JY8 (QxY.refl _) U.o,λh=>h,DrS.of HI.o U.o Ω⟩⟩
 case round=>
  obtain⟨a,b,s',r',J,rfl,rfl,HM,HT,HJ⟩:=hrel;clear c2;have k2:=HM.o.row.cc 2;cases b with
  | false=>
   go_wp2;refine ζF (ζr rfl _ _ _) rfl ?_;obtain⟨q1,q2,q3,-⟩:=HJ.o;rcases q3 with⟨-,h1,h2⟩|⟨h1,-⟩
   ·exact Z92.ok HT.o HM.o ⟨h2,q1,h1,q2⟩
   ·cases h1
  | true=>
   have HA:Hid (Hs s'.L a/\YK6 v rs c.n c.R (λx=>X x\/x=a) s'/\2*c.n+s'.st.length+1<=2*s'.L.length+gk):=⟨by
    obtain⟨q1,q2,q3,q4⟩:=HJ.o;rcases q3 with⟨h1,-⟩|⟨-,h1,h2⟩
    ·cases h1
    ·exact⟨h1,h2,q4⟩⟩
   go_wp2_with(first
    | (go_at_call 147;refine(ZUP HM.o HP.o HA.o.2.1 HA.o.1).mono ?_;rintro e w4 ⟨D,(⟨rfl,s4,r4,Xd,Y,Z⟩|⟨rfl,Z,s4,r4,Xd,Y⟩)⟩ <;> (have M:=hid (QsC HT.o D);have Xa:=hid (Y.back HT.o.size H.o.sep H.o.bB);have Xc:=hid Z;have k4:=Y.row.cc 2;clear D Y Z))
    | (go_at_call 192;refine(VPs Xa.o).mono ?_;rintro e w5 ⟨a5,b5,st5,rfl,I,Xb,Xe⟩;have Xh:=hid (QsC M.o I);have Xg:=hid Xb;have B:=hid Xe;clear I Xb Xe))
   ·have hgk:1<=gk:=by
     have:=HA.o.2.2;have:=HA.o.2.1.mkd.good.len;omega
    go_roundg (gk-1)
    case measure=>omega
    case rel=>
     obtain⟨q1,q2,-⟩:=HJ.o;obtain⟨p1,p2,p3,p4⟩:=Xc.o;have hme:=HA.o.2.2;have Y:=p2.mea;refine⟨a5,b5,_,r4,Xd,rfl,rfl,Xg,Xh,⟨JY8 (q1.trans p2) B.o,λ_ h0=>absurd h0 (QHb (p2.sub a HA.o.1)),DrS.of (p1.done p3 (λx hx=>hx)) B.o Ω⟩⟩
   ·exact⟨rfl,Z92.no M.o Xa.o Xc.o⟩
end
end
section
open Go.RowKit Word
theorem ZxD.cut{w:World}{SV G SW:Nat->Prop}{c:MkC}{v:Vm}{s:MkS}{r vi:Int}(h:ZxD w SV G SW c v s r vi):ZxD w SV (ZOk G w) SW c v s r vi:=by
 have hs:=h.sep;have Y:∀i,i<c.B/\¬c.T G i->i<c.B/\¬c.T (ZOk G w) i:=λi hi=>⟨hi.1,λht=>hi.2 (ht.imp id (λh=>h.imp id (λh=>h.1)))⟩
 exact⟨h.vm,h.ext,h.stk.cut,h.wk,h.row,h.tab,⟨λi hi=>Y i (hs.sv' i hi),λi hi=>Y i (hs.sw' i hi),Y _ hs.tab',Y _ hs.p1',Y _ hs.p2',hs.k1,λh=>hs.k2 h.1,hs.kB,λi hi h=>hs.mg i hi h.1,hs.mB,λi hi=>Y i (hs.sd' i hi)⟩,h.bB,h.zk⟩
def QZw(L:List Ob)(j:Nat)(a:Int):Prop:=∃o∈L.drop j,(o.1:Int)=a
theorem JmM{L:List Ob}{a:Int}(h:Hs L a):QZw L 0 a:=h
theorem J6E{L:List Ob}{j:Nat}(h:j<L.length){a:Int}(ha:QZw L j a):QZw L (j+1) a\/a=(L[j].1:Int):=by
 obtain⟨o,ho,rfl⟩:=ha;rw[ξB h]at ho;rcases ζH.1 ho with rfl|ho
 ·exact .inr rfl
 ·exact .inl ⟨o,ho,rfl⟩
theorem Jdx{L:List Ob}(a:Int):¬QZw L L.length a:=by
 rintro⟨o,ho,-⟩;rw[List.drop_length]at ho;cases ho
theorem YK6.found{v:Vm}{rs:List Int}{n R:Nat}{X:Int->Prop}{s:MkS}(h:YK6 v rs n R X s):YK6 v rs n R (QZw s.L 0) ⟨s.L,s.st,false⟩:=⟨h.mkd,h.st,h.r,λ_ ha=>.inr (.inr (.inr (JmM ha)))⟩
section
variable {w:World} {SV G SW:Nat->Prop} {c:MkC} {v:Vm} {rs:List Int}
def s0:MkS:=⟨[],[],false⟩
def JrO(v:Vm)(rs:List Int)(c:MkC)(j:Nat)(s:MkS)(r vi:Int):Prop:=YK6 v rs c.n c.R (λ_=>False) s/\s.st=[]/\(∀x∈rs.take j,x≠0->Hs s.L x)/\XBr s r vi/\(s.lost=true->s.L≠[])
def Vcn(v:Vm)(rs:List Int)(c:MkC)(s:MkS)(r vi:Int):Prop:=Zx6 v rs c.n s.L/\XBr s r vi
theorem YXl(h:ZxD w SV G SW c v s0 0 0)(hp:∀a,Rch v rs a->c.z.Rd v a){A:Option Addr}{cp:Nat}(hA:YxD (c.T G) w A rs)(hlen:rs.length<=maxLen):
  Calls prog 99 #[.pointer (some ⟨c.k,0,none⟩),.slice A rs.length cp] w (Z92 w SV G SW c v (Vcn v rs c) (¬Xd6 v rs c.n)):=by
 have H:=hid h;have HA:=hid hA;have HP:=hid hp;have c6:=h.row.cc 6;have kf:=h.row.free 6;obtain⟨N,hN⟩:∃N,N=rs.length:=⟨_,rfl⟩;rw[<-hN]at hlen⊢;have HN:=hid hN;unfold maxLen at hlen;clear h hA hN hp;go_enter func99,ntmps99;go_wp2;have Yj:Hid (ZxD (w.setCell ⟨c.k,6,none⟩ (.int .i64 1)) SV (plus G w) SW c v s0 1 0):=⟨(H.o.set (r':=1) (vi':=0) rfl).up H.o.bB⟩;have Yc:Hid (XF4 (c.T G) w (w.setCell ⟨c.k,6,none⟩ (.int .i64 1))):=⟨YeZ 6 _⟩;obtain⟨w1,Yn⟩:∃w1,w1=w.setCell ⟨c.k,6,none⟩ (.int .i64 1):=⟨_,rfl⟩;rw[<-Yn]at Yj Yc⊢;clear c6 kf Yn
 go_loopw [14] (λs14 wr=>∃(j:Nat) (s:MkS) (r vi:Int),j<=N/\Hid (ZxD wr SV (plus G w) SW c v s r vi)/\Hid (XF4 (c.T G) w wr)/\Hid (JrO v rs c j s r vi)/\s14=.int .i64 j) (λs14 _=>N-(intOf s14).toNat)
 case atStart=>exact⟨0,s0,1,0,ζh _,Yj,Yc,⟨⟨Mk.nil _ _ _,(λ_ h=>by cases h),ζh _,(λa ha=>absurd rfl (QHb ha))⟩,rfl,(λx hx=>by cases hx),(λ_=>⟨rfl,rfl⟩),(λh=>by cases h)⟩,rfl⟩
 case round=>
  obtain⟨j,s,r,vi,hj,HM,HT,HJ,rfl⟩:=hrel;by_cases Z:j=N
  ·subst Z;have Xz:Hid (JrO v rs c rs.length s r vi):=⟨by have:=HJ.o;rwa [HN.o]at this⟩;clear HJ hj;go_wp2
   go_loopg [] (c.n+1) (λk wr=>∃(s:MkS) (r vi:Int),Hid (ZxD wr SV (plus G w) SW c v s r vi)/\Hid (XF4 (c.T G) w wr)/\Hid (JrO v rs c rs.length s r vi)/\Hid (s.lost=true->c.n+1<=s.L.length+k))
   case atStart=>exact⟨s,r,vi,HM,HT,Xz,⟨λ_=>by omega⟩⟩
   case round=>
    clear HM HT Xz;clear s r vi;obtain⟨wo,rfl⟩:∃wo:World,wo=wr:=⟨_,rfl⟩;obtain⟨s,r,vi,HM,HT,HJ,HK⟩:=hrel;have k2:=HM.o.row.cc 2;obtain⟨L,st,lost⟩:=s;have Yh:=hid (XPh HM.o.stk);cases lost with
    | false=>
     go_wp2_with(go_at_call 144;refine Yh.o.mono ?_;rintro e w2 ⟨rfl,rfl⟩);refine ζF (ζr rfl _ _ _) rfl ?_;obtain⟨q1,q2,q3,q4,q5⟩:=HJ.o;exact Z92.ok HT.o HM.o ⟨q1.marks (λ_ h=>h) q2 rfl (λx hx h0=>q3 x (by rw[ζT];exact hx) h0),q4⟩
    | true=>
     have Yx:st=[]:=HJ.o.2.1;subst Yx;have Xs:=hid HM.o.cut;obtain⟨G1,Xw⟩:∃G1,G1=ZOk (plus G w) wo:=⟨_,rfl⟩;rw[<-Xw]at Xs;have Xi:Hid (∀i,G1 i->plus G w i/\i<wo.heap.size):=⟨λi hi=>by rw[Xw]at hi;exact hi⟩;have Yq:=HJ.o.2.2.2.2 rfl;have Yo:=HJ.o.1.mkd.good;have Yu:L.length<=1048576:=ζb Yo.len HM.o.ext.nb.2;obtain⟨LN,Xr⟩:∃LN,LN=L.length:=⟨_,rfl⟩;have Xe:=hid Xr;rw[<-Xr]at Yu;clear Xw Yo Xr
     go_wp2_with(first
      | (go_at_call 144;refine Yh.o.mono ?_;rintro e w2 ⟨rfl,rfl⟩)
      | (go_at_call 145;refine(Qf8 Xs.o.stk).mono ?_;rintro e w2 ⟨rfl,Xv,Yp⟩;have Xl:=hid (ZxD.popped (L:=L) (st:=[]) (lost:=true) Xs.o Xv Yp);have k6:=Xl.o.row.cc 6;have k1:=Xl.o.row.cc 1;have kf:=Xl.o.row.free 6;have Ya:=hid Xv;clear Xv Yp)
      | (go_at_call 146;have Xo:=hid (λx:Int=>Xl.o.set (j:=6) (u:=.int .i64 x) (r':=x) (vi':=vi) rfl);refine(Yde (Xo.o _).ext (Xo.o _).tab ((Xo.o _).row.cell (j:=1) rfl)).mono ?_;rintro e w3 ⟨vL,rfl,Xu,Xx⟩;have Xk:=hid ((Xo.o _).gr Xu);have Ym:=hid Xu;obtain⟨A3,Yl,rfl,Ys,h32⟩:=ZfN Xx;have Xq:=hid Xx;rw[<-Xe.o]at Xq;rw[<-Xe.o]at Ys;clear Xu Xx))
     have hz2:wo.heap.size<=w2.heap.size:=Ya.o.size;have hz3:w2.heap.size<=w3.heap.size:=by simpa using Ym.o.size
     have hzw:w.heap.size<=wo.heap.size:=HT.o.size;have hBw:c.B<=w.heap.size:=H.o.bB
     have Yi:Hid (∀g,(Value.slice A3 LN Yl).ownBlock=some g->¬c.T (plus G1 w3) g):=⟨λg hg ht=>by
      obtain⟨a1,a2⟩:=Vvr Xq.o hg;have a1:w2.heap.size<=g:=by simpa using a1
      rcases ht with h1|h1|h1|h1
      ·have:=H.o.sep.kB;omega
      ·have:=H.o.sep.mB g h1;omega
      ·have:=(Xi.o g h1).2;omega
      ·omega⟩
     have Yf:Hid (X2M c SV G1 SW):=⟨Xk.o.sep⟩;have Ye:Hid (XF4 (c.T G1) wo w3):=⟨((Ya.o.mono (λi _ h=>.inr (.inr h))).trans (YeZ 6 _)).trans (Ym.o.touch _)⟩;clear k1 k2 k6 kf;rw[<-Xe.o]
     go_loopw [46] (λs46 wy=>∃(j:Nat) (s':MkS) (r' vi':Int),j<=LN/\Hid (ZxD wy SV (plus G1 w3) SW c v s' r' vi')/\Hid (XF4 (c.T G1) w3 wy)/\Hid (wy.ownsRow 0 3 1 (.slice A3 LN Yl) LN (QpM L LN))/\Hid (YK6 v rs c.n c.R (QZw L j) s'/\QxY ⟨L,[],false⟩ s'/\s'.st=[])/\s46=.int .i64 j) (λs46 _=>LN-(intOf s46).toNat)
     case atStart=>
      exact⟨0,⟨L,[],false⟩,_,vi,ζh _,⟨Xk.o.up (w:=w3) Xk.o.bB⟩,⟨XF4.refl _ _⟩,⟨QrH Xq.o (ζh _)⟩,⟨HJ.o.1.found,QxY.refl _,rfl⟩,rfl⟩
     case round=>
      obtain⟨j,s',r',vi',hj,Yk,Xt,Xp,Xm,rfl⟩:=hrel;by_cases Z:j=LN
      ·subst Z;go_wp2
       have hgk:1<=gk:=by
        have:=HK.o (by simp);have h2:=HJ.o.1.mkd.good.len;have h2:L.length<=c.n:=h2;have h3:c.n+1<=L.length+gk:=this;omega
       go_roundg (gk-1)
       case measure=>omega
       case rel=>
        obtain⟨q1,q2,q3⟩:=Xm.o;have O:=q2.len;have O:L.length<=s'.L.length:=O;have Yw:XF4 (c.T (plus G w)) wo wr:=(Ye.o.trans Xt.o).mono (λi _ h=>h.imp id (λh=>h.imp id (λh=>(Xi.o i h).1)));have Yb:s'.L≠[]:=λe=>by have h1:=O;rw[e]at h1;exact Yq (ζv (ψE.1 h1))
        refine⟨s',r',vi',⟨Yk.o.sub (λi h=>h.elim (λh=>(Xi.o i h).1) (λh=>.inr Ω)) (H.o.sep.plus H.o.bB)⟩,⟨QsC HT.o Yw⟩,⟨q1.weak (λa h=>absurd h (by rw[Xe.o];exact Jdx a)),q3,λx hx h0=>q2.sub _ (HJ.o.2.2.1 x hx h0),λh=>absurd h Yb,λ_=>Yb⟩,⟨λhl=>?_⟩⟩;have h5:=HK.o (by simp);have h5:c.n+1<=L.length+gk:=h5;rcases q2.los hl with h|h
        ·cases h
        ·have h:L.length<s'.L.length:=h;omega
      ·have U:j<L.length:=by have:=Xe.o;omega
       have Yz:(j:Int)<(LN:Int):=Ω
       obtain⟨g,cc',ea,-,-,-,-⟩:=YTP Xp.o Ω;simp only[Value.slice.injEq]at ea;obtain⟨rfl,-,rfl⟩:=ea;obtain⟨a,ha⟩:∃a:Int,a=(L[j].1:Nat):=⟨_,rfl⟩;have kc:=ZBn Xp.o (j:=j) (u:=.int .i64 a) (by rw[ha];unfold QpM zs;rw[Xe.o,ζT];simp[U]);have Yd:Hid (Hs L a/\a=(L[j].1:Nat)):=⟨⟨L[j],χ U,ha.symm⟩,ha⟩;have Xf:=hid (ν hj (ν Z U));have Xn:Hid (∀(W:World) (t:MkS) (x y:Int),ZxD W SV (plus G1 w3) SW c v t x y->XF4 (c.T G1) w3 W->ZxD W SV (plus G w) SW c v t x y/\XF4 (c.T G) w W):=⟨λW t x y hm ht=>⟨hm.sub (λi h=>h.elim (λh=>(Xi.o i h).1) (λh=>.inr Ω)) (H.o.sep.plus H.o.bB),QsC HT.o ((Ye.o.trans ht).mono (λi _ h=>h.imp id (λh=>h.imp id (λh=>(Xi.o i h).1))))⟩⟩;clear hj Z ha
       go_wp2_with(first
        | (go_at_call 147;refine(ZUP Yk.o HP.o Xm.o.1 (Xm.o.2.1.sub a Yd.o.1)).mono ?_;rintro e w4 ⟨Xd,(⟨rfl,s4,r4,Xy,M,D⟩|⟨rfl,D,s4,r4,Xy,M⟩)⟩ <;> (have Yr:=hid (Zs2 Xp.o Xd Yi.o);have J:=hid (QsC Xt.o Xd);have Xg:=hid (M.back Xt.o.size Yf.o Xk.o.bB);have V:=hid D;clear Xd M D))
        | (go_at_call 143;refine(VAa Xg.o HP.o (V.o.1.done V.o.2.2.1 (Y:=QZw L (j+1)) (λx hx=>by rw[Yd.o.2];exact J6E Xf.o.2.2 hx))).mono ?_;rintro e w5 ⟨Xc,(⟨rfl,s5,r5,Xh,I,E⟩|⟨rfl,E,s5,r5,Xh,I⟩)⟩ <;> (have Yv:=hid (Zs2 Yr.o Xc Yi.o);have Xb:=hid (QsC J.o Xc);have Xa:=hid (I.back J.o.size Yf.o Xk.o.bB);have Xj:=hid E;clear Xc I E)))
       ·go_round
        case rel=>
         obtain⟨p1,p2,p3,p4⟩:=V.o;obtain⟨t1,t2,t3,t4⟩:=Xj.o;refine⟨j+1,s5,r5,Xh,by have:=Xf.o;omega,Xa,Xb,Yv,⟨t1,(Xm.o.2.1.trans p2).trans t2,t3⟩,by go_num⟩
        case measure=>have:=Xf.o;simp[intOf];omega
       ·exact⟨rfl,Z92.no (Xn.o _ _ _ _ Xa.o Xb.o).2 (Xn.o _ _ _ _ Xa.o Xb.o).1 Xj.o⟩
       ·exact⟨rfl,Z92.no (Xn.o _ _ _ _ Xg.o J.o).2 (Xn.o _ _ _ _ Xg.o J.o).1 V.o⟩
  ·have Yz:(j:Int)<(N:Int):=Ω
   have U:j<rs.length:=by have:=HN.o;omega
   obtain⟨b,o,rfl,hb,Yg,e0⟩:=HA.o j U;have i0:=(HT.o.cell hb Yg (o+j)).trans e0;obtain⟨a,ha⟩:∃a,a=rs[j]:=⟨_,rfl⟩;rw[<-ha]at i0 e0;have Yt:Hid (a≠0->Rch v rs a):=⟨λh0=>Rch.root (by rw[ha];exact χ U) h0⟩
   have Yy:Hid (∀x,x∈rs.take (j+1)->x∈rs.take j\/x=a):=⟨λx hx=>by
    rw[ξe U]at hx
    exact(ζj.1 hx).imp id (λh=>by rw[ha];exact ζs.1 h)⟩
   have Xf:=hid (ν hj Z);clear hj Z U ha e0 Yg
   go_wp2_with(first
    | (go_at_call 142;refine(VVL HM.o HP.o HJ.o.1 Yt.o).mono ?_;rintro e w4 ⟨Xd,(⟨rfl,s4,r4,Xy,M,D⟩|⟨rfl,D,s4,r4,Xy,M⟩)⟩ <;> (have J:=hid (QsC HT.o Xd);have Xg:=hid (M.back HT.o.size H.o.sep H.o.bB);have V:=hid D;clear Xd M D))
    | (go_at_call 143;refine(VAa Xg.o HP.o V.o.1).mono ?_;rintro e w5 ⟨Xc,(⟨rfl,s5,r5,Xh,I,E⟩|⟨rfl,E,s5,r5,Xh,I⟩)⟩ <;> (have Xb:=hid (QsC J.o Xc);have Xa:=hid (I.back J.o.size H.o.sep H.o.bB);have Xj:=hid E;clear Xc I E)))
   ·go_round
    case rel=>
     obtain⟨q1,q2,q3,q4,q5⟩:=HJ.o;obtain⟨p1,p2,p3,rfl,rfl⟩:=V.o;obtain⟨t1,t2,t3,t4⟩:=Xj.o;have O:=p2.trans t2;refine⟨j+1,s5,r5,Xh,by have:=Xf.o;omega,Xa,Xb,⟨t1,t3,λx hx h0=>?_,t4 (λh=>q4 ?_),λhl=>?_⟩,by go_num⟩
     ·rcases Yy.o x hx with h|rfl
      ·exact O.sub _ (q3 x h h0)
      ·exact t2.sub _ (p3 h0)
     ·have:=p2.len;rw[h]at this;exact ζv (by simpa using this)
     ·have h5:=O.len;rcases O.los hl with h|h
      ·exact λe=>q5 h (ζv (by rw[e]at h5;simpa using h5))
      ·intro e;rw[e]at h;simp at h
    case measure=>have:=Xf.o;simp[intOf];omega
   ·exact⟨rfl,Z92.no Xb.o Xa.o Xj.o⟩
   ·exact⟨rfl,Z92.no J.o Xg.o V.o⟩
end
end
section
open Go.RowKit Word
theorem VUu(args:Array Value)(W:World):(callFunc 98 args).run prog W=.ok (.enter 98 args) W:=by kernel_rfl
def XZT(z:Sp)(m g:Nat)(wk:Value)(L:List Ob)(r vi:Int):List Value:=[z.v,.pointer (some ⟨m,0,none⟩),.pointer (some ⟨g,0,none⟩),wk,.int .i64 (L.length:Nat),.int .i64 (sizes L:Nat),.int .i64 r,.int .i64 vi]
section
variable {w:World} {SV G SW:Nat->Prop} {c:MkC} {v:Vm} {rs:List Int}
theorem QNt{b12 b5 cp:Nat}{A:Option Addr}(hrow:Rec w c.k 174 (XZT c.z c.m c.g (.pointer none) [] 0 0))(hp:∀a,Rch v rs a->c.z.Rd v a)(h:ZxD (w.setCell ⟨c.k,3,none⟩ (.pointer (some ⟨c.wk,0,none⟩))) SV G SW c v s0 0 0)
  (c12:w.cell? ⟨b12,0,none⟩=some (.pointer (some ⟨c.k,0,none⟩))) (c5:w.cell? ⟨b5,0,none⟩=some (.slice A rs.length cp)) (n12:b12≠c.k) (n5:b5≠c.k) (hA:YxD (c.T G) w A rs) (hlen:rs.length<=maxLen):
  Calls prog 98 #[.pointer (some ⟨c.wk,0,none⟩),.pointer (some ⟨b12,0,none⟩),.pointer (some ⟨b5,0,none⟩)] w (Z92 w SV G SW c v (Vcn v rs c) (¬Xd6 v rs c.n)):=by
 have k3:=hrow.cc 3;have kf:=hrow.free 3;have J:(w.setCell ⟨c.k,3,none⟩ (.pointer (some ⟨c.wk,0,none⟩))).heap.size=w.heap.size:=World.size_setCell ..;have U:=hA.touch (YeZ (w:=w) (c:=c) (G:=G) 3 (.pointer (some ⟨c.wk,0,none⟩))) (λ_ _ h=>h);have Z:=hid (YXl (cp:=cp) h hp U hlen)
 have V:Hid (∀e w',Z92 (w.setCell ⟨c.k,3,none⟩ (.pointer (some ⟨c.wk,0,none⟩))) SV G SW c v (Vcn v rs c) (¬Xd6 v rs c.n) e w'->Z92 w SV G SW c v (Vcn v rs c) (¬Xd6 v rs c.n) e w'):=⟨λe w' he=>by
  obtain⟨ht,he⟩:=he;unfold plus at he;rw[J]at he
  exact⟨(YeZ 3 _).trans ht,he⟩⟩
 have tk:=(XF4.refl (λi=>i=c.k) w).setCell (a:=⟨c.k,3,none⟩) (λ_=>rfl) (.pointer (some ⟨c.wk,0,none⟩));have x5:=(tk.cell (ZQf c5) n5 0).trans c5;have x12:=(tk.cell (ZQf c12) n12 0).trans c12;clear hrow h hA U J hlen tk hp;go_enter func98,ntmps98;go_wp2_with(go_at_call 99;refine Z.o.mono ?_;intro e w1 he;have he:=V.o _ _ he;rcases he with⟨Y,(⟨rfl,h1⟩|⟨rfl,h1⟩)⟩)
 ·refine ζF (ζr rfl _ _ _) rfl ?_;exact⟨Y,.inl ⟨rfl,h1⟩⟩
 ·obtain⟨-,h2⟩:=h1;exact⟨rfl,Y,.inr ⟨rfl,trivial,h2⟩⟩
end
structure Y3k(w:World)(SV:Nat->Prop)(z:Sp)(k m p1 b1 p2 b2 n g:Nat)(v:Vm)(L:List Ob)(r vi:Int):Prop where
 zk:z.Ok
 vm:z.I v SV w
 ext:Ext w m p1 b1 p2 b2 n L
 tab:VRW w
 row:∃wk,Rec w k 174 (XZT z m g wk L r vi)
theorem Y3k.touch{S:Nat->Prop}{w w':World}{SV:Nat->Prop}{z:Sp}{k m p1 b1 p2 b2 n g:Nat}{v:Vm}{L:List Ob}{r vi:Int}(h:Y3k w SV z k m p1 b1 p2 b2 n g v L r vi)(t:XF4 S w w')(hv:∀i,SV i->¬S i)(hm:∀i,YBz m b1 b2 i->¬S i)(h1:¬S p1)(h2:¬S p2)(ht:¬S 1)(hk:¬S k)(hd:∀i,z.D i->¬S i):Y3k w' SV z k m p1 b1 p2 b2 n g v L r vi:=
 ⟨h.zk,h.zk.fr h.vm t (λi _ hi=>⟨λh=>hv i h hi,λh=>hd i h hi⟩) (λ_ h=>h),h.ext.touch t (hm _ (.inl rfl)) h1 (hm _ (.inr (.inl rfl))) h2 (hm _ (.inr (.inr rfl))),t.tab h.tab.lt ht h.tab,by obtain⟨wk,hr⟩:=h.row;exact⟨wk,hr.touch t hk⟩⟩
def XT9(w:World)(SV SG:Nat->Prop)(z:Sp)(k m p1 b1 p2 b2 n g:Nat)(v:Vm)(rs:List Int)(e:Ending)(w':World):Prop:=
 XF4 (λi=>i=k\/YBz m b1 b2 i\/SG i\/SV i) w w'/\∃x y L r vi,e=.returned (.agg #[.int .i64 x,.int .i64 y])/\Y3k w' SV z k m p1 b1 p2 b2 n g v L r vi ∧
  ((x=0/\Zx6 v rs n L/\(L=[]->r=1/\vi=0))\/(x=25/\¬Xd6 v rs n))
theorem Q3I{w:World}{SV SG:Nat->Prop}{z:Sp}{k m p1 b1 p2 b2 n g R b12 b5 cp:Nat}{v:Vm}{rs:List Int}{A:Option Addr}(hz:z.Ok/\¬z.M)(hfail:Xd6 v rs n\/∃q,z=spM q)(hp:∀a,Rch v rs a->z.Rd v a)(hD:∀i,z.D i->i<w.heap.size/\¬(i=k\/YBz m b1 b2 i\/SG i))(hV:z.I v SV w)(hE:Ext w m p1 b1 p2 b2 n [])(hS:QH2 w SG g [] R false)(hR:Rec w k 174 (XZT z m g (.pointer none) [] 0 0))(hT:VRW w)
  (c12:w.cell? ⟨b12,0,none⟩=some (.pointer (some ⟨k,0,none⟩))) (c5:w.cell? ⟨b5,0,none⟩=some (.slice A rs.length cp)) (n12:b12≠k) (n5:b5≠k) (hA:YxD (λi=>i=k\/YBz m b1 b2 i\/SG i) w A rs) (hlen:rs.length<=maxLen)
  (hSV:∀i,SV i->i<w.heap.size/\¬(i=k\/YBz m b1 b2 i\/SG i)) (hSG:∀i,SG i->i<w.heap.size) (hp1:¬(p1=k\/YBz m b1 b2 p1\/SG p1)) (hp2:¬(p2=k\/YBz m b1 b2 p2\/SG p2)) (htb:¬(1=k\/YBz m b1 b2 1\/SG 1))
  (hv1:¬SV p1) (hv2:¬SV p2) (hvt:¬SV 1) (hkm:¬YBz m b1 b2 k) (hkg:¬SG k) (hmg:∀i,YBz m b1 b2 i->¬SG i):
  Calls prog 97 #[z.v,.func (.func 98) #[] #[.pointer (some ⟨b12,0,none⟩),.pointer (some ⟨b5,0,none⟩)]] w (XT9 w SV SG z k m p1 b1 p2 b2 n g v rs):=by
 have Xs:(XEJ w z.v).heap.size=w.heap.size+2:=by unfold XEJ;rw[η,η]
 obtain⟨q0,Xm⟩:∃q0,∀q,z=spM q->q0=q:=by
  by_cases h:∃q,z=spM q
  ·obtain⟨q,rfl⟩:=h;exact⟨q,λq' h=>by have:=congrArg Sp.rv h;simp[spM]at this;exact this⟩
  ·exact⟨0,λq h'=>absurd ⟨q,h'⟩ h⟩
 obtain⟨W0,J⟩:∃W0,W0=Vlc (XEJ w z.v) (w.heap.size+1):=⟨_,rfl⟩;have Xh:W0.heap.size=w.heap.size+5:=by rw[J];unfold Vlc;rw[η,η,η,Xs]
 have g1:Gr w (XEJ w z.v):=((Gr.refl w).alloc _).alloc _;have g2:Gr (XEJ w z.v) W0:=by rw[J];exact(((Gr.refl _).alloc _).alloc _).alloc _
 have g0:Gr w W0:=g1.trans g2;have Xj:=hR.lt
 have Z:∀i,YBz m b1 b2 i->i<w.heap.size:=λi hi=>by
  rcases hi with rfl|rfl|rfl
  ·exact hE.hm
  ·exact hE.v1.hb
  ·exact hE.v2.hb
 have Xk:p1<w.heap.size:=hE.v1.hp;have Xp:p2<w.heap.size:=hE.v2.hp;have Xx:=hT.lt;obtain⟨c,hc⟩:∃c:MkC,c=⟨k,z,m,p1,b1,p2,b2,n,g,R,w.heap.size+1,w.heap.size+5⟩:=⟨_,rfl⟩
 have Xd:∀i,c.T SG i->i<w.heap.size:=λi hi=>by
  rw[hc]at hi;rcases hi with rfl|hi|hi
  ·exact Xj
  ·exact Z i hi
  ·exact hSG i hi
 have B:X2M c SV SG (λi=>i=w.heap.size+1):=by
  have O:=Xd;rw[hc]at O⊢;exact⟨λi hi=>⟨by have:=(hSV i hi).1;show i<w.heap.size+5;omega,(hSV i hi).2⟩,λi hi=>⟨by show i<w.heap.size+5;omega,λh=>by have:=O i h;omega⟩,⟨by show _<w.heap.size+5;omega,htb⟩,⟨by show p1<w.heap.size+5;omega,hp1⟩,⟨by show p2<w.heap.size+5;omega,hp2⟩,hkm,hkg,by show k<w.heap.size+5;omega,hmg,λi hi=>by have:=Z i hi;show i<w.heap.size+5;omega,λi hi=>⟨by have:=(hD i hi).1;show i<w.heap.size+5;omega,(hD i hi).2⟩⟩
 have Xw:ZxD (W0.setCell ⟨c.k,3,none⟩ (.pointer (some ⟨c.wk,0,none⟩))) SV SG (λi=>i=w.heap.size+1) c v s0 0 0:=by
  have tk:XF4 (λi=>i=c.k) W0 (W0.setCell ⟨c.k,3,none⟩ (.pointer (some ⟨c.wk,0,none⟩))):=(XF4.refl (λi=>i=c.k) _).setCell (a:=⟨c.k,3,none⟩) (λ_=>rfl) _;have hw:=(VS8 w z.v).gr g2;rw[hc]at tk B⊢;refine⟨hz.1.fr (hz.1.gr hV g0) tk (λi _ e=>⟨λh=>(hSV i h).2 (.inl e),λh=>(hD i h).2 (.inl e)⟩) (λ_ h=>h),(hE.gr g0).touch tk (λe=>hkm (.inl e.symm)) (λe=>hp1 (.inl e)) (λe=>hkm (.inr (.inl e.symm))) (λe=>hp2 (.inl e)) (λe=>hkm (.inr (.inr e.symm))),(hS.gr g0).touch tk (λi hi _ e=>hkg (by subst e;exact hi)),hw.touch tk (λi hi _ e=>by have e:i=k:=e;omega),(hR.gr g0).set 3 (.pointer (some ⟨w.heap.size+1,0,none⟩)),tk.tab (g0.tab hT.lt hT).lt (λe=>htb (.inl e)) (g0.tab hT.lt hT),B,?_,hz⟩
  show w.heap.size+5<=_
  rw[World.size_setCell,Xh];exact π _
 have Xe:=QNt (w:=W0) (b12:=b12) (b5:=b5) (cp:=cp) (A:=A) (rs:=rs) (by rw[hc];exact hR.gr g0) (by rw[hc];exact hp) Xw (by rw[hc];exact(g0.cell (ZQf c12) 0).trans c12) ((g0.cell (ZQf c5) 0).trans c5) (by rw[hc];exact n12) (by rw[hc];exact n5)
  (by rw[hc];exact hA.gr g0) hlen
 have V:Calls prog 98 (#[.pointer (some ⟨w.heap.size+1,0,none⟩)]++#[.pointer (some ⟨b12,0,none⟩),.pointer (some ⟨b5,0,none⟩)]) W0
   (YRv q0 (w.heap.size+1) (w.heap.size+3) (c.T SG) W0 (λw1=>∃s r vi,ZxD w1 SV (plus SG W0) (λi=>i=w.heap.size+1) c v s r vi/\Vcn v rs c s r vi)
    (λXc _ v' l S S2 w1=>Xc=25/\v'=v/\l=[]/\S=(λi=>i=w.heap.size+1)/\S2=SV/\¬Xd6 v rs c.n/\∃s r vi,ZxD w1 SV (plus SG W0) (λi=>i=w.heap.size+1) c v s r vi)):=by
  have hb:=Xe;rw[show c.wk=w.heap.size+1 by rw[hc]]at hb;refine hb.mono ?_;rintro e w1 ⟨ht,(⟨rfl,s,r,vi,hm,hp⟩|⟨rfl,hn,s,r,vi,hm⟩)⟩
  ·exact⟨ht,.inl ⟨rfl,s,r,vi,hm,hp⟩⟩
  ·obtain⟨q,hq⟩:=hfail.resolve_left (by have:=hn;rwa [show c.n=n by rw[hc]]at this);obtain rfl:=Xm q hq;have Xn:=hm.wk;have Xg:=hm.vm;rw[show c.wk=w.heap.size+1 by rw[hc],show c.z=spM q0 by rw[hc];exact hq]at Xn;rw[show c.z=spM q0 by rw[hc];exact hq]at Xg;exact⟨ht,.inr ⟨25,0,v,[],_,_,rfl,Xn,Xg,λi hi h=>by have:=(hSV i h).1;omega,by omega,λh=>by have:=(hSV _ h).1;omega,rfl,rfl,rfl,rfl,rfl,hn,s,r,vi,hm⟩⟩
 have Xo:=Zfg (w:=w) (sp:=z.v) (q:=q0) (F:=98) (caps:=#[.pointer (some ⟨b12,0,none⟩),.pointer (some ⟨b5,0,none⟩)]) ⟨_,_,rfl⟩ VUu (by rw[<-J];exact V)
  (λi h1 h2 h=>by have:=Xd i h;omega) (λh=>by have:=Xd _ h;omega) (λXc a' v' l S' S2 w1 h=>by
   obtain⟨-,-,-,rfl,rfl,-⟩:=h
   exact⟨by omega,λh=>by have:=(hSV _ h).1;omega⟩)
 refine Xo.mono ?_;rintro e w' ⟨w2,fx,fy,⟨w1,Xi,hp⟩,rfl,rfl⟩;rw[<-J]at Xi;rw[Xs]at hp;subst hc;have T1:XF4 (λi=>i=k\/YBz m b1 b2 i\/SG i\/SV i) w w1:=(g0.touch _).trans' Xi (λi hi h=>h.imp id (λh=>h.imp id .inl));have Xl:∀s r vi,ZxD w1 SV (plus SG W0) (λi=>i=w.heap.size+1) ⟨k,z,m,p1,b1,p2,b2,n,g,R,w.heap.size+1,w.heap.size+5⟩ v s r vi->Y3k w1 SV z k m p1 b1 p2 b2 n g v s.L r vi:=λs r vi hm=>⟨hz.1,hm.vm,hm.ext,hm.tab,_,hm.row⟩
 have E:∀(W1 W2:World) (L:List Ob) (r vi:Int),Y3k W1 SV z k m p1 b1 p2 b2 n g v L r vi->XF4 (λi=>w.heap.size<=i) W1 W2->Y3k W2 SV z k m p1 b1 p2 b2 n g v L r vi:=λW1 W2 L r vi h t=>
  h.touch t (λi hi h=>by have:=(hSV i hi).1;omega) (λi hi h=>by have:=Z i hi;omega) Ω Ω Ω Ω (λi hi h=>by have:=(hD i hi).1;omega)
 have Xb:∀(W:World) (z1 z2:Value),XF4 (λi=>w.heap.size<=i) W ((W.setCell ⟨w.heap.size,0,none⟩ z1).setCell ⟨w.heap.size,1,none⟩ z2):=λW z1 z2=>
  ((XF4.refl (λi=>w.heap.size<=i) W).setCell (a:=⟨w.heap.size,0,none⟩) (λ_=>π _) z1).setCell (a:=⟨w.heap.size,1,none⟩) (λ_=>π _) z2
 rcases hp with⟨⟨s,r,vi,hm,Xr,Xq⟩,he,rfl⟩|⟨Xc,a',v',l,S',S2,⟨rfl,rfl,rfl,rfl,rfl,hn,s,r,vi,hm⟩,he,Xt⟩
 ·simp only[Ending.returned.injEq,Value.agg.injEq]at he;have Xa:fx=0/\fy=0:=by simpa using he
  obtain⟨rfl,rfl⟩:=Xa;have Xu:=((XF4.refl (λi=>w.heap.size<=i) w1).setCell (a:=⟨w.heap.size+2+1,0,none⟩) (λ_=>by show w.heap.size<=w.heap.size+2+1;omega) (.int .i64 0)).setCell (a:=⟨w.heap.size+2+1,1,none⟩) (λ_=>by show w.heap.size<=w.heap.size+2+1;omega) (.int .i64 0);have Xf:=Xu.trans (Xb _ (.int .i64 0) (.int .i64 0));exact⟨T1.trans' Xf (λi hi h=>by omega),0,0,s.L,r,vi,rfl,E _ _ _ _ _ (Xl s r vi hm) Xf,.inl ⟨rfl,Xr,Xq⟩⟩
 ·simp only[Ending.returned.injEq,Value.agg.injEq]at he;have Xa:fx=25/\fy=a':=by simpa using he
  obtain⟨rfl,rfl⟩:=Xa;obtain⟨q1,q2,q3,q4⟩:=Xt;obtain⟨q,hq⟩:=hfail.resolve_left hn;obtain rfl:=Xm q hq;subst hq
  have Y:∀i,i<w.heap.size->¬S2 i->¬(i=w.heap.size+1\/S2 i\/i=w.heap.size+2+1):=λi hi hs h=>by
   rcases h with h|h|h
   ·omega
   ·exact hs h
   ·omega
  have U:=Xl s r vi hm
  have Xv:Y3k w2 S2 (spM q0) k m p1 b1 p2 b2 n g v' s.L r vi:=⟨hz.1,q2,U.ext.touch q1 (Y _ (Z _ (.inl rfl)) (λh=>(hSV _ h).2 (.inr (.inl (.inl rfl))))) (Y _ Xk hv1) (Y _ (Z _ (.inr (.inl rfl))) (λh=>(hSV _ h).2 (.inr (.inl (.inr (.inl rfl)))))) (Y _ Xp hv2) (Y _ (Z _ (.inr (.inr rfl))) (λh=>(hSV _ h).2 (.inr (.inl (.inr (.inr rfl)))))),
   q1.tab U.tab.lt (Y _ Xx hvt) U.tab,by obtain⟨wk,hr⟩:=U.row;exact⟨wk,hr.touch q1 (Y _ Xj (λh=>(hSV _ h).2 (.inl rfl)))⟩⟩
  refine⟨(T1.trans' q1 (λi hi h=>?_)).trans' (Xb _ _ _) (λi hi h=>by omega),25,fy,s.L,r,vi,rfl,E _ _ _ _ _ Xv (Xb _ _ _),.inr ⟨rfl,hn⟩⟩;rcases h with h|h|h
  ·omega
  ·exact .inr (.inr (.inr h))
  ·omega
end
section
open Go.RowKit Word
def QUw(a b c d:Int):Value:=.agg #[.int .i64 a,.int .i64 b,.int .i64 c,.int .i64 d]
theorem V7d(W:World)(blk off:Nat)(p q r s:Value)(h0:W.cell? ⟨blk,off,none⟩=some p)(h1:W.cell? ⟨blk,off+1,none⟩=some q)(h2:W.cell? ⟨blk,off+2,none⟩=some r)(h3:W.cell? ⟨blk,off+3,none⟩=some s):(loadVar 107 ⟨blk,off,none⟩).run prog W=.ok (.agg #[p,q,r,s]) W:=by
 have a1:(isAgg 107).run prog W=.ok true W:=by kernel_rfl
 have a2:(sizeOf 107).run prog W=.ok 4 W:=by kernel_rfl
 simp[loadVar,Sem.run_bind,a1,a2,Result.andThen,loadCells,go_sem,h0,h1,h2,h3]
def VA2(w:World)(SV:Nat->Prop)(z:Sp)(m p1 b1 p2 b2 n:Nat)(v:Vm)(rs:List Int)(room:Int)(e:Ending)(w':World):Prop:=
 ((room<1\/4096<room)/\e=.returned (.tuple #[QUw 0 0 0 0,.int .i64 5])/\Gr w w') ∨
 (1<=room/\room<=4096/\XF4 (λi=>YBz m b1 b2 i\/SV i) w w'/\z.I v SV w' ∧
  ((∃L r vi,e=.returned (.tuple #[QUw (L.length:Nat) (sizes L:Nat) r vi,.int .i64 0])/\Ext w' m p1 b1 p2 b2 n L/\Zx6 v rs n L/\(L=[]->r=1/\vi=0)) ∨
   (e=.returned (.tuple #[QUw 0 0 0 0,.int .i64 25])/\Ext w' m p1 b1 p2 b2 n []/\¬Xd6 v rs n)))
section
variable {w:World} {SV:Nat->Prop} {z:Sp} {q m p1 b1 p2 b2 n:Nat} {v:Vm} {rs:List Int} {L0:List Ob} {A:Option Addr} {cp:Nat}
theorem VOf(w:World)(o:Obj)(T:Nat)(xs:List Value):Rec ((w.alloc o).alloc (.cells xs.toArray T)) (w.heap.size+1) T xs:=by
 have:=Rec.new (w.alloc o) T xs;rw[η]at this;exact this
theorem JVs(w:World)(o o':Obj)(T:Nat)(xs:List Value):Rec ((w.alloc o).alloc (.cells xs.toArray T)) (w.heap.size+1) T xs/\Rec (((w.alloc (.cells xs.toArray T)).alloc o')) w.heap.size T xs:=by
 have:=Rec.new (w.alloc o) T xs;rw[η]at this;exact⟨this,(Rec.new w T xs).gr ((Gr.refl _).alloc _)⟩
theorem YH8(W:World)(b:Nat)(z0 z1 z2 z3:Value):XF4 (λi=>i=b) W ((((W.setCell ⟨b,0,none⟩ z0).setCell ⟨b,1,none⟩ z1).setCell ⟨b,2,none⟩ z2).setCell ⟨b,3,none⟩ z3):=
 ((((XF4.refl (λi=>i=b) W).setCell (a:=⟨b,0,none⟩) (λ_=>rfl) z0).setCell (a:=⟨b,1,none⟩) (λ_=>rfl) z1).setCell (a:=⟨b,2,none⟩) (λ_=>rfl) z2).setCell (a:=⟨b,3,none⟩) (λ_=>rfl) z3
theorem ZDS{W:World}{S:Nat->Prop}{z0 z1 z2 z3:Value}(h:XF4 S w W):XF4 S w ((((W.setCell ⟨w.heap.size+1,0,none⟩ z0).setCell ⟨w.heap.size+1,1,none⟩ z1).setCell ⟨w.heap.size+1,2,none⟩ z2).setCell ⟨w.heap.size+1,3,none⟩ z3):=by
 have hx:∀j:Nat,(⟨w.heap.size+1,j,none⟩:Addr).block<w.heap.size->S (⟨w.heap.size+1,j,none⟩:Addr).block:=λj h=>absurd h (by show ¬(w.heap.size+1<w.heap.size);omega);exact(((h.setCell (hx 0) z0).setCell (hx 1) z1).setCell (hx 2) z2).setCell (hx 3) z3
theorem Xbg(hz:z.Ok/\¬z.M)(hfail:Xd6 v rs n\/∃q,z=spM q)(hp:∀a,Rch v rs a->z.Rd v a)(hD:∀i,z.D i->i<w.heap.size/\¬YBz m b1 b2 i)(hV:z.I v SV w)(hE:Ext w m p1 b1 p2 b2 n L0)(hT:VRW w)(hA:YxD (YBz m b1 b2) w A rs)(hlen:rs.length<=maxLen)
  (hvm:∀i,SV i->¬YBz m b1 b2 i) (hv1:¬SV p1) (hv2:¬SV p2) (hvt:¬SV 1) (htm:¬YBz m b1 b2 1) (room:Int):
  Calls prog 53 #[z.v,.slice A rs.length cp,.pointer (some ⟨m,0,none⟩),.int .i64 room] w (VA2 w SV z m p1 b1 p2 b2 n v rs room):=by
 have HE:=hid hE;have HV:=hid (hz.1.ct hV);have HZ:=hid hz;have HF:=hid hfail;have HP:=hid hp;have HD:=hid hD;have HT:=hid hT;have HA:=hid hA;have hn1:=hE.nb.1;have dn:((n:Int)==0)=false:=by simp;omega
 have Yo:∀i,YBz m b1 b2 i->i<w.heap.size:=λi hi=>by
  rcases hi with rfl|rfl|rfl
  ·exact hE.hm
  ·exact hE.v1.hb
  ·exact hE.v2.hb
 have Xg:p1<w.heap.size:=hE.v1.hp;have Xj:p2<w.heap.size:=hE.v2.hp;have Zc:=hT.lt
 have Xf:¬YBz m b1 b2 p1:=λh=>by
  rcases h with h|h|h
  ·exact hE.am.1 h.symm
  ·exact hE.v1.ne h
  ·exact hE.ab.1 h
 have Xe:¬YBz m b1 b2 p2:=λh=>by
  rcases h with h|h|h
  ·exact hE.am.2.2.1 h.symm
  ·exact hE.ab.2.1 h
  ·exact hE.v2.ne h
 have V:=hid Yo;obtain⟨N,hN⟩:∃N,N=rs.length:=⟨_,rfl⟩;have HN:=hid hN;rw[<-hN]at hlen⊢;have h5:=(JVs w (.cells #[.slice A N cp] 66) (.cells #[.int .i64 0,.int .i64 0,.int .i64 0,.int .i64 0] 107) 66 [.slice A N cp]).2;have h8:=(JVs w (.cells #[.slice A N cp] 66) (.cells #[] 66) 107 [.int .i64 0,.int .i64 0,.int .i64 0,.int .i64 0]).1;have Yq:=hid h5;have O:=hid h8;have Xl:Gr w ((w.alloc (.cells #[.slice A N cp] 66)).alloc (.cells #[.int .i64 0,.int .i64 0,.int .i64 0,.int .i64 0] 107)):=((Gr.refl w).alloc _).alloc _;have Xv:((w.alloc (.cells #[.slice A N cp] 66)).alloc (.cells #[.int .i64 0,.int .i64 0,.int .i64 0,.int .i64 0] 107)).heap.size=w.heap.size+2:=by rw[η,η]
 obtain⟨wa,Xi⟩:∃wa,wa=((w.alloc (.cells #[.slice A N cp] 66)).alloc (.cells #[.int .i64 0,.int .i64 0,.int .i64 0,.int .i64 0] 107)):=⟨_,rfl⟩;rw[show (w.alloc (.cells ([.slice A N cp]:List Value).toArray 66)).alloc (.cells #[.int .i64 0,.int .i64 0,.int .i64 0,.int .i64 0] 107)=wa from Xi.symm]at Yq;rw[show (w.alloc (.cells #[.slice A N cp] 66)).alloc (.cells ([.int .i64 0,.int .i64 0,.int .i64 0,.int .i64 0]:List Value).toArray 107)=wa from Xi.symm]at O;rw[<-Xi]at Xl Xv;have Yr:=hid Xl;have Yu:=hid Xi;have Ya:=hid (HE.o.gr Xl);have Xy:Hid (∀i,ZOk SV w i->i<w.heap.size/\¬YBz m b1 b2 i):=⟨λi hi=>⟨hi.2,hvm i hi.1⟩⟩;have Yl:=hid (ν hv1 (ν hv2 (ν hvt (ν htm (ν Xf Xe)))));clear hV hz hfail hp hD hE hT hA h5 h8 Xi Xl hvm hv1 hv2 hvt htm Xf Xe Yo hN;by_cases E:room<1\/4096<room
 ·have Xx:Hid (∀W,Calls prog 95 #[.int .i64 room] W λe w'=>e=.returned (.tuple #[.pointer none,.int .i64 5])/\W=w'):=⟨λW=>(VgV room W).mono λe w' h=>by
   rcases h with⟨-,h1,h2⟩|⟨h1,h2,-⟩
   ·exact⟨h1,h2⟩
   ·omega⟩
  have Xc:=hid E;unfold Sp.v;clear E Xv;go_enter func53,ntmps53;go_upto_region 1 with(fail);rw[<-Yu.o];have y0:=O.o.cc 0;have y1:=O.o.cc 1;have y2:=O.o.cc 2;have y3:=O.o.cc 3;have yf:=O.o.free
  go_wp2_with(first
   | (go_at_call 94;refine(VSs Ya.o).mono ?_;rintro e w1 ⟨rfl,rfl⟩)
   | (go_at_call 95;refine(Xx.o _).mono ?_;rintro e w1 ⟨rfl,rfl⟩))
  have R:=((((O.o.set 0 (.int .i64 0)).set 1 (.int .i64 0)).set 2 (.int .i64 0)).set 3 (.int .i64 0));have hl:=V7d _ _ 0 _ _ _ _ (R.cc 0) (R.cc 1) (R.cc 2) (R.cc 3);refine ζR (v:=.tuple #[.agg #[.int .i64 0,.int .i64 0,.int .i64 0,.int .i64 0],.int .i64 5]) ?_ rfl (.inl ⟨Xc.o,rfl,?_⟩)
  ·rw[results_cell_tmp rfl];simp[asAddr,Result.andThen,hl]
  ·exact(ZDS (Yr.o.touch _)).gr
 ·have Xn:1<=room/\room<=4096:=Ω
  have Xx:Hid (∀W,Calls prog 95 #[.int .i64 room] W λe w'=>e=.returned (.tuple #[.pointer (some ⟨W.heap.size,0,none⟩),.int .i64 0])/\Gr W w'/\QH2 w' (λk=>W.heap.size<=k) W.heap.size [] room.toNat false):=⟨λW=>(VgV room W).mono λe w' h=>by
   rcases h with⟨h1,-⟩|⟨-,-,h1,h2,h3⟩
   ·omega
   ·exact⟨h1,h2,h3⟩⟩
  have Xc:=hid Xn;unfold Sp.v;clear E;go_enter func53,ntmps53;go_upto_region 1 with(fail);rw[<-Yu.o];obtain⟨gs,Yj⟩:∃gs,gs=wa.heap.size:=⟨_,rfl⟩;have Zd:=hid Yj
  go_upto_region 8 with(first
   | (go_at_call 94;refine(VSs Ya.o).mono ?_;rintro e w1 ⟨rfl,rfl⟩)
   | (go_at_call 95;refine(Xx.o _).mono ?_;rintro e ws ⟨rfl,Xs,Xq⟩;have U:=hid Xs;have Yn:=hid Xq.cut;clear Xs Xq)
   | (go_at_call 96;refine(Zca (Ya.o.gr U.o)).mono ?_;rintro e w3 ⟨rfl,Yp,Yf⟩;have Xh:=hid Yp;have Yx:=hid Yf;clear Yp Yf))
  have Yk:Hid (QH2 ws (ZOk (λk=>w.heap.size+2<=k) ws) (w.heap.size+2) [] room.toNat false):=⟨by have:=Yn.o;rw[Xv]at this;exact this⟩;have Yz:=U.o.size;have hz3:=Xh.o.size;have Za:w.heap.size+2<=w3.heap.size:=Ω
  have Xa:∀i,YBz m b1 b2 i->i<w.heap.size:=V.o;obtain⟨hv1,hv2,hvt,htm,Xf,Xe⟩:=Yl.o;have g2:Gr w3 ((w3.alloc (.cells #[.iface z.T z.rv,.pointer (some ⟨m,0,none⟩),.pointer (some ⟨w.heap.size+2,0,none⟩),.pointer none,.int .i64 0,.int .i64 0,.int .i64 0,.int .i64 0] 174)).alloc (.cells #[.pointer (some ⟨w3.heap.size,0,none⟩)] 171)):=((Gr.refl w3).alloc _).alloc _;have Xd:((w3.alloc (.cells #[.iface z.T z.rv,.pointer (some ⟨m,0,none⟩),.pointer (some ⟨w.heap.size+2,0,none⟩),.pointer none,.int .i64 0,.int .i64 0,.int .i64 0,.int .i64 0] 174)).alloc (.cells #[.pointer (some ⟨w3.heap.size,0,none⟩)] 171)).heap.size=w3.heap.size+2:=by rw[η,η]
  have Xp:=VOf w3 (.cells #[.iface z.T z.rv,.pointer (some ⟨m,0,none⟩),.pointer (some ⟨w.heap.size+2,0,none⟩),.pointer none,.int .i64 0,.int .i64 0,.int .i64 0,.int .i64 0] 174) 171 [.pointer (some ⟨w3.heap.size,0,none⟩)];have rk:=(Rec.new w3 174 [.iface z.T z.rv,.pointer (some ⟨m,0,none⟩),.pointer (some ⟨w.heap.size+2,0,none⟩),.pointer none,.int .i64 0,.int .i64 0,.int .i64 0,.int .i64 0]).gr ((Gr.refl _).alloc (.cells #[.pointer (some ⟨w3.heap.size,0,none⟩)] 171));obtain⟨W,hW⟩:∃W,W=((w3.alloc (.cells #[.iface z.T z.rv,.pointer (some ⟨m,0,none⟩),.pointer (some ⟨w.heap.size+2,0,none⟩),.pointer none,.int .i64 0,.int .i64 0,.int .i64 0,.int .i64 0] 174)).alloc (.cells #[.pointer (some ⟨w3.heap.size,0,none⟩)] 171)):=⟨_,rfl⟩;rw[<-hW]at g2 Xd⊢;rw[show (w3.alloc (.cells #[.iface z.T z.rv,.pointer (some ⟨m,0,none⟩),.pointer (some ⟨w.heap.size+2,0,none⟩),.pointer none,.int .i64 0,.int .i64 0,.int .i64 0,.int .i64 0] 174)).alloc (.cells ([.pointer (some ⟨w3.heap.size,0,none⟩)]:List Value).toArray 171)=W from hW.symm]at Xp;rw[show (w3.alloc (.cells ([.iface z.T z.rv,.pointer (some ⟨m,0,none⟩),.pointer (some ⟨w.heap.size+2,0,none⟩),.pointer none,.int .i64 0,.int .i64 0,.int .i64 0,.int .i64 0]:List Value).toArray 174)).alloc (.cells #[.pointer (some ⟨w3.heap.size,0,none⟩)] 171)=W from hW.symm]at rk;have tW:XF4 (YBz m b1 b2) w W:=((Yr.o.trans U.o).touch _ |>.trans Xh.o).trans (g2.touch _)
  have J:∀i,i<w.heap.size->¬YBz m b1 b2 i->¬(i=w3.heap.size\/YBz m b1 b2 i\/ZOk (λk=>w.heap.size+2<=k) ws i):=λi hi hn h=>by
   rcases h with h|h|h
   ·omega
   ·exact hn h
   ·have:=h.1;omega
  have Xk:=Q3I (w:=W) (SV:=ZOk SV w) (SG:=ZOk (λk=>w.heap.size+2<=k) ws) (z:=z) (k:=w3.heap.size) (m:=m) (g:=w.heap.size+2) (R:=room.toNat) (b12:=w3.heap.size+1) (b5:=w.heap.size) (cp:=cp) (v:=v) (rs:=rs) (A:=A)
   HZ.o HF.o HP.o (λi hi=>⟨by have:=(HD.o i hi).1;omega,J i (HD.o i hi).1 (HD.o i hi).2⟩) (HZ.o.1.fr HV.o tW (λi _ h=>⟨λhi=>(Xy.o i hi).2 h,λhi=>(HD.o i hi).2 h⟩) (λ_ h=>h)) (Yx.o.gr g2) ((Yk.o.touch Xh.o (λi hi _ h=>by have:=Xa i h;have:=hi.1;omega)).gr g2) rk (tW.tab HT.o.lt htm HT.o)
   (Xp.cc 0) (by rw[<-HN.o];exact(((Yq.o.gr U.o).touch Xh.o (λh=>by have:=Xa _ h;omega)).gr g2).cell (j:=0) rfl) Ω Ω
   ((HA.o.mono (T':=λi=>i=w3.heap.size\/YBz m b1 b2 i\/ZOk (λk=>w.heap.size+2<=k) ws i) (λb hb h=>by
    rcases h with h|h|h
    ·omega
    ·exact h
    ·have:=h.1;omega)).touch tW (λ_ _ h=>.inr (.inl h))) (by rw[<-HN.o];exact hlen)
   (λi hi=>⟨by have:=hi.2;omega,λh=>by
    rcases h with h|h|h
    ·have:=hi.2;omega
    ·exact(Xy.o i hi).2 h
    ·have:=hi.2;have:=h.1;omega⟩) (λi hi=>by have:=hi.2;omega) (J _ Xg Xf) (J _ Xj Xe) (J _ Zc htm) (λh=>hv1 h.1) (λh=>hv2 h.1) (λh=>hvt h.1) (λh=>by have:=Xa _ h;omega) (λh=>by have:=h.2;omega) (λi hi h=>by have:=Xa i hi;have:=h.1;omega)
  have Xt:=hid Xk;have Yg:=hid tW;have Yi:=hid Xp;have Yv:=hid (((O.o.gr U.o).touch Xh.o (λh=>by have:=Xa _ h;omega)).gr g2);have Yb:=hid (ν Za (ν Xd Yz))
  have Ye:Hid (∀i,w.heap.size<=i->i<w.heap.size+2\/i=w3.heap.size+1->¬(i=w3.heap.size\/YBz m b1 b2 i\/ZOk (λk=>w.heap.size+2<=k) ws i\/ZOk SV w i)):=⟨λi h1 h2 h=>by
   rcases h with h|h|h|h
   ·omega
   ·have:=Xa i h;omega
   ·have:=h.1;have:=h.2;omega
   ·have:=h.2;omega⟩
  unfold Sp.v at Xt;clear Xk tW Xp rk hW g2 J Xd Xa Xf Xe hv1 hv2 hvt htm Yj Zd;have hcf:=VUu;have hmf:∀(fn:Fn) (first cap:Array Value) (w:World),(Instr.makeFunc fn first cap).run prog w=.ok (.func fn first cap) w:=λ_ _ _ _=>rfl
  go_wp2_with(first
   | (go_at_call 97;refine Xt.o.mono ?_;rintro e w5 ⟨Xm,x,y,L,r,vi,rfl,Xu,(⟨rfl,Yy,Ys⟩|⟨rfl,Zb⟩)⟩ <;> (have Yh:=hid Xm;have Xo:=hid Xu;have Yc:=Yi.o.touch Xm (Ye.o _ (by have:=Yb.o.1;omega) (.inr rfl));have R8:=Yv.o.touch Xm (Ye.o _ Ω (.inl Ω));have x12:=Yc.cc 0;have l12:=Yc.lt;have l8:=R8.lt;have e0:=R8.cc 0;have e1:=R8.cc 1;have e2:=R8.cc 2;have e3:=R8.cc 3;have ef:=R8.free;obtain⟨wk,Z⟩:=Xu.row;have k4:=Z.cc 4;have k5:=Z.cc 5;have k6:=Z.cc 6;have k7:=Z.cc 7;have lk:=Z.lt;have Xr:=hid R8;clear Xm Xu Yc R8 Z))
   | (go_at_call 96;refine(Zca (Xo.o.ext.gr ((Gr.refl _).alloc _))).mono ?_;rintro e w6 ⟨rfl,Xw,Ym⟩;have B:=(Xr.o.gr ((Gr.refl _).alloc (.cells #[.int .i64 25,.int .i64 y] 176))).touch Xw (λh=>by have:=V.o _ h;omega);have f0:=B.cc 0;have f1:=B.cc 1;have f2:=B.cc 2;have f3:=B.cc 3;have ff:=B.free;have Yd:=hid B;have Yt:=hid Xw;have Yw:=hid Ym;clear Xw Ym B))
  ·have Xb:=λW=>(Gr.refl W).alloc (.cells #[.int .i64 0,.int .i64 y] 176);have R:=(((((Xr.o).set 0 (.int .i64 (L.length:Nat))).set 1 (.int .i64 (sizes L:Nat))).set 2 (.int .i64 r)).set 3 (.int .i64 vi)).gr (Xb _);have hl:=V7d _ _ 0 _ _ _ _ (R.cc 0) (R.cc 1) (R.cc 2) (R.cc 3);have tf:=YH8 w5 (w.heap.size+1) (.int .i64 (L.length:Nat)) (.int .i64 (sizes L:Nat)) (.int .i64 r) (.int .i64 vi)
   have hT:XF4 (λi=>YBz m b1 b2 i\/SV i) w w5:=(Yg.o.mono (λi _ h=>.inl h)).trans' Yh.o (λi hi h=>by
    rcases h with h|h|h|h
    ·have:=Yb.o.1;omega
    ·exact .inl h
    ·have:=h.1;omega
    ·exact .inr h.1)
   have Xz:=(hT.trans' tf (λi hi h=>by omega)).trans ((Xb _).touch _);refine ζR (v:=.tuple #[.agg #[.int .i64 (L.length:Nat),.int .i64 (sizes L:Nat),.int .i64 r,.int .i64 vi],.int .i64 0]) ?_ rfl (.inr ⟨Xc.o.1,Xc.o.2,Xz,?_,.inl ⟨L,r,vi,rfl,?_,Yy,Ys⟩⟩)
   ·rw[results_cell_tmp rfl];simp[asAddr,Result.andThen,hl]
   ·exact HZ.o.1.mono (HZ.o.1.gr (HZ.o.1.fr Xo.o.vm tf (λi _ h=>⟨λhi=>by have:=hi.2;omega,λhi=>by have:=(HD.o i hi).1;omega⟩) (λ_ h=>h)) (Xb _)) (λi hi=>hi.1)
   ·have Y:∀i,i<w.heap.size->i≠w.heap.size+1:=λi h=>by omega
    exact(Xo.o.ext.touch tf (Y _ (V.o _ (.inl rfl))) (Y _ Xg) (Y _ (V.o _ (.inr (.inl rfl)))) (Y _ Xj) (Y _ (V.o _ (.inr (.inr rfl))))).gr (Xb _)
  ·have Xb:=(Gr.refl w5).alloc (.cells #[.int .i64 25,.int .i64 y] 176);have R:=(((((Yd.o).set 0 (.int .i64 0)).set 1 (.int .i64 0)).set 2 (.int .i64 0)).set 3 (.int .i64 0));have hl:=V7d _ _ 0 _ _ _ _ (R.cc 0) (R.cc 1) (R.cc 2) (R.cc 3);have tf:=YH8 w6 (w.heap.size+1) (.int .i64 0) (.int .i64 0) (.int .i64 0) (.int .i64 0)
   have hT:XF4 (λi=>YBz m b1 b2 i\/SV i) w w5:=(Yg.o.mono (λi _ h=>.inl h)).trans' Yh.o (λi hi h=>by
    rcases h with h|h|h|h
    ·have:=Yb.o.1;omega
    ·exact .inl h
    ·have:=h.1;omega
    ·exact .inr h.1)
   have Xz:=((hT.trans (Xb.touch _)).trans (Yt.o.mono (λi _ h=>.inl h))).trans' tf (λi hi h=>by omega);refine ζR (v:=.tuple #[.agg #[.int .i64 0,.int .i64 0,.int .i64 0,.int .i64 0],.int .i64 25]) ?_ rfl (.inr ⟨Xc.o.1,Xc.o.2,Xz,?_,.inr ⟨rfl,?_,Zb⟩⟩)
   ·rw[results_cell_tmp rfl];simp[asAddr,Result.andThen,hl]
   ·exact HZ.o.1.mono (HZ.o.1.fr (HZ.o.1.fr (HZ.o.1.gr Xo.o.vm Xb) Yt.o (λi _ h=>⟨λhi=>(Xy.o i hi).2 h,λhi=>(HD.o i hi).2 h⟩) (λ_ h=>h)) tf (λi _ h=>⟨λhi=>by have:=hi.2;omega,λhi=>by have:=(HD.o i hi).1;omega⟩) (λ_ h=>h)) (λi hi=>hi.1)
   ·have Y:∀i,i<w.heap.size->i≠w.heap.size+1:=λi h=>by omega
    exact Yw.o.touch tf (Y _ (V.o _ (.inl rfl))) (Y _ Xg) (Y _ (V.o _ (.inr (.inl rfl)))) (Y _ Xj) (Y _ (V.o _ (.inr (.inr rfl))))
def J6M(w:World)(SV:Nat->Prop)(q m p1 b1 p2 b2 n:Nat)(v:Vm)(rs:List Int)(room:Int)(e:Ending)(w':World):Prop:=
 ((room<1\/4096<room)/\e=.returned (.tuple #[QUw 0 0 0 0,.int .i64 5])/\Gr w w') ∨
 (1<=room/\room<=4096/\XF4 (λi=>YBz m b1 b2 i\/SV i) w w'/\QXZ w' SV q v ∧
  ((∃L r vi,e=.returned (.tuple #[QUw (L.length:Nat) (sizes L:Nat) r vi,.int .i64 0])/\Ext w' m p1 b1 p2 b2 n L/\Zx6 v rs n L/\(L=[]->r=1/\vi=0)) ∨
   (e=.returned (.tuple #[QUw 0 0 0 0,.int .i64 25])/\Ext w' m p1 b1 p2 b2 n []/\¬Xd6 v rs n)))
theorem XKD(hV:QXZ w SV q v)(hE:Ext w m p1 b1 p2 b2 n L0)(hT:VRW w)(hA:YxD (YBz m b1 b2) w A rs)(hlen:rs.length<=maxLen)
  (hvm:∀i,SV i->¬YBz m b1 b2 i) (hv1:¬SV p1) (hv2:¬SV p2) (hvt:¬SV 1) (htm:¬YBz m b1 b2 1) (room:Int):
  Calls prog 53 #[spV q,.slice A rs.length cp,.pointer (some ⟨m,0,none⟩),.int .i64 room] w (J6M w SV q m p1 b1 p2 b2 n v rs room):=
 Xbg (z:=spM q) ⟨YGi q,λh=>h⟩ (.inr ⟨q,rfl⟩) (λ_ _=>⟨λ_=>trivial,λ_ _=>trivial⟩) (λ_ h=>h.elim) hV hE hT hA hlen hvm hv1 hv2 hvt htm room
end
end
section
open Go.RowKit Go.Shelf Word
attribute [local go_sem] Oper.semAt_some
structure JQF(v:Vm)(rs:List Int)(c:Cf):Prop where
 cf:VeB v.pl.pg v.n c
 sd:Xd6 v rs v.n
 inn:∀L,Zx6 v rs v.n L->(∀o∈L,c.fr<=o.1/\o.1+o.2<=c.tp)/\c.to+sizes L<=c.lm
def V1i(w:World)(S:Nat->Prop)(q:Nat)(v:Vm)(rs:List Int)(e:Ending)(w':World):Prop:=
 ∃L,Zx6 v rs v.n L/\e=.returned (.tuple #[.int .i64 (sizes L:Nat),.int .i64 0])/\XF4 S w w'/\QXZ w' (ZOk S w) q v
structure JXY(w wx:World)(S:Nat->Prop)(q m p1 b1 p2 b2 b11:Nat)(v:Vm)(rs:List Int)(c:Cf)(L:List Ob)(r vi:Int):Prop where
 t:XF4 S w wx
 vm:QXZ wx (ZOk S w) q v
 ex:Ext wx m p1 b1 p2 b2 v.n L
 mks:Zx6 v rs v.n L
 st:Rec wx b11 107 [.int .i64 (L.length:Nat),.int .i64 (sizes L:Nat),.int .i64 r,.int .i64 vi]
 bx:Rec wx w.heap.size 156 [.int .i64 c.fr,.int .i64 c.tp,.int .i64 c.to,.int .i64 c.lm,.int .i64 c.bk,.int .i64 c.st,.int .i64 c.ah]
 r6:Rec wx (w.heap.size+1) 3 [.int .i64 0]
 r7:Rec wx (w.heap.size+2) 27 [.int .i64 0]
 lm:w.heap.size+3<=m
 l1:w.heap.size+3<=p1
 l2:w.heap.size+3<=b1
 l3:w.heap.size+3<=p2
 l4:w.heap.size+3<=b2
 l5:w.heap.size+3<=b11
section
variable {w:World} {S:Nat->Prop} {q r g:Nat} {v:Vm} {rs:List Int} {c:Cf}
theorem Qwc(hV:QXZ w S q v)(hR:V5d w r g rs)(hT:VRW w)(htS:¬S 1)(hc:JQF v rs c):
  Calls prog 121 #[.pointer (some ⟨q,0,none⟩),.pointer (some ⟨r,0,none⟩),cfV c] w (V1i w S q v rs):=by
 have HV:=hid hV.cut;have HR:=hid hR;have HT:=hid hT;have Zt:=hid htS;have HC:=hid hc;have Jc:=hT.lt;have Xt:=hc.cf;have Jn:1<=v.n:=by have:=Xt.fr;have:=Xt.tp;have:=Xt.tn;have:=hV.ok.page.1;omega
 have hn2:=hV.ok.n2;have Jd:rs.length≠0:=λe=>hR.ne (ζv e);have Je:=hR.le;have HX:=hid (λW=>XMw v.n Jn Ω W);have Jk:=hid (ν Xt.st.1 Xt.st.2);obtain⟨n,Yj⟩:∃n,n=rs.length:=⟨_,rfl⟩;have HN:=hid Yj;rw[<-Yj]at Jd Je;have d0:((n:Int)==0)=false:=by simp;omega
 have g1:Gr w (((w.alloc (.cells #[.int .i64 c.fr,.int .i64 c.tp,.int .i64 c.to,.int .i64 c.lm,.int .i64 c.bk,.int .i64 c.st,.int .i64 c.ah] 156)).alloc (.cells #[.int .i64 0] 3)).alloc (.cells #[.int .i64 0] 27)):=(((Gr.refl w).alloc _).alloc _).alloc _;have Zn:=hid g1;clear hV hR hT htS hc Xt Yj g1;refine(ζa (n:=5)).1 ?_;refine callsIn_of_wp_marks func121 rfl trivial ?_ rfl;simp only[ntmps121,ξa,ζU,ξq,Nat.reduceAdd,Nat.reduceSub,ζ2,ζ1,ξf,ζ7,ξb,ζL];unfold cfV;gi_upto_region 1 with(fail);obtain⟨W0,Xp⟩:∃W0,W0=(((w.alloc (.cells #[.int .i64 c.fr,.int .i64 c.tp,.int .i64 c.to,.int .i64 c.lm,.int .i64 c.bk,.int .i64 c.st,.int .i64 c.ah] 156)).alloc (.cells #[.int .i64 0] 3)).alloc (.cells #[.int .i64 0] 27)):=⟨_,rfl⟩;have Zv:W0.heap.size=w.heap.size+3:=by rw[Xp];simp only[η]
 have Zj:Gr w W0:=by rw[Xp];exact Zn.o
 have rb:Rec W0 w.heap.size 156 [.int .i64 c.fr,.int .i64 c.tp,.int .i64 c.to,.int .i64 c.lm,.int .i64 c.bk,.int .i64 c.st,.int .i64 c.ah]:=by rw[Xp];exact(Rec.new w _ [.int .i64 c.fr,.int .i64 c.tp,.int .i64 c.to,.int .i64 c.lm,.int .i64 c.bk,.int .i64 c.st,.int .i64 c.ah]).gr (((Gr.refl _).alloc _).alloc _)
 have r6:Rec W0 (w.heap.size+1) 3 [.int .i64 0]:=by rw[Xp];exact(VOf w _ 3 [.int .i64 0]).gr ((Gr.refl _).alloc _)
 have r7:Rec W0 (w.heap.size+2) 27 [.int .i64 0]:=by
  rw[Xp];have:=VOf (w.alloc (.cells #[.int .i64 c.fr,.int .i64 c.tp,.int .i64 c.to,.int .i64 c.lm,.int .i64 c.bk,.int .i64 c.st,.int .i64 c.ah] 156)) (.cells #[.int .i64 0] 3) 27 [.int .i64 0];rw[η]at this;exact this
 rw[<-Xp];clear Xp Zn;have Xb:=hid Zj;have Zk:=hid rb;have Jm:=hid r6;have Jf:=hid r7;have z0:=rb.cc 0;have z1:=rb.cc 1;have z2:=rb.cc 2;have z3:=rb.cc 3;have z4:=rb.cc 4;have z5:=rb.cc 5;have z6:=rb.cc 6;have zl:=rb.lt;have Yu:=hid (λ(W:World) (g:Gr w W)=>YeU (HR.o.gr g));rw[<-HN.o]at Yu;have Zq:=hid (λ(W:World) (g:Gr w W)=>QzK (HV.o.gr g) HC.o.cf);unfold cfV at Zq;have Ja:=hid (λ(W:World) (g:Gr w W)=>Xwn (HV.o.gr g));clear rb r6 r7 Zj
 gi_upto_region 7 with(first
  | (refine⟨trivial,?_⟩;gi_at_call 152;refine(ζa.2 (Yu.o _ Xb.o)).mono ?_;rintro e w1 ⟨rfl,rfl⟩)
  | (refine⟨trivial,?_⟩;gi_at_call 153;refine(ζa.2 (Zq.o _ Xb.o)).mono ?_;rintro e w1 ⟨rfl,U⟩;have Xm:=hid U;clear U)
  | (refine⟨trivial,?_⟩;gi_at_call 52;refine(ζa.2 (Ja.o _ (Xb.o.trans Xm.o))).mono ?_;rintro e w2 ⟨rfl,rfl⟩)
  | (refine⟨trivial,?_⟩;gi_at_call 51;refine(ζa.2 (HX.o _)).mono ?_;rintro e w3 ⟨m,p1,b1,p2,b2,rfl,Zi,Zu,Xj,Xq,Xo,Xv,Xi⟩;have O:=hid (Xm.o.trans Zi);have Xr:=hid Zu;have HB:=hid (ν (ζb Xm.o.size Xj) (ν (ζb Xm.o.size Xq) (ν (ζb Xm.o.size Xo) (ν (ζb Xm.o.size Xv) (ζb Xm.o.size Xi)))));clear Zi Zu Xj Xq Xo Xv Xi))
 gi_cut [11,12]from 15 (λs11 s12 wx=>∃(E:Nat) (L:List Ob) (rv vi:Int),s11=.pointer (some ⟨E,0,none⟩)/\s12=.int .i64 0/\Hid (JXY w wx S q m p1 b1 p2 b2 E v rs c L rv vi))
 case first=>
  have Ji:=HB.o;obtain⟨Xj,Xq,Xo,Xv,Xi⟩:=Ji;rw[Zv]at Xj Xq Xo Xv Xi;have Yz:=Xr.o.hm;have Ys:=Xr.o.v1.hp;have Yg:=Xr.o.v1.hb;have Yt:=Xr.o.v2.hp;have Ym:=Xr.o.v2.hb
  have Xn:∀i,YBz m b1 b2 i->w.heap.size+3<=i/\i<w3.heap.size:=λi hi=>by
   rcases hi with rfl|rfl|rfl
   ·exact⟨Xj,Yz⟩
   ·exact⟨Xo,Yg⟩
   ·exact⟨Xi,Ym⟩
  have Zb:=hid Xn;have Yb:=hid (λ(W:World) (g:Gr w3 W)=>ZbJ (HR.o.gr ((Xb.o.trans O.o).trans g)));rw[<-HN.o]at Yb
  have Yc:Hid (∀(W:World) (g1 cp:Nat),Gr w3 W->w3.heap.size<=g1->W.ownsRow 0 3 1 (.slice (some ⟨g1,0,none⟩) n cp) n (zs rs)->Calls prog 53 #[.iface 87 (.pointer (some ⟨q,0,none⟩)),.slice (some ⟨g1,0,none⟩) n cp,.pointer (some ⟨m,0,none⟩),.int .i64 c.st] W λe w'=>
    ∃(L:List Ob) (rv vi:Int),e=.returned (.tuple #[.agg #[.int .i64 (L.length:Nat),.int .i64 (sizes L:Nat),.int .i64 rv,.int .i64 vi],.int .i64 0])/\XF4 (λi=>YBz m b1 b2 i\/ZOk S w i) W w'/\QXZ w' (ZOk S w) q v/\Ext w' m p1 b1 p2 b2 v.n L/\Zx6 v rs v.n L):=⟨λW g1 cp hg U ho=>by
   rw[HN.o]at ho⊢;have Yr:=(Xb.o.trans O.o).trans hg;refine(XKD (HV.o.gr Yr) (Xr.o.gr hg) (Yr.tab HT.o.lt HT.o) (λi hi=>?_) (by unfold maxLen;have:=HN.o;omega) (λi hi h=>by have:=(Xn i h).1;have:=hi.2;omega) (λh=>by have:=h.2;omega) (λh=>by have:=h.2;omega) (λh=>Zt.o h.1) (λh=>by have:=(Xn _ h).1;omega) (c.st:Int)).mono ?_
   ·exact⟨g1,0,rfl,(Vvr ho rfl).2,λh=>by have:=(Xn _ h).2;omega,by rw[ξN];exact ZBn ho (JbU hi)⟩
   ·rintro e w' (⟨h,-⟩|⟨-,-,ht,hv,(⟨L,r',vi,rfl,he,hm,-⟩|⟨-,-,hn⟩)⟩)
    ·have:=Jk.o;omega
    ·exact⟨L,r',vi,rfl,ht,hv,he,hm⟩
    ·exact absurd HC.o.sd hn⟩
  have Yx:Hid (∀(W1 W2 W3:World) (E:Nat) (L:List Ob) (rv vi:Int),Gr w3 W1->XF4 (λi=>YBz m b1 b2 i\/ZOk S w i) W1 W2->QXZ W2 (ZOk S w) q v->Ext W2 m p1 b1 p2 b2 v.n L->Zx6 v rs v.n L->XF4 (λi=>i=E) W2 W3->w3.heap.size<=E →
    Rec W3 E 107 [.int .i64 (L.length:Nat),.int .i64 (sizes L:Nat),.int .i64 rv,.int .i64 vi]->JXY w W3 S q m p1 b1 p2 b2 E v rs c L rv vi):=⟨λW1 W2 W3 E L rv vi hg ht hv he hm ht3 hb hr=>by
   have hz3:=(Xb.o.trans O.o).size;have hz13:=O.o.size;have Yr:=(Xb.o.trans O.o).trans hg
   have Zd:∀i,i<w.heap.size+3->w.heap.size<=i->¬(YBz m b1 b2 i\/ZOk S w i):=λi h1 h2 h=>by
    rcases h with h|h
    ·have:=(Xn i h).1;omega
    ·have:=h.2;omega
   refine⟨((Yr.touch _).trans (ht.mono (T:=λi=>YBz m b1 b2 i\/S i) (λi _ h=>h.imp id (λh=>h.1)))).trans' (T:=λi=>i=E) ht3 (λi hi h=>by omega) |>.mono (λi hi h=>h.elim (λh=>by have:=(Xn i h).1;omega) id),hv.touch ht3 (λi hi _ h=>by have:=hi.2;omega),he.touch ht3 Ω Ω Ω Ω Ω,hm,hr,?_,?_,?_,Xj,Xq,Xo,Xv,Xi,by omega⟩
   ·exact((Zk.o.gr (O.o.trans hg)).touch ht (Zd _ Ω Ω)).touch ht3 Ω
   ·exact((Jm.o.gr (O.o.trans hg)).touch ht (Zd _ Ω Ω)).touch ht3 Ω
   ·exact((Jf.o.gr (O.o.trans hg)).touch ht (Zd _ Ω Ω)).touch ht3 Ω⟩
  have Xd:=Zk.o.gr O.o;have x5:=Xd.cc 5;have Za:=Xd.lt;have KS:Hid (∀W',Gr w3 W'->W'.cell? ⟨w.heap.size,5,none⟩=some (.int .i64 c.st)):=⟨λW' h=>(h.cell Za 5).trans x5⟩
  have KT:Hid (∀W1 W',Gr w3 W1->XF4 (λi=>YBz m b1 b2 i\/ZOk S w i) W1 W'->W'.cell? ⟨w.heap.size,5,none⟩=some (.int .i64 c.st)):=⟨λW1 W' h t=>(t.cell (ω Za h.size) (λh=>by
   rcases h with h|h
   ·have:=(Zb.o _ h).1;omega
   ·have:=h.2;omega) 5).trans ((h.cell Za 5).trans x5)⟩
  obtain⟨Sx,Yq⟩:∃Sx:World->Prop,Sx=λW'=>W'.cell? ⟨w.heap.size,5,none⟩=some (.int .i64 c.st):=⟨_,rfl⟩;have y1:∀p':ZJV Sx,p'.w.cell? ⟨w.heap.size,5,none⟩=some (.int .i64 c.st):=λp=>ZJV.get Yq p;have Zx:Sx w3.drew:=by rw[Yq];exact x5
  have M:=hid Yq;have inst:Inhabited (ZJV Sx):=⟨⟨_,Zx⟩⟩;clear Yq x5 Xd z0 z1 z2 z3 z4 z5 z6 zl Xn Xj Xq Xo Xv Xi Yz Ys Yg Yt Ym;refine Jav Sx (.two [0,1,2,4,5,6] 3 (.two [] 7 (.one [8,9,10] 11 (.one [] 12 (.fin [13]))) 11 (.one [] 7 (.one [8,9,10] 12 (.fin [13])))) 11 (.one [] 3 (.one [] 7 (.one [8,9,10] 12 (.fin [13]))))) JBz (by kernel_rfl) (by kernel_rfl) Zx ?_;refine QtW ?_;simp only[XZy,ζ,ξ]
  repeat(go_big_quiet_step (fail))
  refine θ ⟨?_,?_⟩
  ·gi_wp2_with(refine⟨trivial,?_⟩;gi_at_call 54;refine(ζa.2 (Yb.o _ (Gr.refl w3).drew)).mono ?_;rintro e w4 ⟨g1,c1,rfl,Xs,Yl,Ye⟩;have Y:=hid ((Gr.refl w3).drew.trans Xs);have Yp:=hid Ye;have Yn:=hid Yl;clear Xs Ye Yl);refine⟨ZJV.of (by rw[M.o];exact KS.o _ Y.o),?_⟩;refine QtW ?_;simp only[XZy,ζ,ξ];refine θ ⟨?_,?_⟩
   ·gi_wp2_with(refine⟨trivial,?_⟩;gi_at_call 53;refine(ζa.2 (Yc.o _ g1 c1 Y.o Yn.o Yp.o)).mono ?_;rintro e w5 ⟨L,rv,vi,rfl,I,Xe,Xg,Xf⟩;have J:=hid I;have Yk:=hid Xe;have Xz:=hid Xg;have Ya:=hid Xf;clear I Xe Xg Xf);refine⟨ZJV.of (by rw[M.o];exact KT.o _ _ Y.o J.o),?_⟩;refine VyF ?_;simp only[XZy,ζ,ξ]
    repeat(go_big_quiet_step (fail))
    refine θ ?_;have u5:=KT.o _ _ Y.o J.o;have Zw:=ZQf u5;gi_wp2;refine⟨ZJV.of (by rw[M.o];exact(((Gr.refl w5).alloc _).cell Zw 5).trans u5),?_⟩;refine VyF ?_;simp only[XZy,ζ,ξ];refine θ ?_;gi_wp2;refine⟨ZJV.of (by rw[M.o];exact(((Gr.refl w5).alloc _).cell Zw 5).trans u5),?_⟩;refine YAC ?_;simp only[XZy,ζ,ξ]
    repeat(go_big_quiet_step (fail))
    refine θ ?_;refine β ?_;gi_wp2
    gi_meet
    exact⟨_,L,rv,vi,rfl,rfl,⟨Yx.o _ _ _ _ L rv vi Y.o J.o Yk.o Xz.o Ya.o (((Gr.refl w5).alloc _).touch _) (ζb Y.o.size J.o.size) (Rec.new w5 _ [.int .i64 (L.length:Nat),.int .i64 (sizes L:Nat),.int .i64 rv,.int .i64 vi])⟩⟩
   ·have x4:=KS.o _ Y.o;have Zr:=ZQf x4;gi_wp2;refine⟨ZJV.of (by rw[M.o];exact(((Gr.refl w4).alloc _).cell Zr 5).trans x4),?_⟩;refine VyF ?_;simp only[XZy,ζ,ξ];refine θ ?_;have Xc:=hid (Rec.new w4 107 [.int .i64 0,.int .i64 0,.int .i64 0,.int .i64 0]);have V:=hid (Y.o.alloc (.cells #[.int .i64 0,.int .i64 0,.int .i64 0,.int .i64 0] 107))
    have Yi:Hid (¬(YBz m b1 b2 w4.heap.size\/ZOk S w w4.heap.size)):=⟨λh=>by
     have:=Y.o.size;rcases h with h|h
     ·have:=(Zb.o _ h).2;omega
     ·have:=h.2;have:=(Xb.o.trans O.o).size;omega⟩
    have Xw:Hid (¬w.heap.size=w4.heap.size):=⟨by have:=Y.o.size;omega⟩;have Zl:=hid (Y9I Yp.o ((Gr.refl w4).alloc (.cells #[.int .i64 0,.int .i64 0,.int .i64 0,.int .i64 0] 107)));have Yf:Hid (w3.heap.size<=w4.heap.size):=⟨Y.o.size⟩;obtain⟨bA,Xh⟩:∃bA,bA=w4.heap.size:=⟨_,rfl⟩;obtain⟨WA,Xk⟩:∃WA,WA=w4.alloc (.cells #[.int .i64 0,.int .i64 0,.int .i64 0,.int .i64 0] 107):=⟨_,rfl⟩;rw[show w4.alloc (.cells ([.int .i64 0,.int .i64 0,.int .i64 0,.int .i64 0]:List Value).toArray 107)=WA from Xk.symm]at Xc;rw[<-Xk]at V Zl⊢;rw[<-Xh]at Xc Yi Xw Yf⊢;clear Xh Xk x4 Zr;gi_wp2_with(refine⟨trivial,?_⟩;gi_at_call 53;refine(ζa.2 (Yc.o _ g1 c1 V.o Yn.o Zl.o)).mono ?_;rintro e w5 ⟨L,rv,vi,rfl,I,Xe,Xg,Xf⟩;have J:=hid I;have Yk:=hid Xe;have Xz:=hid Xg;have Ya:=hid Xf;have Z:=hid (Xc.o.touch I (Yi.o));have q0:=Z.o.cc 0;have q1:=Z.o.cc 1;have q2:=Z.o.cc 2;have q3:=Z.o.cc 3;have qf:=Z.o.free;have ql:=Z.o.lt;clear I Xe Xg Xf);refine⟨ZJV.of (by rw[M.o];exact KT.o _ _ V.o J.o),?_⟩;refine VyF ?_;simp only[XZy,ζ,ξ]
    repeat(go_big_quiet_step (fail))
    refine θ ?_;gi_wp2;have R5:=(((Z.o.set 0 (.int .i64 (L.length:Nat))).set 1 (.int .i64 (sizes L:Nat))).set 2 (.int .i64 rv)).set 3 (.int .i64 vi);have t5:=YH8 w5 bA (.int .i64 (L.length:Nat)) (.int .i64 (sizes L:Nat)) (.int .i64 rv) (.int .i64 vi);have KF:=(t5.cell (ZQf (KT.o _ _ V.o J.o)) Xw.o 5).trans (KT.o _ _ V.o J.o);refine⟨ZJV.of (by rw[M.o];exact KF),?_⟩;refine YAC ?_;simp only[XZy,ζ,ξ]
    repeat(go_big_quiet_step (fail))
    refine θ ?_;refine β ?_;gi_wp2
    gi_meet
    exact⟨_,L,rv,vi,rfl,rfl,⟨Yx.o _ _ _ _ L rv vi V.o J.o Yk.o Xz.o Ya.o t5 Yf.o R5⟩⟩
  ·gi_wp2;have x3:=KS.o _ (Gr.refl w3);have Jg:=ZQf x3;refine⟨ZJV.of (by rw[M.o];exact KS.o _ ((Gr.refl w3).alloc _).drew),?_⟩;refine VyF ?_;simp only[XZy,ζ,ξ];refine θ ?_;have Xc:=hid ((Rec.new w3 107 [.int .i64 0,.int .i64 0,.int .i64 0,.int .i64 0]).gr (Gr.refl _).drew);have V:=hid ((Gr.refl w3).alloc (.cells #[.int .i64 0,.int .i64 0,.int .i64 0,.int .i64 0] 107)).drew
   have Yi:Hid (¬(YBz m b1 b2 w3.heap.size\/ZOk S w w3.heap.size)):=⟨λh=>by
    rcases h with h|h
    ·have:=(Zb.o _ h).2;omega
    ·have:=h.2;have:=(Xb.o.trans O.o).size;omega⟩
   have Xw:Hid (¬w.heap.size=w3.heap.size):=⟨by omega⟩;have Yf:Hid (w3.heap.size<=w3.heap.size):=⟨π _⟩;obtain⟨WA,Xk⟩:∃WA,WA=(w3.alloc (.cells #[.int .i64 0,.int .i64 0,.int .i64 0,.int .i64 0] 107)).drew:=⟨_,rfl⟩;rw[show (w3.alloc (.cells ([.int .i64 0,.int .i64 0,.int .i64 0,.int .i64 0]:List Value).toArray 107)).drew=WA from Xk.symm]at Xc;rw[<-Xk]at V⊢;clear Xk;obtain⟨bA,Xh⟩:∃bA,bA=w3.heap.size:=⟨_,rfl⟩;rw[<-Xh]at Xc Yi Xw;rw[show w3.heap.size<=w3.heap.size↔w3.heap.size<=bA by rw[Xh]]at Yf;rw[show w3.heap.size=bA from Xh.symm];clear Xh x3 Jg;gi_wp2_with(refine⟨trivial,?_⟩;gi_at_call 54;refine(ζa.2 (Yb.o _ V.o)).mono ?_;rintro e w4 ⟨g1,c1,rfl,Xs,Yl,Ye⟩;have Y:=hid (V.o.trans Xs);have Zh:=hid (Xc.o.gr Xs);have Yp:=hid Ye;have Yn:=hid (ζb V.o.size Yl);clear Xs Ye Yl);refine⟨ZJV.of (by rw[M.o];exact KS.o _ Y.o),?_⟩;refine VyF ?_;simp only[XZy,ζ,ξ];refine θ ?_;gi_wp2_with(refine⟨trivial,?_⟩;gi_at_call 53;refine(ζa.2 (Yc.o _ g1 c1 Y.o Yn.o Yp.o)).mono ?_;rintro e w5 ⟨L,rv,vi,rfl,I,Xe,Xg,Xf⟩;have J:=hid I;have Yk:=hid Xe;have Xz:=hid Xg;have Ya:=hid Xf;have Z:=hid (Zh.o.touch I (Yi.o));have q0:=Z.o.cc 0;have q1:=Z.o.cc 1;have q2:=Z.o.cc 2;have q3:=Z.o.cc 3;have qf:=Z.o.free;have ql:=Z.o.lt;clear I Xe Xg Xf);refine⟨ZJV.of (by rw[M.o];exact KT.o _ _ Y.o J.o),?_⟩;refine VyF ?_;simp only[XZy,ζ,ξ]
   repeat(go_big_quiet_step (fail))
   refine θ ?_;gi_wp2;have R5:=(((Z.o.set 0 (.int .i64 (L.length:Nat))).set 1 (.int .i64 (sizes L:Nat))).set 2 (.int .i64 rv)).set 3 (.int .i64 vi);have t5:=YH8 w5 bA (.int .i64 (L.length:Nat)) (.int .i64 (sizes L:Nat)) (.int .i64 rv) (.int .i64 vi);have KF:=(t5.cell (ZQf (KT.o _ _ Y.o J.o)) Xw.o 5).trans (KT.o _ _ Y.o J.o);refine⟨ZJV.of (by rw[M.o];exact KF),?_⟩;refine YAC ?_;simp only[XZy,ζ,ξ]
   repeat(go_big_quiet_step (fail))
   refine θ ?_;refine β ?_;gi_wp2
   gi_meet
   exact⟨_,L,rv,vi,rfl,rfl,⟨Yx.o _ _ _ _ L rv vi Y.o J.o Yk.o Xz.o Ya.o t5 Yf.o R5⟩⟩
 case rest=>
  obtain⟨E,L,rv,vi,rfl,rfl,HI⟩:=hcut;clear z0 z1 z2 z3 z4 z5 z6 zl;obtain⟨Zp,Yv⟩:=HC.o.inn L HI.o.mks;have Zy:=hid Zp;have Zo:=hid Yv;clear Zp Yv;gi_wp2_with(refine⟨trivial,?_⟩;gi_at_call 132;refine(ζa.2 (JMu (some ⟨m,0,none⟩))).mono ?_;rintro e w1 ⟨rfl,rfl⟩);obtain⟨W1,Yd⟩:∃W1,W1=wc.alloc (.cells #[.pointer (some ⟨m,0,none⟩)] 103):=⟨_,rfl⟩;have U:Gr wc W1:=by rw[Yd];exact(Gr.refl wc).alloc _
  have hs1:W1.heap.size=wc.heap.size+1:=by rw[Yd,η]
  have k4:W1.cell? ⟨wc.heap.size,0,none⟩=some (.pointer (some ⟨m,0,none⟩)):=by
   rw[Yd];exact(Boxed.new wc 103 (.pointer (some ⟨m,0,none⟩))).cell
  rw[<-Yd];have hex:=HI.o.ex;have Yz:=hex.hm;have Ys:=hex.v1.hp;have Yg:=hex.v1.hb;have Yt:=hex.v2.hp;have Ym:=hex.v2.hb;have hwz:=HI.o.t.size;have Yy:VRW wc:=HI.o.t.tab Jc Zt.o HT.o;have Jj:=hid Yy;have Zg:=Yy.lt;have Ze:=HI.o.bx;have hrl:=Ze.lt;clear Yd Yy hex;have tI:∀(j:Nat) A B,(XF4 (λi=>W1.heap.size<=i) W1 A/\j<=L.length)->XF4 (λi=>W1.heap.size<=i/\i<W1.heap.size+2+4) A B->(XF4 (λi=>W1.heap.size<=i) W1 B/\j<=L.length):=λj A B h t=>⟨h.1.trans (t.mono (λi _ h=>h.1)),h.2⟩
  refine JYJ (K:=4) (s0:=0) rfl Ω (gf:=173) (lb:=#[.pointer (some ⟨wc.heap.size,0,none⟩)]) rfl trivial (enters_of func173 (by kernel_rfl) rfl)
   (Yd3 _ wc.heap.size m p1 b1 p2 b2 v.n L _) (λ_=>rfl)
   (λ(j:Nat) A=>XF4 (λi=>W1.heap.size<=i) W1 A/\j<=L.length) (λ_ _=>False) tI (λ_ _ _ h _=>h)
   (λj A h=>⟨(HI.o.ex.gr U).touch h.1 Ω Ω Ω Ω Ω,(U.tab Zg Jj.o).touch' h.1 Ω,(h.1.cell Ω Ω 0).trans k4,h.2⟩)
   ⟨XF4.refl _ _,ζh _⟩ ?round ?done ?stop
  case round=>
   intro lp j x W3 hsz3 Xa Xl;dsimp only[VYF];gi_wp2;refine⟨Gr.refl _,λW4 ht4 hI4=>?_⟩
   have Yo:j<L.length:=by
    rcases γ j L.length with h|h
    ·exact h
    ·unfold YdH at Xl;rw[ζf h]at Xl;cases Xl
   obtain rfl:x=L[j]:=by unfold YdH at Xl;rw[δ Yo]at Xl;exact(Option.some.inj Xl).symm
   obtain⟨i1,i2⟩:=Zy.o _ (χ Yo);have Xx:=(Ze.gr U).touch hI4.1 Ω;have c0:=Xx.cc 0;have c1:=Xx.cc 1;have cl:=Xx.lt;have Zs:=(HI.o.ex.good.sz _ (χ Yo)).2;obtain⟨sa,Zf⟩:∃s,s=L[j].1:=⟨_,rfl⟩;obtain⟨sz,Xu⟩:∃s,s=L[j].2:=⟨_,rfl⟩;rw[<-Zf]at i1 i2 Zs⊢;rw[<-Xu]at i2 Zs⊢;have e0:decide ((sa:Int)<(c.fr:Int))=false:=ψ Ω;have e1:decide ((c.tp:Int)<(sa:Int)+(sz:Int))=false:=ψ Ω;have e2:decide (sa<c.fr)=false:=ψ Ω;have Jl:=hid hI4;clear Xa hI4 Xl ht4 Zf Xu;gi_wp2;exact⟨XF4.refl _ _,j+1,rfl,Jl.o.1,Yo⟩
  case done=>
   rintro D j W3 hD rfl Xa hK;have hs5l:=HI.o.l5;have hb11l:=HI.o.st.lt;have Yw:=(HI.o.st.gr U).touch Xa.1 Ω;have Xd:=(Ze.gr U).touch Xa.1 Ω;have Yh:=(HI.o.r6.gr U).touch Xa.1 (by have:=HI.o.r6.lt;omega);have Xy:=(HI.o.r7.gr U).touch Xa.1 (by have:=HI.o.r7.lt;omega);have a1:=Yw.cc 1;have al:=Yw.lt;have c3:=Xd.cc 3;have c2:=Xd.cc 2;have cl:=Xd.lt;have q0:=Yh.cc 0;have q1:=Yh.free 0;have ql:=Yh.lt;have p0:=Xy.cc 0;have p1':=Xy.free 0;have pl:=Xy.lt;have Jq:=Zo.o;have hlm:=HC.o.cf.ln;have Jh:=HI.o.vm;obtain⟨sz,Xu⟩:∃s,s=sizes L:=⟨_,rfl⟩;have Zz:=hid Xu;rw[<-Xu]at a1 Jq;have e0:decide ((c.lm:Int)-(c.to:Int)<(sz:Int))=false:=ψ Ω;have HK:=hid hK;have HD:=hid hD;have Zm:=hid Xa;have Xc:=hid Yh;have Jb:=hid Xy;have hs3:=Xa.1.size;clear hK hD Xa Xu Yw Xd Yh Xy;gi_wp2
   have tg:XF4 (λi=>i=w.heap.size+1\/i=w.heap.size+2) W3 ((W3.setCell ⟨w.heap.size+1,0,none⟩ (.int .i64 (sz:Int))).setCell ⟨w.heap.size+1+1,0,none⟩ (.int .i64 0)):=
    ((XF4.refl _ W3).setCell (a:=⟨w.heap.size+1,0,none⟩) (λ_=>.inl rfl) _).setCell (a:=⟨w.heap.size+1+1,0,none⟩) (λ_=>.inr rfl) _
   have b6:Rec ((W3.setCell ⟨w.heap.size+1,0,none⟩ (.int .i64 (sz:Int))).setCell ⟨w.heap.size+1+1,0,none⟩ (.int .i64 0)) (w.heap.size+1) 3 [.int .i64 (sz:Int)]:=
    (Xc.o.set 0 (.int .i64 (sz:Int))).touch ((XF4.refl (λi=>i=w.heap.size+1+1) _).setCell (a:=⟨w.heap.size+1+1,0,none⟩) (λ_=>rfl) _) Ω
   have b7:Rec ((W3.setCell ⟨w.heap.size+1,0,none⟩ (.int .i64 (sz:Int))).setCell ⟨w.heap.size+1+1,0,none⟩ (.int .i64 0)) (w.heap.size+2) 27 [.int .i64 0]:=
    (Jb.o.touch ((XF4.refl (λi=>i=w.heap.size+1) W3).setCell (a:=⟨w.heap.size+1,0,none⟩) (λ_=>rfl) (.int .i64 (sz:Int))) Ω).set 0 (.int .i64 0)
   have hD:=HD.o;have Zc:=(tg.block D (ζn.1 HK.o).1 Ω).trans HK.o;generalize ((W3.setCell ⟨w.heap.size+1,0,none⟩ (.int .i64 (sz:Int))).setCell ⟨w.heap.size+1+1,0,none⟩ (.int .i64 0))=W5 at *
   have k6:=b6.cc 0;have k7:=b7.cc 0;rw[show w.heap.size+2=w.heap.size+1+1 from rfl]at k7;refine⟨by simp,.inl ⟨_,_,rfl,run_takeDeferred Zc,?_⟩⟩;have Jp:=cell_kept k6 (grownBy_putObj' _ D (.deferred none)) (λr e=>by cases e;exact⟨_,Zc,rfl⟩);have Jo:=cell_kept k7 (grownBy_putObj' _ D (.deferred none)) (λr e=>by cases e;exact⟨_,Zc,rfl⟩);have tD:XF4 (λi=>W1.heap.size<=i) W5 (W5.putObj D (.deferred none)):=Xau _ D _ Ω;refine⟨.tuple #[.int .i64 (sz:Int),.int .i64 0],?_,?_⟩
   ·simp[results,f121,go_sem,Jp,Jo]
   ·refine⟨L,HI.o.mks,by rw[Zz.o],?_,?_⟩
    ·exact(((HI.o.t.trans (U.touch _)).trans' Zm.o.1 (λi hi h=>by omega)).trans' tg (λi hi h=>by omega)).trans' tD (λi hi h=>by omega)
    ·exact(((Jh.gr U).touch Zm.o.1 (λi hi _ h=>by have:=hi.2;omega)).touch tg (λi hi _ h=>by have:=hi.2;omega)).touch tD (λi hi _ h=>by have:=hi.2;omega)
  case stop=>
   rintro D c W3 hD h hK;exact h.elim
end
end
section
open Go.RowKit Word
theorem V75{v v1:Vm}(h:ZAR v){f t:Nat}(ht:t<=v.n)(hE:Jsl v f t=0)(hG:Ji4 v v1 (J5L v f t)){a:Nat}(h1:f<=a)(h2:a<t):v1.ldE a=0:=by
 have hp:=h.page;have hF:J5L v f t=Jfy v ((f:Int)/v.pl.pg).toNat (XZs v f t):=by unfold J5L;rw[μ ⟨hE,by omega⟩]
 rw[hG.ldE h Ω,hF];by_cases h0:v.pt.getD (a/v.pl.pg) 0=0
 ·rw[μ];rw[YYE];refine⟨?_,h0⟩;have e1:((f:Int)/(v.pl.pg:Int)).toNat=f/v.pl.pg:=by rw[<-ζM];exact τ _
  have e2:XZs v f t=(t-1)/v.pl.pg+1-f/v.pl.pg:=by
   unfold XZs;rw[show (t:Int)-1=((t-1:Nat):Int)by omega,<-ζM,<-ζM];have:f/v.pl.pg<=(t-1)/v.pl.pg:=ζc Ω;omega
  have g1:f/v.pl.pg<=a/v.pl.pg:=ζc h1;have g2:a/v.pl.pg<=(t-1)/v.pl.pg:=ζc Ω;rw[e1,e2];omega
 ·split
  ·rfl
  ·rw[h.ldE_of Ω,ϑ h0]
theorem VGS{v:Vm}{f:Nat}(hf:f<=v.n):Jsl v f f=0/\J5L v f f=[]:=by
 have hE:Jsl v f f=0:=by unfold Jsl;rw[ϑ Ω,μ (ξU _)]
 refine⟨hE,?_⟩;unfold J5L;rw[ϑ (λh=>by have:=h.2;omega)]
theorem Z25{v v1:Vm}(h:ZAR v){rs:List Int}{c:Cf}(hc:JQF v rs c){L:List Ob}(hM:Zx6 v rs v.n L)(hE:Jsl v c.to ((c.to+sizes L:Nat):Int)=0)(hG:Ji4 v v1 (J5L v c.to ((c.to+sizes L:Nat):Int)))
  (hm:∀a:Nat,c.fr<=a->a<c.tp->v.ldE a=0):ZrG v1 rs L c.to/\XKC v1 L:=by
 obtain⟨Z,htot⟩:=hc.inn L hM;have hw:=hG.wider h;have hp:=h.page;have Y:=hc.cf;have hln:=Y.ln;have hto:=Y.to;refine⟨⟨hG.ok,?_,by omega,λo ho=>?_,λa h1 h2=>V75 h Ω hE hG h1 h2,by rw[hG.n];omega⟩,λo ho m hmo=>?_⟩
 ·rw[hG.n];exact hw.marks hM
 ·have hi:=Z o ho;have hs:1<=o.2:=(hM.mkd.good.sz o ho).1
  have hsz:1<=sizes L:=by
   have:∀l:List Ob,o∈l->o.2<=sizes l:=λl=>by
    induction l with
    | nil=>intro h;cases h
    | cons b r ih=>
     intro h;simp only[sizes];rcases ζH.1 h with rfl|h
     ·omega
     ·have:=ih h;omega
   have:=this L ho;omega
  have hup:c.tp<=upN c.tp v.pl.pg:=by
   unfold upN;have h1:=ζx (c.tp+v.pl.pg-1) v.pl.pg;have h2:=ξC (c.tp+v.pl.pg-1) (show 0<v.pl.pg by omega);rw[ζJ]at h1;omega
  have J:=Y.ap;by_cases h1:c.fr<c.lm
  ·left;have:¬c.to<upN c.tp v.pl.pg:=λh2=>J ⟨by omega,by omega,h1,h2⟩;omega
  ·right;omega
 ·have hi:=Z o ho;have:=hm (o.1+m) Ω Ω;exact(hw.le _ (by rw[show (o.1:Int)+m=((o.1+m:Nat):Int)by omega];exact this)).1
structure Qgx(v:Vm)(rs:List Int)(c:Cf)(L:List Ob)(v1 v2:Vm)(k kq:Nat):Prop where
 gr:Ji4 v v1 (J5L v c.to ((c.to+sizes L:Nat):Int))
 cx:ZrG v1 rs L c.to
 fo:XKC v1 L
 ke:k=(QnE v1 rs k).length
 st:CpS v1 rs L c.to (QnE v1 rs k) k 0 v2
 q1:∀j,j<kq->(c.fr/v.pl.pg+j)*v.pl.pg<c.tp
 q2:c.tp<=(c.fr/v.pl.pg+kq)*v.pl.pg
theorem VQN(v:Vm)(rs:List Int)(k:Nat){j:Nat}(h:j<=(QnE v rs k).length):(QnE v rs (k+1)).take j=(QnE v rs k).take j:=by
 obtain⟨X,hX⟩:=VRh v rs k;rw[hX,ξk h]
theorem YnT{v:Vm}{rs:List Int}{k:Nat}(h:k<(QnE v rs k).length):QnE v rs (k+1)=X4e (QnE v rs k) (X7I v ((QnE v rs k).getD k 0)):=by
 show (if _ then _ else _)=_
 rw[μ h]
theorem XeB{v:Vm}{rs:List Int}{L:List Ob}{to:Nat}(c:ZrG v rs L to){O X:List Int}(hR:∀a∈O++X,Rch v rs a){l:List Int}(hl:∀a∈l,a=0\/a∈O):l.map (λa=>ZQE v (O++X) to a)=l.map (λa=>ZQE v O to a):=by
 apply ξR;intro a ha;exact Vqd v X to (λh=>by have:=(QXB (c.mks.sound.rd _ (hR 0 h))).1;omega) (hl a ha)
end
end Go.Proofs.YteihjlcmjecmfaaGreatDoor
