/- Part 6 of what SlideReads leans on: my own lemmas, merged by shake.py. -/
import Derived.Test.YthgdadohijgleaaGreatDoorSlideReadsE
import Derived.Deep.LoopGhost
import Derived.Maps.OwnIn
section
section
namespace Go.Proofs.YthgdadohijgleaaGreatDoor
open Go.RowKit
section
variable {F:Fence} {n:Nat} {P:Program}
def SeqU (K:Nat) {σ α:Type} (F:Fence) (n:Nat) (P:Program) (g:Nat) (lb:Array Value) (encs:α->Array Value) (Inv:σ->World->Prop) (gives:σ->α->Prop) (next:σ->α->σ->Prop) (fin:σ->Prop) (s0:σ) (w:World):Prop:=
 ∀ (l:Nat) (J:σ->World->Prop) (Jx:World->Prop) (W:World),Gr w W->(∀ s A B,J s A->Touch (fun k=>W.heap.size<=k/\k<W.heap.size+K) A B->J s B)->(∀ A B,Jx A->Touch (fun k=>W.heap.size<=k/\k<W.heap.size+K) A B->Jx B)->(∀ s A,J s A->Inv s A) →
  (∀ s x W1,J s W1->W.heap.size+K<=W1.heap.size->gives s x->YieldAt F (n-1) P l (encs x) W1 fun e W'=>((e=.returned (.bool true)/\∃ s',next s x s'/\J s' W')\/(e=.returned (.bool false)/\Jx W'))/\Touch (fun k=>k<W.heap.size\/W.heap.size+K<=k) W1 W') →
  J s0 W->CallsIn F n P g (#[.func (.yield l) #[] #[]]++lb) W fun e W'=>(∃ v,e=.returned v)/\((∃ s,fin s/\J s W')\/Jx W')
def roundEndU {σ α:Type} (B K:Nat) (I:σ->World->Prop) (Ix:Code->World->Prop) (next:σ->α->σ->Prop) (s:σ) (x:α) (W:World):Exit->Act->World->Prop
 | .normal,_,W'=>Touch (fun k=>k<B\/B+K<=k) W W'/\∃ s',next s x s'/\I s' W'
 | .ret,_,W'=>Touch (fun k=>k<B\/B+K<=k) W W'/\Ix .ret W'
 | .exit id,_,W'=>Touch (fun k=>k<B\/B+K<=k) W W'/\Ix (.exit id) W'
 | .goto t,_,W'=>Touch (fun k=>k<B\/B+K<=k) W W'/\Ix (.goto t) W'
 | _,_,_=>False
theorem SeqS.toU {σ α:Type} {g:Nat} {lb:Array Value} {encs:α->Array Value} {Inv:σ->World->Prop} {gives:σ->α->Prop} {next:σ->α->σ->Prop} {fin:σ->Prop} {s0:σ} {w:World} (h:SeqS F n P g lb encs Inv gives next fin s0 w):SeqU 0 F n P g lb encs Inv gives next fin s0 w:=by
 intro l J Jx W hg hJ hJx hI hY h0
 refine h l (fun s A=>J s A/\W.heap.size<=A.heap.size) Jx W hg (fun s A B hs hAB=>⟨hJ s A B hs.1 (hAB.touch _),Nat.le_trans hs.2 hAB.size⟩) (fun A B hs hAB=>hJx A B hs (hAB.touch _)) (fun s A hs=>hI s A hs.1) ?_ ⟨h0,Nat.le_refl _⟩ |>.mono ?_
 ·rintro s x W1 ⟨hs,hsz⟩ hx
  refine (hY s x W1 hs hsz hx).mono ?_
  rintro e W' ⟨⟨he,s',hn,hJ'⟩ | ⟨he,hx'⟩,ht⟩
  ·exact .inl ⟨he,s',hn,hJ',Nat.le_trans hsz ht.size⟩
  ·exact .inr ⟨he,hx'⟩
 ·rintro e W' ⟨hv,⟨s,hs,hJ',_⟩ | hx⟩
  ·exact ⟨hv,.inl ⟨s,hs,hJ'⟩⟩
  ·exact ⟨hv,.inr hx⟩
theorem range_lawU {σ α:Type} {g:Operand} {ps:Array Tmp} {assign body:Code} {Q:Exit->Act->World->Prop} {a:Act} {w:World}
  (hro:F.round=none) (h1:1<=n) {gf:Nat} {lb:Array Value} (hg:a.eval g=.func (.func gf) #[] lb) (hFg:F.fn gf) (eg:∀ args w,(callFunc gf args).run P w=.ok (.enter gf args) w)
  {encs:α->Array Value} {Inv:σ->World->Prop} {gives:σ->α->Prop} {next:σ->α->σ->Prop} {fin:σ->Prop} {s0:σ} {K:Nat} (hseq:SeqU K F (n-1) P gf lb encs Inv gives next fin s0 w)
  (hps:∀ x,(encs x).size=ps.size)
  (I:σ->World->Prop) (Ix:Code->World->Prop) (hI:∀ s A B,I s A->Touch (fun k=>w.heap.size<=k/\k<w.heap.size+2+K) A B->I s B) (hIx:∀ c A B,Ix c A->Touch (fun k=>w.heap.size<=k/\k<w.heap.size+2+K) A B->Ix c B)
  (hInv:∀ s A,I s A->Inv s A) (h0:I s0 w)
  (hround:∀ (l:Nat) (s:σ) (x:α) (W:World),w.heap.size+2+K<=W.heap.size->I s W->gives s x →
   assign.wpIn (F.inRound l) (n-1-1) P (Exit.then (fun a' Wa=>Gr W Wa/\∀ W2,Touch (fun k=>k=w.heap.size+1) Wa W2->I s W2->body.wpIn (F.inRound l) (n-1-1) P (roundEndU w.heap.size (2+K) I Ix next s x W2) a' W2) (fun _ _ _=>False))
    { tmps:=(ps.zip (encs x)).foldl (fun t (p,v)=>t.setIfInBounds p v) a.tmps,defers:=[] } W)
  (hdone:∀ (D:Nat) (s:σ) (W:World),D=w.heap.size->fin s->I s W->W.heap[D]?=some (.deferred (some []))->Q .normal { a with defers:={ target:=.collected D,args:=#[] } :: a.defers } W)
  (hstop:∀ (D:Nat) (c:Code) (W:World),D=w.heap.size->Ix c W->W.heap[D]?=some (.deferred (some []))->c.wpIn F n P Q { a with defers:={ target:=.collected D,args:=#[] } :: a.defers } W):
  (Code.rangeFunc g ps assign body).wpIn F n P Q a w:=by
 refine wpIn_rangeFunc ?_
 intro fn hfn
 rw [hro]
 obtain ⟨rec,hrec⟩:∃ rec:LoopState->Option Code->Loop,rec=fun st pe=>{ state:=st,pending:=pe,fn,tmps:=a.tmps,params:=ps,assign,body,defers:=w.heap.size }:=⟨_,rfl⟩
 obtain ⟨W1,hW1⟩:∃ W1,(w.alloc (.deferred (some []))).alloc (.loop (rec .ready none))=W1:=⟨_,rfl⟩
 have hL1:W1.heap[w.heap.size+1]?=some (.loop (rec .ready none)):=by
  rw [<-hW1];have:=World.alloc_heap_new (w.alloc (.deferred (some []))) (.loop (rec .ready none));rwa [World.size_alloc] at this
 have hK1:W1.heap[w.heap.size]?=some (.deferred (some [])):=by
  rw [<-hW1];exact (Below.heap_alloc _ _ _ (by simp)).trans (World.alloc_heap_new w _)
 have hg1:Gr w W1:=by rw [<-hW1];exact ((Gr.refl w).alloc _).alloc _
 have tt:∀ {A B:World},Gr A B->Touch (fun k=>w.heap.size<=k/\k<w.heap.size+2+K) A B:=fun h=>h.touch _
 have lt_of:∀ {A:World} {k:Nat} {o:Obj},A.heap[k]?=some o->k<A.heap.size:=fun h=>(Array.getElem?_eq_some_iff.1 h).1
 refine ⟨w.heap.size+1,[{ target:=.collected w.heap.size,args:=#[] }],W1,{ target:=.fn (.func gf) lb,args:=#[.func (.yield (w.heap.size+1)) #[] #[]] },W1,gf,
  #[.func (.yield (w.heap.size + 1)) #[] #[]] ++ lb, W1, ?_, ?_, ?_, ?_, fun _ => h1, ?_⟩
 ·rw [<-hW1,hrec];exact run_enterLoop_outer _ _ _ _ _
 ·simp only [resolve,hg]
  simp [go_sem]
 ·intro f' hf';simp [Target.leads] at hf';subst hf';exact hFg
 ·simp [invoke,go_sem,eg]
 ·have hs1:W1.heap.size=w.heap.size+2:=by rw [<-hW1];simp
  refine (hseq (w.heap.size+1)
   (fun s W=>I s W/\W.heap[w.heap.size+1]?=some (.loop (rec .ready none))/\W.heap[w.heap.size]?=some (.deferred (some [])))
   (fun W=>∃ c,Ix c W/\W.heap[w.heap.size+1]?=some (.loop (rec .done (some c)))/\W.heap[w.heap.size]?=some (.deferred (some [])))
   W1 hg1
   (fun s A B hs ht=>⟨hI s A B hs.1 (ht.mono (fun k _ h=>by omega)),(ht.block _ (lt_of hs.2.1) (by omega)).trans hs.2.1,(ht.block _ (lt_of hs.2.2) (by omega)).trans hs.2.2⟩)
   (fun A B hs ht=>by
    obtain ⟨c,hc,hl,hk⟩:=hs
    exact ⟨c,hIx c A B hc (ht.mono (fun k _ h=>by omega)),(ht.block _ (lt_of hl) (by omega)).trans hl,(ht.block _ (lt_of hk) (by omega)).trans hk⟩)
   (fun s A hs=>hInv s A hs.1) ?_ ⟨hI _ _ _ h0 (tt hg1),hL1,hK1⟩).mono ?_
  ·rintro s x W ⟨hi,hl,hk⟩ hszW hgv
   have hlt:w.heap.size+1<W.heap.size:=lt_of hl
   have hy:=run_yield (P:=P) (args:=encs x) hl (by rw [hrec];exact hps x)
   rw [hrec] at hy
   refine ⟨fn,_,assign,body,hy,roundIn_of_wpIn hfn (wpIn_mono (hround _ s x W (by omega) hi hgv) ?_)⟩
   rintro e a' Wa hp
   cases e with
   | normal=>?_
   | _=>exact False.elim hp
   obtain ⟨hga,hbody⟩:=hp
   replace hl:=(hga.block hlt).trans hl
   replace hk:=(hga.block (by omega)).trans hk
   replace hlt:=lt_of hl
   replace hi:=hI _ _ _ hi (tt hga)
   clear hy
   revert hbody hga
   generalize W=W0
   intro hga hbody
   obtain ⟨W,rfl⟩:∃ W,W=Wa:=⟨_,rfl⟩
   refine ⟨_,run_beginRound hl (by rw [hrec]),?_⟩
   have hl2:(W.putObj (w.heap.size+1) (.loop { rec .ready none with state:=.busy })).heap[w.heap.size+1]?=some (.loop { rec .ready none with state:=.busy }):=World.putObj_heap_same hlt
   have hk2:(W.putObj (w.heap.size+1) (.loop { rec .ready none with state:=.busy })).heap[w.heap.size]?=some (.deferred (some [])):=(World.putObj_heap_other (by omega)).trans hk
   refine wpIn_mono (hbody _ ⟨rfl,rfl,rfl,by simp,fun k _ hn=>World.putObj_heap_other hn⟩ (hI _ _ _ hi ((touch_put1 W (w.heap.size+1) _).mono (fun k _ h=>by omega)))) ?_
   have fin:∀ (jump:Option Code) (W3:World),Touch (fun k=>k<w.heap.size\/w.heap.size+(2+K)<=k) (W.putObj (w.heap.size+1) (.loop { rec .ready none with state:=.busy })) W3 →
     (Instr.endRound (w.heap.size+1) jump).run P W3=.ok (.bool jump.isNone) (W3.putObj (w.heap.size+1) (.loop (rec (if jump.isNone then .ready else .done) jump))) ∧
     (W3.putObj (w.heap.size+1) (.loop (rec (if jump.isNone then .ready else .done) jump))).heap[w.heap.size+1]?=some (.loop (rec (if jump.isNone then .ready else .done) jump)) ∧
     (W3.putObj (w.heap.size+1) (.loop (rec (if jump.isNone then .ready else .done) jump))).heap[w.heap.size]?=some (.deferred (some [])):=fun jump W3 hk3=>by
    have hl3:=(hk3.block _ (lt_of hl2) (by omega)).trans hl2
    have:=run_endRound (P:=P) jump hl3
    rw [hrec] at this ⊢
    exact ⟨this,World.putObj_heap_same (lt_of hl3),(World.putObj_heap_other (by omega)).trans ((hk3.block _ (lt_of hk2) (by omega)).trans hk2)⟩
   have tch:∀ (o:Obj) (W3:World),Touch (fun k=>k<w.heap.size\/w.heap.size+(2+K)<=k) (W.putObj (w.heap.size+1) (.loop { rec .ready none with state:=.busy })) W3->Touch (fun k=>k<W1.heap.size\/W1.heap.size+K<=k) W0 (W3.putObj (w.heap.size+1) o):=fun o W3 h3=>
    (((hga.touch _).trans ((touch_put1 W (w.heap.size+1) _).mono (fun k _ h=>by omega))).trans (h3.mono (fun k _ h=>by omega))).trans ((touch_put1 W3 (w.heap.size+1) o).mono (fun k _ h=>by omega))
   rintro e a3 W3 hp
   cases e with
   | normal=>
    obtain ⟨hk3,s',hn3,hi3⟩:=hp
    obtain ⟨hr,hl4,hk4⟩:=fin none W3 hk3
    exact ⟨_,_,hr,.inl ⟨rfl,s',hn3,hI _ _ _ hi3 ((touch_put1 W3 (w.heap.size+1) _).mono (fun k _ h=>by omega)),hl4,hk4⟩,tch _ _ hk3⟩
   | ret=>
    obtain ⟨hk3,hi3⟩:=hp
    obtain ⟨hr,hl4,hk4⟩:=fin (some .ret) W3 hk3
    exact ⟨_,_,hr,.inr ⟨rfl,.ret,hIx _ _ _ hi3 ((touch_put1 W3 (w.heap.size+1) _).mono (fun k _ h=>by omega)),hl4,hk4⟩,tch _ _ hk3⟩
   | exit id=>
    obtain ⟨hk3,hi3⟩:=hp
    obtain ⟨hr,hl4,hk4⟩:=fin (some (.exit id)) W3 hk3
    exact ⟨_,_,hr,.inr ⟨rfl,.exit id,hIx _ _ _ hi3 ((touch_put1 W3 (w.heap.size+1) _).mono (fun k _ h=>by omega)),hl4,hk4⟩,tch _ _ hk3⟩
   | goto t=>
    obtain ⟨hk3,hi3⟩:=hp
    obtain ⟨hr,hl4,hk4⟩:=fin (some (.goto t)) W3 hk3
    exact ⟨_,_,hr,.inr ⟨rfl,.goto t,hIx _ _ _ hi3 ((touch_put1 W3 (w.heap.size+1) _).mono (fun k _ h=>by omega)),hl4,hk4⟩,tch _ _ hk3⟩
   | panic ch=>exact hp.elim
   | outgrown=>exact hp.elim
  ·rintro e W2 ⟨⟨v,rfl⟩,(⟨s,hS,hi,hl,hk⟩ | ⟨c,hi,hl,hk⟩)⟩
   ·exact ⟨none,_,by have:=run_endLoop (P:=P) hl (by rw [hrec];simp);rw [hrec] at this;exact this,hdone _ s _ rfl hS (hI _ _ _ hi ((touch_put1 W2 (w.heap.size+1) _).mono (fun k _ h=>by omega))) ((World.putObj_heap_other (by omega)).trans hk)⟩
   ·exact ⟨some c,_,by have:=run_endLoop (P:=P) hl (by rw [hrec];simp);rw [hrec] at this;exact this,hstop _ c _ rfl (hIx _ _ _ hi ((touch_put1 W2 (w.heap.size+1) _).mono (fun k _ h=>by omega))) ((World.putObj_heap_other (by omega)).trans hk)⟩
end
end Go.Proofs.YthgdadohijgleaaGreatDoor
end
section
namespace Go.Proofs.YthgdadohijgleaaGreatDoor
open Go.RowKit Go.Shelf Word
attribute [local go_sem] Oper.semAt_some
set_option maxRecDepth 100000 in
set_option maxHeartbeats 3200000 in
theorem all_seqU (n':Nat) (box m p1 b1 p2 b2 n:Nat) (L:List Ob) (w:World):
  SeqU 4 Fence.wide n' Tryz.prog 294 #[.pointer (some ⟨box,0,none⟩)] encO (AllInv box m p1 b1 p2 b2 n L) (AllGives L) (fun j _ j'=>j'=j+1) (fun j=>j=L.length) 0 w:=by
 intro l J Jx W hg hJ hJx hI hY h0
 refine callsIn_wide.2 ((callsIn_wide (n:=5)).1 ?_)
 refine callsIn_of_wp_marks Tryz.func294 rfl trivial ?_ rfl
 have hi0:=hI _ _ h0
 have c0:=hi0.2.2.1
 have k0:=hi0.1.c0
 have HI0:=hid hi0
 have HJ0:=hid h0
 have HII:=hid hI
 clear hi0 h0 hI
 simp only [Tryz.ntmps294,List.size_toArray,List.length_cons,List.length_nil,Nat.reduceAdd,Nat.reduceSub,Array.replicate_succ,Array.replicate_zero,List.push_toArray,List.append_toArray,List.nil_append,List.cons_append]
 have hbox:box<W.heap.size:=lt_cell c0
 have hmw:=HI0.out.1.hm
 gi_wp2_with (first
  | (refine ⟨trivial,?_⟩;gi_at_call 271;refine (callsIn_wide.2 (ext_none (HI0.out.1.gr ((Gr.refl W).alloc _)))).mono ?_;rintro e w1 ⟨rfl,rfl⟩)
  | (refine ⟨trivial,?_⟩;gi_at_call 295;refine (callsIn_wide.2 (ones_call (some ⟨p1,0,none⟩))).mono ?_;rintro e w1 ⟨rfl,rfl⟩))
 obtain ⟨W0,hW0⟩:∃ W0,W0=(W.alloc (.cells #[.func (.yield l) #[] #[]] 254)).alloc (.cells #[.pointer (some ⟨p1,0,none⟩)] 259):=⟨_,rfl⟩
 have hg0:Gr W W0:=by rw [hW0];exact ((Gr.refl W).alloc _).alloc _
 have hsz0:W0.heap.size=W.heap.size+2:=by rw [hW0];simp
 have bY:W0.cell? ⟨W.heap.size,0,none⟩=some (.func (.yield l) #[] #[]):=by rw [hW0];exact ((Boxed.new W _ _).alloc _).cell
 have bV:W0.cell? ⟨W.heap.size+1,0,none⟩=some (.pointer (some ⟨p1,0,none⟩)):=by
  rw [hW0]
  have:=Boxed.new (W.alloc (.cells #[.func (.yield l) #[] #[]] 254)) 259 (.pointer (some ⟨p1,0,none⟩))
  rw [World.size_alloc] at this
  exact this.cell
 rw [<-hW0]
 have hgood:=HI0.out.1.good
 have hnb:=HI0.out.1.nb
 have hJ00:J 0 W0:=hJ _ _ _ HJ0.out (hg0.touch _)
 have HH0:=hid hW0
 clear hW0 c0 k0
 have hn0:nextO L ((0:Nat):Int)=0:=nextO_eq (Nat.zero_le _) (fun i hi h=>by omega) (fun h=>by omega)
 have tI:∀ s A B,InAll n L J W.heap.size (W.heap.size+1) p1 (.func (.yield l) #[] #[]) s A->Touch (fun k=>W0.heap.size<=k/\k<W0.heap.size+2+0) A B->InAll n L J W.heap.size (W.heap.size+1) p1 (.func (.yield l) #[] #[]) s B:=fun s A B h t=>
  ⟨h.st,h.ps,by obtain ⟨j,hj,e⟩:=h.j;exact ⟨j,hJ _ _ _ hj (t.mono (fun k _ h=>by omega)),e⟩,(t.cell (lt_cell h.y) (by show ¬ (W0.heap.size<=W.heap.size/\_);omega) 0).trans h.y,(t.cell (lt_cell h.v) (by show ¬ (W0.heap.size<=W.heap.size+1/\_);omega) 0).trans h.v⟩
 refine range_lawU (K:=0) (s0:=(startsL n L,0)) rfl (by omega) (gf:=349) (lb:=#[.pointer (some ⟨W.heap.size+1,0,none⟩)]) rfl trivial (enters_of Tryz.func349 (by kernel_rfl) rfl)
  (ones_seq _ (W.heap.size+1) p1 b1 n (startsL n L) _).toU (fun _=>rfl)
  (InAll n L J W.heap.size (W.heap.size+1) p1 (.func (.yield l) #[] #[])) (fun c A=>c=.ret/\Jx A) tI (fun c A B h t=>⟨h.1,hJx _ _ h.2 (t.mono (fun k _ h=>by omega))⟩)
  (fun s A h=>by
   obtain ⟨j,hj,-⟩:=h.j
   have hi:=HII.out _ _ hj
   exact ⟨by rw [h.st];exact hi.1.v1,by rw [h.st,startsL_len],hi.2.1,h.v,h.ps⟩)
  ⟨rfl,Nat.zero_le _,⟨0,hJ00,hn0⟩,bY,bV⟩ ?round ?done ?stop
 case round=>
  intro lp s x W3 hsz3 hI3 hgv
  gi_wp2
  refine ⟨Gr.refl _,fun W4 ht4 hI4=>?_⟩
  obtain ⟨hst,hps,⟨j,hj,hnx⟩,hy,hv⟩:=hI4
  obtain ⟨hx,hlt⟩:=hgv
  have hi4:=HII.out _ _ hj
  rw [hst] at hx hlt
  have hjl:j<L.length:=by
   rcases Nat.lt_or_ge j L.length with h | h
   ·exact h
   ·have:=next_start_no hgood (a:=(s.2:Int)) (by rw [hnx];omega)
    omega
  have hxj:x=L[j].1:=by
   have:=(next_start_yes hgood (a:=(s.2:Int)) (by rw [hnx];exact hjl)).1
   rw [hx,this];congr 2
  subst hxj
  have hJd:J j W4.drew:=hJ _ _ _ hj ((Gr.refl W4).drew.touch _)
  have hsz4:W.heap.size+4<=W4.drew.heap.size:=by have:=ht4.size;show W.heap.size+4<=W4.heap.size;omega
  obtain ⟨fn,tmps,assign,body,hyy,hR⟩:=yieldAt_wide (m':=2) (l2:=lp) (hY j L[j] W4.drew hJd hsz4 (List.getElem?_eq_getElem hjl))
  have HZ:=hid (ext_size (hi4.1.gr (Gr.refl W4).drew) ((Gr.refl W4).drew.tab hi4.2.1.lt hi4.2.1) hjl)
  have cbx:=hi4.2.2.1
  have hbxs:=hsz0
  have HS:=hid (And.intro hst (And.intro hnx hjl))
  clear hst hnx hj hi4 hx hlt hI3
  dsimp only [encO] at hyy
  have hR2:=hR.mono (R':=fun e W'=>∃ bb:Bool,e=.returned (.bool bb)/\((bb=true/\J (j+1) W')\/(bb=false/\Jx W'))/\Touch (fun k=>k<W.heap.size\/W.heap.size+4<=k) W4.drew W') (by
   rintro e W' ⟨⟨he,s',rfl,hs'⟩ | ⟨he,hx⟩,ht⟩
   ·exact ⟨true,he,.inl ⟨rfl,hs'⟩,ht⟩
   ·exact ⟨false,he,.inr ⟨rfl,hx⟩,ht⟩)
  clear hR
  gi_wp2
  obtain ⟨Sx,hSx⟩:∃ S:World->Prop,S=fun A=>A.cell? ⟨W.heap.size,0,none⟩=some (.func (.yield l) #[] #[]):=⟨_,rfl⟩
  have x1:∀ p:Held Sx,p.w.cell? ⟨W.heap.size,0,none⟩=some (.func (.yield l) #[] #[]):=fun p=>Held.get hSx p
  have hS0:Sx W4.drew:=by rw [hSx];exact hy
  have HSx:=hid hSx
  clear hSx
  have inst:Inhabited (Held Sx):=⟨⟨_,hS0⟩⟩
  refine wpIn_region_mixS Sx 7 [([0,1,3],2),([],4),([],5)] [6] (fun _=>trivial) (by kernel_rfl) (by kernel_rfl) hS0 ?_
  refine segsIn_step ?_
  simp only [opsAt,List.getElem?_cons_zero,List.getElem?_cons_succ]
  repeat (go_big_quiet_step (fail))
  refine wpQuiet_nil ?_
  gi_wp2
  refine ⟨.inr (Held.of hS0),?_⟩
  refine segsIn_step ?_
  simp only [opsAt,List.getElem?_cons_zero,List.getElem?_cons_succ]
  refine wpQuiet_nil ?_
  gi_wp2_with (refine ⟨trivial,?_⟩;gi_at_call 273;refine (CallsIn.inRound lp (callsIn_wide.2 HZ.out)).mono ?_;rintro e w' ⟨rfl,rfl⟩)
  refine ⟨.inr (Held.of hS0),?_⟩
  refine segsIn_step ?_
  simp only [opsAt,List.getElem?_cons_zero,List.getElem?_cons_succ]
  refine wpQuiet_nil ?_
  gi_wp2
  refine hR2.mono ?_
  rintro e W5 ⟨bb,rfl,hor,ht5⟩
  have hy5:=(ht5.cell (lt_cell hy) (by show ¬ (W.heap.size<W.heap.size\/W.heap.size+4<=W.heap.size);omega) 0).trans hy
  have hv5:=(ht5.cell (lt_cell hv) (by show ¬ (W.heap.size+1<W.heap.size\/W.heap.size+4<=W.heap.size+1);omega) 0).trans hv
  gi_wp2
  refine ⟨.inr (Held.of (by rw [HSx.out];exact hy5)),?_⟩
  refine segsIn_end ?_
  simp only [opsAt,List.getElem?_cons_zero,List.getElem?_cons_succ]
  repeat (go_big_quiet_step (fail))
  refine wpQuiet_nil ?_
  refine NoPanic.normal ?_
  have T5:=hid (((Gr.refl W4).drew.touch (fun k=>k<W0.heap.size\/W0.heap.size+(2+0)<=k)).trans (ht5.mono (fun k _ h=>by omega)))
  have HSZ:=hid (hgood.sz _ (List.getElem_mem hjl))
  clear x1 hS0 HSx inst hR2 ht5
  clear Sx
  cases bb with
  | true=>
   have hJ5:J (j+1) W5:=by
    rcases hor with ⟨_,h⟩ | ⟨h,_⟩
    ·exact h
    ·cases h
   have HJ5:=hid hJ5
   clear hor hJ5
   gi_wp2
   exact ⟨T5.out,(startsL n L,L[j].1+1),rfl,rfl,by have:=HSZ.out;show L[j].1+1<=n;omega,⟨j+1,HJ5.out,by have:=next_succ_ob hgood hjl;push_cast;exact this⟩,hy5,hv5⟩
  | false=>
   have hJ5:Jx W5:=by
    rcases hor with ⟨h,_⟩ | ⟨_,h⟩
    ·cases h
    ·exact h
   have HJ5:=hid hJ5
   clear hor hJ5
   gi_wp2
   exact ⟨T5.out,rfl,HJ5.out⟩
 case done=>
  rintro D s W3 hD hfin hI3 hK
  obtain ⟨hst,hps,⟨j,hj,hnx⟩,hy,hv⟩:=hI3
  have hjl:¬ j<L.length:=fun h=>by
   have:=next_start_yes hgood (a:=(s.2:Int)) (by rw [hnx];exact h)
   unfold OnesFin at hfin
   rw [hst] at hfin
   exact hfin this.2
  have hje:j=L.length:=by have:=nextO_le L (s.2:Int);omega
  have HE:=hid (And.intro hje hj)
  have HK:=hid hK
  have HD:=hid hD
  clear hst hps hnx hy hv hfin hje hj hK hD hjl
  gi_wp2
  refine ⟨by simp,.inl ⟨_,_,rfl,run_takeDeferred HK.out,?_⟩⟩
  refine ⟨.tuple #[],results_none rfl _ _ _,⟨_,rfl⟩,.inl ⟨j,HE.out.1,hJ _ _ _ HE.out.2 ((touch_put1 W3 D _).mono (fun k _ h=>by have:=HD.out;omega))⟩⟩
 case stop=>
  rintro D c W3 hD ⟨rfl,hx⟩ hK
  have HE:=hid hx
  have HK:=hid hK
  have HD:=hid hD
  clear hx hK hD
  gi_wp2
  refine ⟨by simp,.inl ⟨_,_,rfl,run_takeDeferred HK.out,?_⟩⟩
  refine ⟨.tuple #[],results_none rfl _ _ _,⟨_,rfl⟩,.inr (hJx _ _ HE.out ((touch_put1 W3 D _).mono (fun k _ h=>by have:=HD.out;omega)))⟩
end Go.Proofs.YthgdadohijgleaaGreatDoor
end
end
section
section
namespace Go.Proofs.YthgdadohijgleaaGreatDoor
open Go.RowKit Word
structure MkC where
 k:Nat
 z:Sp
 m:Nat
 p1:Nat
 b1:Nat
 p2:Nat
 b2:Nat
 n:Nat
 g:Nat
 R:Nat
 wk:Nat
 B:Nat
def MkC.T (c:MkC) (G:Nat->Prop) (i:Nat):Prop:=i=c.k\/mine c.m c.b1 c.b2 i\/G i
structure MkSep (c:MkC) (SV G SW:Nat->Prop):Prop where
 sv':∀ i,SV i->i<c.B/\¬ c.T G i
 sw':∀ i,SW i->i<c.B/\¬ c.T G i
 tab':1<c.B/\¬ c.T G 1
 p1':c.p1<c.B/\¬ c.T G c.p1
 p2':c.p2<c.B/\¬ c.T G c.p2
 k1:¬ mine c.m c.b1 c.b2 c.k
 k2:¬ G c.k
 kB:c.k<c.B
 mg:∀ i,mine c.m c.b1 c.b2 i->¬ G i
 mB:∀ i,mine c.m c.b1 c.b2 i->i<c.B
 sd':∀ i,c.z.D i->i<c.B/\¬ c.T G i
section
variable {c:MkC} {SV G SW:Nat->Prop}
theorem MkSep.sv (h:MkSep c SV G SW):∀ i,SV i->¬ c.T G i:=fun i hi=>(h.sv' i hi).2
theorem MkSep.sw (h:MkSep c SV G SW):∀ i,SW i->¬ c.T G i:=fun i hi=>(h.sw' i hi).2
theorem MkSep.sd (h:MkSep c SV G SW):∀ i,c.z.D i->¬ c.T G i:=fun i hi=>(h.sd' i hi).2
theorem MkC.vm (hz:c.z.Ok) (hs:MkSep c SV G SW) {v:Vm} {T':Nat->Prop} {w w':World} (h:c.z.I v SV w) (t:Touch T' w w') (hT:∀ i,T' i->c.T G i):c.z.I v SV w':=hz.fr h t (fun k _ hk=>⟨fun h=>hs.sv k h (hT k hk),fun h=>hs.sd k h (hT k hk)⟩) (fun _ h=>h)
theorem MkSep.tab (h:MkSep c SV G SW):¬ c.T G 1:=h.tab'.2
theorem MkSep.p1 (h:MkSep c SV G SW):¬ c.T G c.p1:=h.p1'.2
theorem MkSep.p2 (h:MkSep c SV G SW):¬ c.T G c.p2:=h.p2'.2
theorem MkSep.plus (h:MkSep c SV G SW) {w:World} (hw:c.B<=w.heap.size):MkSep c SV (plus G w) SW:=by
 have key:∀ i,i<c.B/\¬ c.T G i->i<c.B/\¬ c.T (Go.Proofs.YthgdadohijgleaaGreatDoor.plus G w) i:=fun i hi=>⟨hi.1,fun ht=>by
  rcases ht with h1 | h1 | h1 | h1
  ·exact hi.2 (.inl h1)
  ·exact hi.2 (.inr (.inl h1))
  ·exact hi.2 (.inr (.inr h1))
  ·have:=hi.1;omega⟩
 exact ⟨fun i hi=>key i (h.sv' i hi),fun i hi=>key i (h.sw' i hi),key _ h.tab',key _ h.p1',key _ h.p2',h.k1,fun h1=>h1.elim h.k2 (fun h2=>by have:=h.kB;omega),h.kB,fun i hi h1=>h1.elim (h.mg i hi) (fun h2=>by have:=h.mB i hi;omega),h.mB,fun i hi=>key i (h.sd' i hi)⟩
end
def mkrV (c:MkC) (L:List Ob) (r vi:Int):List Value:=[c.z.v,.pointer (some ⟨c.m,0,none⟩),.pointer (some ⟨c.g,0,none⟩),.pointer (some ⟨c.wk,0,none⟩),.int .i64 (L.length:Nat),.int .i64 (sizes L:Nat),.int .i64 r,.int .i64 vi]
structure MkAt (w:World) (SV G SW:Nat->Prop) (c:MkC) (v:Vm) (s:MkS) (r vi:Int):Prop where
 vm:c.z.I v SV w
 ext:Ext w c.m c.p1 c.b1 c.p2 c.b2 c.n s.L
 stk:StkAt w G c.g s.st c.R s.lost
 wk:WkAt w SW c.wk c.z.v []
 row:Rec w c.k 270 (mkrV c s.L r vi)
 tab:TabAt w
 sep:MkSep c SV G SW
 bB:c.B<=w.heap.size
 zk:c.z.Ok/\¬ c.z.M
theorem MkAt.gr {w w':World} {SV G SW:Nat->Prop} {c:MkC} {v:Vm} {s:MkS} {r vi:Int} (h:MkAt w SV G SW c v s r vi) (g:Gr w w'):MkAt w' SV G SW c v s r vi:=
 ⟨h.zk.1.gr h.vm g,h.ext.gr g,h.stk.gr g,h.wk.gr g,h.row.gr g,g.tab h.tab.lt h.tab,h.sep,Nat.le_trans h.bB g.size,h.zk⟩
theorem MkAt.set {w:World} {SV G SW:Nat->Prop} {c:MkC} {v:Vm} {s:MkS} {r vi:Int} (h:MkAt w SV G SW c v s r vi) {j:Nat} {u:Value} {r' vi':Int} (hj:(mkrV c s.L r vi).set j u=mkrV c s.L r' vi'):MkAt (w.setCell ⟨c.k,j,none⟩ u) SV G SW c v s r' vi':=by
 have t:Touch (fun i=>i=c.k) w (w.setCell ⟨c.k,j,none⟩ u):=(Touch.refl (fun i=>i=c.k) w).setCell (a:=⟨c.k,j,none⟩) (fun _=>rfl) u
 have hs:=h.sep
 refine ⟨MkC.vm h.zk.1 hs h.vm t (fun i e=>.inl e),?_,h.stk.touch t (fun i hi _ e=>hs.k2 (e ▸ hi)),h.wk.touch t (fun i hi _ e=>hs.sw i hi (.inl e)),hj ▸ h.row.set j u,t.tab h.tab.lt (fun e=>hs.tab (.inl e)) h.tab,hs,Nat.le_trans h.bB t.size,h.zk⟩
 exact h.ext.touch t (fun e=>hs.k1 (e ▸ .inl rfl)) (fun e=>hs.p1 (.inl e)) (fun e=>hs.k1 (e ▸ .inr (.inl rfl))) (fun e=>hs.p2 (.inl e)) (fun e=>hs.k1 (e ▸ .inr (.inr rfl)))
theorem touch_k {w:World} {c:MkC} {G:Nat->Prop} (j:Nat) (u:Value):Touch (c.T G) w (w.setCell ⟨c.k,j,none⟩ u):=(Touch.refl _ w).setCell (a:=⟨c.k,j,none⟩) (fun _=>.inl rfl) u
def MkEnd (w:World) (SV G SW:Nat->Prop) (c:MkC) (v:Vm) (P:MkS->Int->Int->Prop) (N:Prop) (e:Ending) (w':World):Prop:=
 Touch (c.T G) w w'/\((e=.returned (.tuple #[])/\∃ s r vi,MkAt w' SV (plus G w) SW c v s r vi/\P s r vi)\/(e=.panicked [{ v:=thrV 25 0,recovered:=false }]/\N/\∃ s r vi,MkAt w' SV (plus G w) SW c v s r vi))
section
variable {w w':World} {SV G SW:Nat->Prop} {c:MkC} {v:Vm} {P:MkS->Int->Int->Prop} {N:Prop} {s:MkS} {r vi:Int}
theorem MkAt.sub {G':Nat->Prop} (h:MkAt w SV G SW c v s r vi) (hg:∀ i,G i->G' i) (hs:MkSep c SV G' SW):MkAt w SV G' SW c v s r vi:=⟨h.vm,h.ext,h.stk.mono hg,h.wk,h.row,h.tab,hs,h.bB,h.zk⟩
theorem MkAt.up (h:MkAt w' SV G SW c v s r vi) (hw:c.B<=w.heap.size):MkAt w' SV (plus G w) SW c v s r vi:=h.sub (fun _ h=>.inl h) (h.sep.plus hw)
theorem MkAt.back {w0:World} (h:MkAt w' SV (plus (plus G w0) w) SW c v s r vi) (hz:w0.heap.size<=w.heap.size) (hs:MkSep c SV G SW) (hw:c.B<=w0.heap.size):MkAt w' SV (plus G w0) SW c v s r vi:=
 h.sub (fun _ h=>h.elim id (fun h=>.inr (Nat.le_trans hz h))) (hs.plus hw)
theorem touch_plus {a b d:World} (h:Touch (c.T G) a b) (k:Touch (c.T (plus G a)) b d):Touch (c.T G) a d:=
 h.trans' k (fun i hi ht=>by
  rcases ht with h1 | h1 | h1 | h1
  ·exact .inl h1
  ·exact .inr (.inl h1)
  ·exact .inr (.inr h1)
  ·omega)
theorem MkEnd.ok (t:Touch (c.T G) w w') (h:MkAt w' SV (plus G w) SW c v s r vi) (p:P s r vi):MkEnd w SV G SW c v P N (.returned (.tuple #[])) w':=⟨t,.inl ⟨rfl,s,r,vi,h,p⟩⟩
theorem MkEnd.no (t:Touch (c.T G) w w') (h:MkAt w' SV (plus G w) SW c v s r vi) (n:N):MkEnd w SV G SW c v P N (.panicked [{ v:=thrV 25 0,recovered:=false }]) w':=⟨t,.inr ⟨rfl,n,s,r,vi,h⟩⟩
end
theorem sizes_insO (L:List Ob) (o:Ob):sizes (insO L o)=sizes L+o.2:=by
 induction L with
 | nil=>simp [insO,sizes]
 | cons q t ih=>
  unfold insO
  split
  ·simp only [sizes];omega
  ·simp only [sizes,ih];omega
theorem find_hs {n:Nat} {L:List Ob} (h:Good n L) {a:Int} (ha:Hs L a):findO L a<L.length/\obS L (findO L a)=a:=by
 obtain ⟨o,ho,rfl⟩:=ha
 obtain ⟨j,hj,rfl⟩:=List.getElem_of_mem ho
 have hz:=(h.sz _ ho).1
 rw [findO_eq h hj (Int.le_refl _) (by omega)]
 exact ⟨hj,(obS_in hj).1⟩
theorem find_not {L:List Ob} {a:Int} (hn:¬ Hs L a) (hf:findO L a<L.length):obS L (findO L a)≠a:=by
 rw [(obS_in hf).1]
 exact fun e=>hn ⟨_,List.getElem_mem hf,e⟩
theorem StkAt.set2 {w:World} {G:Nat->Prop} {g R k i j:Nat} {l:List Int} {b:Bool} {u u':Value} (h:StkAt w G g l R b) (hk:¬ G k):StkAt ((w.setCell ⟨k,i,none⟩ u).setCell ⟨k,j,none⟩ u') G g l R b:=
 (h.touch ((Touch.refl (fun x=>x=k) w).setCell (a:=⟨k,i,none⟩) (fun _=>rfl) u) (fun _ hx _ e=>hk (e ▸ hx))).touch ((Touch.refl (fun x=>x=k) _).setCell (a:=⟨k,j,none⟩) (fun _=>rfl) u') (fun _ hx _ e=>hk (e ▸ hx))
theorem mkrV_add {c:MkC} {L:List Ob} {r vi a z:Int} (he:addE L c.n a z=0):((mkrV c L r vi).set 4 (.int .i64 ((L.length:Nat)+1))).set 5 (.int .i64 ((sizes L:Nat)+z))=mkrV c (addL L c.n a z) r vi:=by
 have hz:=(addE_zero he).1
 have h1:=add_len he
 have h2:sizes (addL L c.n a z)=sizes L+z.toNat:=by unfold addL;rw [if_pos he,sizes_insO]
 unfold mkrV
 rw [h1,h2]
 show [_,_,_,_,_,_,_,_]=[_,_,_,_,_,_,_,_]
 have e1:((L.length:Nat):Int)+1=((L.length+1:Nat):Int):=by omega
 have e2:((sizes L:Nat):Int)+z=((sizes L+z.toNat:Nat):Int):=by omega
 rw [e1,e2]
theorem MkAt.pushed {w w4 w5:World} {SV G SW:Nat->Prop} {c:MkC} {v:Vm} {s:MkS} {r vi:Int} (h:MkAt w SV G SW c v s r vi) {L':List Ob} {st':List Int} {lost':Bool} {u u':Value} (t4:Touch (mine c.m c.b1 c.b2) w w4) (x4:Ext w4 c.m c.p1 c.b1 c.p2 c.b2 c.n L')
  (t5:Touch G ((w4.setCell ⟨c.k,4,none⟩ u).setCell ⟨c.k,5,none⟩ u') w5) (s5:StkAt w5 (plus G ((w4.setCell ⟨c.k,4,none⟩ u).setCell ⟨c.k,5,none⟩ u')) c.g st' c.R lost') (hm:((mkrV c s.L r vi).set 4 u).set 5 u'=mkrV c L' r vi):
  MkAt w5 SV (plus G w) SW c v ⟨L',st',lost'⟩ r vi/\Touch (c.T G) w w5:=by
 have hs:=h.sep
 have tk:Touch (fun i=>i=c.k) w4 ((w4.setCell ⟨c.k,4,none⟩ u).setCell ⟨c.k,5,none⟩ u'):=
  ((Touch.refl (fun i=>i=c.k) w4).setCell (a:=⟨c.k,4,none⟩) (fun _=>rfl) u).setCell (a:=⟨c.k,5,none⟩) (fun _=>rfl) u'
 have hz:w.heap.size<=((w4.setCell ⟨c.k,4,none⟩ u).setCell ⟨c.k,5,none⟩ u').heap.size:=Nat.le_trans t4.size tk.size
 have hk5:¬ G c.k:=hs.k2
 refine ⟨⟨MkC.vm h.zk.1 hs (MkC.vm h.zk.1 hs (MkC.vm h.zk.1 hs h.vm t4 (fun i e=>.inr (.inl e))) tk (fun i e=>.inl e)) t5 (fun i e=>.inr (.inr e)),?_,s5.mono (fun i hi=>hi.imp id (fun h'=>Nat.le_trans hz h')),((h.wk.touch t4 (fun i hi _ e=>hs.sw i hi (.inr (.inl e)))).touch tk (fun i hi _ e=>hs.sw i hi (.inl e))).touch t5 (fun i hi _ e=>hs.sw i hi (.inr (.inr e))),
   (hm ▸ ((h.row.touch t4 hs.k1).set 4 u).set 5 u').touch t5 hk5,?_,hs.plus h.bB,Nat.le_trans h.bB (Nat.le_trans hz t5.size),h.zk⟩,?_⟩
 ·have e1:=x4.touch tk (fun e=>hs.k1 (e ▸ .inl rfl)) (fun e=>hs.p1 (.inl e)) (fun e=>hs.k1 (e ▸ .inr (.inl rfl))) (fun e=>hs.p2 (.inl e)) (fun e=>hs.k1 (e ▸ .inr (.inr rfl)))
  exact e1.touch t5 (hs.mg _ (.inl rfl)) (fun e=>hs.p1 (.inr (.inr e))) (hs.mg _ (.inr (.inl rfl))) (fun e=>hs.p2 (.inr (.inr e))) (hs.mg _ (.inr (.inr rfl)))
 ·have a1:=t4.tab h.tab.lt (fun e=>hs.tab (.inr (.inl e))) h.tab
  have a2:=tk.tab a1.lt (fun e=>hs.tab (.inl e)) a1
  exact t5.tab a2.lt (fun e=>hs.tab (.inr (.inr e))) a2
 ·exact ((t4.mono (fun i _ hi=>.inr (.inl hi))).trans (tk.mono (fun i _ hi=>.inl hi))).trans (t5.mono (fun i _ hi=>.inr (.inr hi)))
section
variable {w:World} {SV G SW:Nat->Prop} {c:MkC} {v:Vm} {s:MkS} {r vi:Int} {X:Int->Prop} {rs:List Int}
set_option maxRecDepth 100000 in
theorem mk_need_ok (w:World) (k:Nat):Calls Tryz.prog 340 #[.pointer (some ⟨k,0,none⟩),.bool true] w fun e w'=>e=.returned (.tuple #[])/\w=w':=by
 go_enter Tryz.func340,Tryz.ntmps340
 go_wp2
 refine bodyPost_end (results_none rfl _ _ _) rfl ?_
 exact ⟨rfl,rfl⟩
set_option maxRecDepth 100000 in
theorem mk_need_no (h:MkAt w SV G SW c v s r vi):Calls Tryz.prog 340 #[.pointer (some ⟨c.k,0,none⟩),.bool false] w fun e w'=>e=.panicked [{ v:=thrV 25 0,recovered:=false }]/\w=w':=by
 have c3:=h.row.cell (j:=3) rfl
 have HF:=hid (wk_fail h.zk.1.nn h.wk 25 0)
 clear h
 go_enter Tryz.func340,Tryz.ntmps340
 go_wp2_with (go_at_call 308;refine HF.out.mono ?_;rintro e w1 ⟨rfl,rfl⟩)
 exact ⟨rfl,rfl,rfl⟩
def Sp.Rd (z:Sp) (v:Vm) (a:Int):Prop:=(0<a->z.P a)/\∀ i:Int,v.plE a i 1=0->z.P (a+1+i)
def ReachP (s:MkS) (v:Vm) (rs:List Int) (c:MkC) (X:Int->Prop) (a r vi:Int) (s':MkS) (r' vi':Int):Prop:=MarkInv v rs c.n c.R X s'/\Later s s'/\(a≠0->Hs s'.L a)/\r'=r/\vi'=vi
set_option maxRecDepth 100000 in
set_option maxHeartbeats 3200000 in
theorem mk_reach (h:MkAt w SV G SW c v s r vi) (hp:∀ a,Rch v rs a->c.z.Rd v a) (hi:MarkInv v rs c.n c.R X s) {a:Int} (ha:a≠0->Rch v rs a):Calls Tryz.prog 281 #[.pointer (some ⟨c.k,0,none⟩),.int .i64 a] w (MkEnd w SV G SW c v (ReachP s v rs c X a r vi) (¬ Sound v rs c.n)):=by
 have H:=hid h
 have HI:=hid hi
 by_cases h0:a=0
 ·subst h0
  clear h hi ha hp
  go_enter Tryz.func281,Tryz.ntmps281
  go_wp2
  refine bodyPost_end (results_none rfl _ _ _) rfl ?_
  exact MkEnd.ok (Touch.refl _ _) (H.out.up H.out.bB) ⟨HI.out,Later.refl _,fun h=>absurd rfl h,rfl,rfl⟩
 ·have hR:=ha h0
  have HR:=hid hR
  have d0:(a==0)=false:=by simpa using h0
  have c0:=h.row.cell (j:=0) rfl
  have c1:=h.row.cell (j:=1) rfl
  unfold Sp.v at c0
  have HFD:=hid (ext_find h.ext h.tab a)
  unfold tellO at HFD
  have hgd:=hi.mkd.good
  by_cases hs:Hs s.L a
  ·obtain ⟨f1,f2⟩:=find_hs hgd hs
   rw [f2,decide_eq_true f1] at HFD
   have HS:=hid hs
   clear h hi ha hp h0 hR hs hgd f1 f2
   go_enter Tryz.func281,Tryz.ntmps281
   go_wp2_with (go_at_call 168;refine HFD.out.mono ?_;rintro e w1 ⟨rfl,rfl⟩)
   refine bodyPost_end (results_none rfl _ _ _) rfl ?_
   exact MkEnd.ok (Touch.refl _ _) (H.out.up H.out.bB) ⟨HI.out,Later.refl _,fun _=>HS.out,rfl,rfl⟩
  ·have HFN:=hid (fun hf=>find_not hs hf)
   have HNS:=hid hs
   obtain ⟨st,hst⟩:∃ st,st=obS s.L (findO s.L a):=⟨_,rfl⟩
   obtain ⟨sz,hsz⟩:∃ sz,sz=obZ s.L (findO s.L a):=⟨_,rfl⟩
   obtain ⟨fb,hfb⟩:∃ fb,fb=decide (findO s.L a<s.L.length):=⟨_,rfl⟩
   rw [<-hst,<-hsz,<-hfb] at HFD
   rw [<-hst] at HFN
   have HFB:=hid hfb
   have hft:fb=false\/(fb=true/\(st==a)=false):=by
    cases hb:fb with
    | false=>exact .inl rfl
    | true=>exact .inr ⟨rfl,by have:=HFN.out (of_decide_eq_true (HFB.out.symm.trans hb));simpa using this⟩
   have HRD:=hid (fun W (g:Gr w W)=>(sp_read h.zk.1 (h.zk.1.gr h.vm g) a (hp a hR).1).mono fun _ _ hh=>And.intro hh.1 (hh.2.ro h.zk.2))
   unfold Sp.v at HRD
   have hln:s.L.length<=1048576:=Nat.le_trans hgd.len h.ext.nb.2
   have hsn:sizes s.L<=1048576:=Nat.le_trans (sizes_le hgd) h.ext.nb.2
   by_cases hE:v.rdE a=0
   ·have HE:=hid hE
    obtain ⟨-,-,p,f,k,hh,hsm⟩:=rdE_zero hE
    have hpos:=osz_pos hE
    have HSZ:=hid (fun W=>hdr_size ⟨p,f,k⟩ W)
    have ho:v.osz a=hdrN ⟨p,f,k⟩:=by unfold Vm.osz;rw [hh]
    rw [<-ho] at HSZ
    rw [hE,hh] at HRD
    unfold hdrV at HRD HSZ
    obtain ⟨z,hz⟩:∃ z,z=v.osz a:=⟨_,rfl⟩
    rw [<-hz] at HSZ hpos
    have HZ:=hid hz
    have HAD:=hid (fun W (g:Gr w W)=>ext_add (h.ext.gr g) (g.tab h.tab.lt h.tab) a z)
    unfold AddEnd at HAD
    have hsep:=h.sep
    have HT1:=hid (fun (W W':World) (g:Gr w W) (t:Touch (mine c.m c.b1 c.b2) W W') (x:Ext W' c.m c.p1 c.b1 c.p2 c.b2 c.n s.L)=>(⟨MkC.vm h.zk.1 hsep (h.zk.1.gr h.vm g) t (fun i e=>.inr (.inl e)),x,(h.stk.gr g).touch t (fun i hi _ e=>hsep.mg i e hi),(h.wk.gr g).touch t (fun i hi _ e=>hsep.sw i hi (.inr (.inl e))),(h.row.gr g).touch t hsep.k1,t.tab (g.tab h.tab.lt h.tab).lt (fun e=>hsep.tab (.inr (.inl e))) (g.tab h.tab.lt h.tab),hsep,Nat.le_trans h.bB (Nat.le_trans g.size t.size),h.zk⟩:MkAt W' SV G SW c v s r vi))
    by_cases hA:addE s.L c.n a z=0
    ·have HA:=hid hA
     rw [hA] at HAD
     have HMV:=hid (mkrV_add (c:=c) (r:=r) (vi:=vi) hA)
     have hk2:=h.sep.k2
     have HK2:=hid hk2
     have HPU:=hid (hi.push hR hE (by rw [<-hz];exact hA))
     rw [<-hz] at HPU
     have hz1:1<=z:=hpos.2.1
     have hz2:z<=256:=hpos.2.2
     obtain ⟨LN,hLN⟩:∃ LN:Nat,LN=s.L.length:=⟨_,rfl⟩
     obtain ⟨SN,hSN⟩:∃ SN:Nat,SN=sizes s.L:=⟨_,rfl⟩
     rw [<-hLN] at hln HMV
     rw [<-hSN] at hsn HMV
     have HLN:=hid (And.intro hLN hSN)
     clear h hi ha hp h0 hR hs hgd hst hsz hfb hE HFN HFB hh hsm ho hz hA hsep hk2 hpos hLN hSN
     rcases hft with rfl | ⟨rfl,d3⟩
     all_goals
      go_enter Tryz.func281,Tryz.ntmps281
      go_wp2_with (first
       | (go_at_call 168;refine HFD.out.mono ?_;rintro e w1 ⟨rfl,rfl⟩)
       | (go_at_call 121;refine (HRD.out _ (Gr.refl _)).mono ?_;rintro e w1 ⟨rfl,hg1⟩;have HG1:=hid (hg1.alloc (.cells #[.int .i64 p,.int .i64 f,.int .i64 k] 48));clear hg1)
       | (go_at_call 340;(with_reducible refine (mk_need_ok _ _).mono ?_);rintro e w2 ⟨rfl,rfl⟩)
       | (go_at_call 111;refine (HSZ.out _).mono ?_;rintro e w3 ⟨rfl,hg3⟩;have HG3:=hid (HG1.out.trans hg3);have kk1:=(H.out.gr (HG1.out.trans hg3)).row.cell (j:=1) rfl;clear hg3)
       | (go_at_call 293;refine (HAD.out _ HG3.out).mono ?_;rintro e w4 ⟨rfl,ht4,hx4⟩;have HX4:=hid hx4;have HT4:=hid ht4;have HM3:=hid (H.out.gr HG3.out);have HR4:=hid (HM3.out.row.touch ht4 HM3.out.sep.k1);have y2:=HR4.out.cell (j:=2) rfl;have y4:=HR4.out.cell (j:=4) rfl;have y5:=HR4.out.cell (j:=5) rfl;have yf:=HR4.out.free;have HS4:=hid (HM3.out.stk.touch ht4 (fun i hi _ e=>HM3.out.sep.mg i e hi));rw [<-HLN.out.1] at y4;rw [<-HLN.out.2] at y5;clear ht4 hx4)
       | (go_at_call 341;refine (stk_push (HS4.out.set2 HK2.out) a).mono ?_;intro e w5 hp;have hp':(∃ b,e=.returned (.bool b)):=by { rcases hp with ⟨_,rfl,_⟩ | ⟨_,rfl,_⟩ <;> exact ⟨_,rfl⟩ };have HP:=hid hp;obtain ⟨pb,rfl⟩:=hp';clear hp))
      refine bodyPost_end (results_none rfl _ _ _) rfl ?_
      have hmv:=HMV.out
      rw [HLN.out.1,HLN.out.2] at hmv
      have key:∀ st' lost',s.push c.R (addL s.L c.n a z) a=⟨addL s.L c.n a z,st',lost'⟩->Touch G ((w4.setCell ⟨c.k,4,none⟩ (.int .i64 ((s.L.length:Nat)+1))).setCell ⟨c.k,5,none⟩ (.int .i64 ((sizes s.L:Nat)+z))) w5/\StkAt w5 (plus G ((w4.setCell ⟨c.k,4,none⟩ (.int .i64 ((s.L.length:Nat)+1))).setCell ⟨c.k,5,none⟩ (.int .i64 ((sizes s.L:Nat)+z)))) c.g st' c.R lost'->MkEnd w SV G SW c v (ReachP s v rs c X a r vi) (¬ Sound v rs c.n) (.returned (.tuple #[])) w5:=fun st' lost' hpe ⟨ht5,hs5⟩=>by
       obtain ⟨q1,q2,q3⟩:=HPU.out
       rw [hpe] at q1 q2 q3
       obtain ⟨m5,t5⟩:=HM3.out.pushed HT4.out HX4.out ht5 hs5 hmv
       exact MkEnd.ok ((HG3.out.touch _).trans t5) (m5.sub (fun i hi=>hi.imp id (fun h'=>Nat.le_trans HG3.out.size h')) (H.out.sep.plus H.out.bB)) ⟨q1,q2,fun _=>q3,rfl,rfl⟩
      rcases HP.out with ⟨hf,-,ht5,hs5⟩ | ⟨hf,-,ht5,hs5⟩
      ·refine key s.st true (if_neg (by omega)) ⟨?_,?_⟩
       ·rw [HLN.out.1,HLN.out.2] at ht5;exact ht5
       ·rw [HLN.out.1,HLN.out.2] at hs5;exact hs5
      ·refine key (s.st++[a]) s.lost (if_pos hf) ⟨?_,?_⟩
       ·rw [HLN.out.1,HLN.out.2] at ht5;exact ht5
       ·rw [HLN.out.1,HLN.out.2] at hs5;exact hs5
    ·obtain ⟨y,hy⟩:∃ y,y=addE s.L c.n a z:=⟨_,rfl⟩
     have d2:(y==0)=false:=by rw [hy];simpa using hA
     have HAE:=hid hA
     have HY:=hid hy
     clear h hi ha hp h0 hR hs hgd hst hsz hfb hE HFN HFB hh hsm ho hz hA hy hsep
     rcases hft with rfl | ⟨rfl,d3⟩
     all_goals
      go_enter Tryz.func281,Tryz.ntmps281
      go_wp2_with (first
       | (go_at_call 168;refine HFD.out.mono ?_;rintro e w1 ⟨rfl,rfl⟩)
       | (go_at_call 121;refine (HRD.out _ (Gr.refl _)).mono ?_;rintro e w1 ⟨rfl,hg1⟩;have HG1:=hid (hg1.alloc (.cells #[.int .i64 p,.int .i64 f,.int .i64 k] 48));clear hg1)
       | (go_at_call 340;(with_reducible refine (mk_need_no HM4.out).mono ?_);rintro e w2 ⟨rfl,rfl⟩)
       | (go_at_call 340;(with_reducible refine (mk_need_ok _ _).mono ?_);rintro e w2 ⟨rfl,rfl⟩)
       | (go_at_call 111;refine (HSZ.out _).mono ?_;rintro e w3 ⟨rfl,hg3⟩;have HG3:=hid (HG1.out.trans hg3);have kk1:=(H.out.gr (HG1.out.trans hg3)).row.cell (j:=1) rfl;clear hg3)
       | (go_at_call 293;refine (HAD.out _ HG3.out).mono ?_;rintro e w4 ⟨rfl,ht4,hx4⟩;rw [<-HY.out];have HT4:=hid ((HG3.out.touch (c.T G)).trans (ht4.mono (fun i _ hi=>.inr (.inl hi))));have HM4:=hid (HT1.out _ _ HG3.out ht4 (by rw [show addL s.L c.n a z=s.L from if_neg HAE.out] at hx4;exact hx4));clear ht4 hx4))
      exact ⟨rfl,MkEnd.no HT4.out (HM4.out.up H.out.bB) (HI.out.mkd.fail HR.out HNS.out (by rw [<-HZ.out];exact HAE.out))⟩
   ·have HE:=hid hE
    obtain ⟨y,hy⟩:∃ y,y=v.rdE a:=⟨_,rfl⟩
    have d2:(y==0)=false:=by rw [hy];simpa using hE
    rw [<-hy] at HRD
    unfold hdrV at HRD
    clear h hi ha hp h0 hR hs hgd hst hsz hfb hE hy HFN HFB
    rcases hft with rfl | ⟨rfl,d3⟩
    all_goals
     go_enter Tryz.func281,Tryz.ntmps281
     go_wp2_with (first
      | (go_at_call 168;refine HFD.out.mono ?_;rintro e w1 ⟨rfl,rfl⟩)
      | (go_at_call 121;refine (HRD.out _ (Gr.refl _)).mono ?_;rintro e w1 ⟨rfl,hg1⟩;have HG1:=hid hg1;clear hg1)
      | (go_at_call 340;refine (mk_need_no (H.out.gr (HG1.out.alloc _))).mono ?_;rintro e w2 ⟨rfl,rfl⟩))
     exact ⟨rfl,MkEnd.no ((HG1.out.alloc _).touch _) ((H.out.gr (HG1.out.alloc _)).up H.out.bB) (not_sound_rd HR.out HE.out)⟩
def VisitP (s:MkS) (v:Vm) (rs:List Int) (c:MkC) (X:Int->Prop) (a r:Int) (s':MkS) (r' _vi':Int):Prop:=MarkInv v rs c.n c.R X s'/\Later s s'/\Cl v s'.L a/\r'=r
set_option maxRecDepth 100000 in
set_option maxHeartbeats 3200000 in
theorem mk_visit (h:MkAt w SV G SW c v s r vi) (hp:∀ a,Rch v rs a->c.z.Rd v a) (hi:MarkInv v rs c.n c.R X s) {a:Int} (ha:Hs s.L a):Calls Tryz.prog 286 #[.pointer (some ⟨c.k,0,none⟩),.int .i64 a] w (MkEnd w SV G SW c v (VisitP s v rs c X a r) (¬ Sound v rs c.n)):=by
 have H:=hid h
 have HI:=hid hi
 obtain ⟨hR,hE⟩:=hi.mkd.hs ha
 obtain ⟨-,-,p,f,k,hh,hsm⟩:=rdE_zero hE
 have HR:=hid (And.intro hR (And.intro hE hh))
 have HPR:=hid (hp a hR)
 have HRD:=hid (fun W (g:Gr w W)=>(sp_read h.zk.1 (h.zk.1.gr h.vm g) a (hp a hR).1).mono fun _ _ hh=>And.intro hh.1 (hh.2.ro h.zk.2))
 have HP:=hid hp
 rw [hE,hh] at HRD
 unfold Sp.v hdrV at HRD
 have c0:=h.row.cell (j:=0) rfl
 unfold Sp.v at c0
 have HN:=hid (Rec.new w 48 [.int .i64 p,.int .i64 f,.int .i64 k])
 clear h hi ha hp hR hE hh
 go_enter Tryz.func286,Tryz.ntmps286
 go_wp2_with (first
  | (go_at_call 121;refine (HRD.out _ (Gr.refl _)).mono ?_;rintro e w1 ⟨rfl,hg1⟩;have HG1:=hid (hg1.alloc (.cells #[.int .i64 p,.int .i64 f,.int .i64 k] 48));clear hg1)
  | (go_at_call 340;(with_reducible refine (mk_need_ok _ _).mono ?_);rintro e w2 ⟨rfl,rfl⟩))
 go_loopw [24] (fun s24 wr=>∃ (j:Nat) (s':MkS) (r' vi':Int),j<=p/\Hid (MkAt wr SV (plus G w) SW c v s' r' vi')/\Hid (Touch (c.T G) w wr)/\Hid (MarkInv v rs c.n c.R X s'/\Later s s'/\ClN v s'.L a j/\r'=r)/\s24=.int .i64 j) (fun s24 _=>p-(intOf s24).toNat)
 case atStart=>exact ⟨0,s,r,vi,by omega,⟨(H.out.gr HG1.out).up H.out.bB⟩,⟨HG1.out.touch _⟩,⟨HI.out,Later.refl _,fun i hi=>by omega,rfl⟩,rfl⟩
 case round=>
  obtain ⟨j,s',r',vi',hj,HM,HT,HJ,rfl⟩:=hrel
  have k0:=HM.out.row.cell (j:=0) rfl
  have k7:=HM.out.row.cell (j:=7) rfl
  have kf:=HM.out.row.free 7
  unfold Sp.v at k0
  clear c0
  by_cases hlast:j=p
  ·subst hlast
   go_wp2
   refine bodyPost_end (results_none rfl _ _ _) rfl ?_
   obtain ⟨q1,q2,q3,q4⟩:=HJ.out
   exact MkEnd.ok (HT.out.trans (touch_k 7 _)) (HM.out.set (r':=r') (vi':=wrap64 (vi' + 1)) rfl) ⟨q1,q2,q3.cl (by rw [HR.out.2.2];exact Int.le_refl _),q4⟩
  ·have hjl:(j:Int)<(p:Int):=by omega
   have HPT:=hid ((sp_pointer HM.out.zk.1 HM.out.vm a (j:Int) HPR.out.1 (HPR.out.2 _)).mono fun _ _ hh=>And.intro hh.1 (hh.2.ro HM.out.zk.2))
   unfold Sp.v at HPT
   have HRP:Hid (v.ptE a j=0->((v.ptV a j:Nat):Int)≠0->Rch v rs (v.ptV a j:Nat)):=⟨fun h1 h2=>HR.out.1.step ⟨HR.out.2.1,j,by rw [HR.out.2.2];exact hjl,h1,by omega,rfl⟩⟩
   have HJL:=hid (And.intro hj hlast)
   clear hj hlast
   by_cases hpt:v.ptE a j=0
   ·have HP0:=hid hpt
    rw [hpt] at HPT
    obtain ⟨x,hx⟩:∃ x,x=v.ptV a j:=⟨_,rfl⟩
    rw [<-hx] at HPT HRP
    have HXX:=hid hx
    clear hpt hx
    go_wp2_with (first
     | (go_at_call 132;refine HPT.out.mono ?_;rintro e w2 ⟨rfl,hg2⟩;have HM2:=hid (HM.out.gr hg2);have HT2:=hid (HT.out.trans (hg2.touch _));clear hg2)
     | (go_at_call 340;(with_reducible refine (mk_need_ok _ _).mono ?_);rintro e w3 ⟨rfl,rfl⟩)
     | (go_at_call 281;refine (mk_reach HM2.out HP.out HJ.out.1 (HRP.out HP0.out)).mono ?_;rintro e w4 ⟨ht4,(⟨rfl,s4,r4,vi4,hm4,hp4⟩ | ⟨rfl,hp4,s4,r4,vi4,hm4⟩)⟩ <;> (have HT4:=hid (touch_plus HT2.out ht4);have HM4:=hid (hm4.back HT2.out.size H.out.sep H.out.bB);have HP4:=hid hp4;clear ht4 hm4 hp4)))
    ·go_round
     case rel=>
      obtain ⟨q1,q2,q3,q4⟩:=HJ.out
      obtain ⟨p1,p2,p3,p4,p5⟩:=HP4.out
      refine ⟨j+1,s4,r4,vi4,by have:=HJL.out;omega,HM4,HT4,⟨p1,q2.trans p2,(q3.mono p2.sub).succ HP0.out (fun h0=>?_),p4.trans q4⟩,by go_num⟩
      rw [<-HXX.out] at h0 ⊢
      exact p3 (by omega)
     case measure=>have:=HJL.out;simp [intOf];omega
    ·exact ⟨rfl,MkEnd.no HT4.out HM4.out HP4.out⟩
   ·have HP0:=hid hpt
    obtain ⟨y,hy⟩:∃ y,y=v.ptE a j:=⟨_,rfl⟩
    have d2:(y==0)=false:=by rw [hy];simpa using hpt
    rw [<-hy] at HPT
    clear hpt hy
    go_wp2_with (first
     | (go_at_call 132;refine HPT.out.mono ?_;rintro e w2 ⟨rfl,hg2⟩;have HM2:=hid (HM.out.gr hg2);have HT2:=hid (HT.out.trans (hg2.touch _));clear hg2)
     | (go_at_call 340;(with_reducible refine (mk_need_no HM2.out).mono ?_);rintro e w3 ⟨rfl,rfl⟩))
    exact ⟨rfl,MkEnd.no HT2.out HM2.out (not_sound_pt HR.out.1 (by rw [HR.out.2.2];exact hjl) HP0.out)⟩
end
end Go.Proofs.YthgdadohijgleaaGreatDoor
end
section
namespace Go.Proofs.YthgdadohijgleaaGreatDoor
open Go.RowKit Go.Shelf Word
attribute [local go_sem] Oper.semAt_some
def stsL (L:List Ob) (j:Nat):List Value:=zs ((L.take j).map fun o=>(o.1:Int))
theorem stsL_succ {L:List Ob} {j:Nat} (h:j<L.length):stsL L (j+1)=stsL L j++[.int .i64 (L[j].1:Nat)]:=by
 unfold stsL zs
 rw [List.take_succ_eq_append_getElem h,List.map_append,List.map_append]
 rfl
theorem own_base {w:World} {b b' E size:Nat} {v:Value} {n:Nat} {xs:List Value} (h:w.ownsRow b E size v n xs) (hb:b'<=b):w.ownsRow b' E size v n xs:=by
 obtain ⟨h1,h2⟩:=h
 refine ⟨h1,h2.imp id ?_⟩
 rintro ⟨g,cap,cur,e1,e2,e3⟩
 exact ⟨g,cap,cur,e1,Nat.le_trans hb e2,e3⟩
structure StI (W0:World) (B:Nat) (L:List Ob) (j:Nat) (A:World):Prop where
 t:Touch (fun i=>i=B\/W0.heap.size<=i) W0 A
 jl:j<=L.length
 f0:A.frozen? ⟨B,0,none⟩=false
 row:∃ vL,A.cell? ⟨B,0,none⟩=some vL/\A.ownsRow (W0.heap.size+6) 3 1 vL j (stsL L j)
def StartsEnd (w:World) (L:List Ob) (e:Ending) (w':World):Prop:=∃ vL,e=.returned vL/\Gr w w'/\w'.ownsRow w.heap.size 3 1 vL L.length (stsL L L.length)
set_option maxRecDepth 100000 in
set_option maxHeartbeats 3200000 in
theorem mk_starts {w:World} {k m p1 b1 p2 b2 n:Nat} {L:List Ob} (hE:Ext w m p1 b1 p2 b2 n L) (hT:TabAt w) (c1:w.cell? ⟨k,1,none⟩=some (.pointer (some ⟨m,0,none⟩))):
  Calls Tryz.prog 285 #[.pointer (some ⟨k,0,none⟩)] w (StartsEnd w L):=by
 have HE:=hid hE
 have HT:=hid hT
 have hkl:=lt_cell c1
 clear hE hT
 refine (callsIn_wide (n:=5)).1 ?_
 refine callsIn_of_wp_marks Tryz.func285 rfl trivial ?_ rfl
 simp only [Tryz.ntmps285,List.size_toArray,List.length_cons,List.length_nil,Nat.reduceAdd,Nat.reduceSub,Array.replicate_succ,Array.replicate_zero,List.push_toArray,List.append_toArray,List.nil_append,List.cons_append]
 gi_wp2_with (refine ⟨trivial,?_⟩;gi_at_call 203;refine (callsIn_wide.2 (all_call (some ⟨m,0,none⟩))).mono ?_;rintro e w1 ⟨rfl,rfl⟩)
 obtain ⟨W2,hW2⟩:∃ W2,W2=w.alloc (.cells #[.slice none 0 0] 40):=⟨_,rfl⟩
 have hb1:Boxed W2 w.heap.size 40 (.slice none 0 0):=by rw [hW2];exact Boxed.new w _ _
 have hg2:Gr w W2:=by rw [hW2];exact (Gr.refl w).alloc _
 have hs2:W2.heap.size=w.heap.size+1:=by rw [hW2];simp
 rw [<-hW2]
 obtain ⟨W0,hW0⟩:∃ W0,W0=W2.alloc (.cells #[.pointer (some ⟨m,0,none⟩)] 155):=⟨_,rfl⟩
 have hg0:Gr w W0:=by rw [hW0];exact hg2.alloc _
 have hsz:W0.heap.size=w.heap.size+2:=by rw [hW0];simp;omega
 have k1:Boxed W0 w.heap.size 40 (.slice none 0 0):=by rw [hW0];exact hb1.alloc _
 have k4:W0.cell? ⟨w.heap.size+1,0,none⟩=some (.pointer (some ⟨m,0,none⟩)):=by
  rw [hW0]
  have:=(Boxed.new W2 155 (.pointer (some ⟨m,0,none⟩))).cell
  rwa [hs2] at this
 rw [<-hW0]
 have hEw:=HE.out
 have o1:=hEw.hm
 have o2:=hEw.v1.hp
 have o3:=hEw.v1.hb
 have o4:=hEw.v2.hp
 have o5:=hEw.v2.hb
 have o6:=HT.out.lt
 have hnb:=hEw.nb
 have hgood:=hEw.good
 have hlen:=hgood.len
 clear hW2 hW0 hg2 hs2 hb1 hEw
 obtain ⟨ii,hii,hi0,hi1,hi2⟩:=info_parts infoIntV
 have tI:∀ j A B,StI W0 w.heap.size L j A->Touch (fun i=>W0.heap.size<=i/\i<W0.heap.size+2+4) A B->StI W0 w.heap.size L j B:=fun j A B h t=>by
  have ht:=h.t.size
  obtain ⟨vL,hc,ho⟩:=h.row
  exact ⟨h.t.trans (t.mono (fun i _ h=>.inr h.1)),h.jl,(t.frozen (by omega) (by show ¬ (W0.heap.size<=w.heap.size/\_);omega) 0).trans h.f0,vL,(t.cell (by omega) (by show ¬ (W0.heap.size<=w.heap.size/\_);omega) 0).trans hc,own_touch ho t (fun g hg h=>by have:=(own_lt ho hg).1;omega)⟩
 refine range_lawU (K:=4) (s0:=0) rfl (by omega) (gf:=294) (lb:=#[.pointer (some ⟨w.heap.size+1,0,none⟩)]) rfl trivial (enters_of Tryz.func294 (by kernel_rfl) rfl)
  (all_seqU _ (w.heap.size+1) m p1 b1 p2 b2 n L _) (fun _=>rfl)
  (StI W0 w.heap.size L) (fun _ _=>False) tI (fun _ _ _ h _=>h)
  (fun j A h=>⟨(HE.out.gr hg0).touch h.t (by omega) (by omega) (by omega) (by omega) (by omega),(hg0.tab o6 HT.out).touch' h.t (by omega),(h.t.cell (by omega) (by omega) 0).trans k4,h.jl⟩)
  ⟨Touch.refl _ _,Nat.zero_le _,k1.frozen,_,k1.cell,own_nil _ _ _ _⟩ ?round ?done ?stop
 case round=>
  intro lp j x W3 hsz3 hI3 hgv
  dsimp only [encO]
  gi_wp2
  refine ⟨Gr.refl _,fun W4 ht4 hI4=>?_⟩
  have hjl:j<L.length:=by
   rcases Nat.lt_or_ge j L.length with h | h
   ·exact h
   ·unfold AllGives at hgv;rw [List.getElem?_eq_none h] at hgv;cases hgv
  obtain rfl:x=L[j]:=by unfold AllGives at hgv;rw [List.getElem?_eq_getElem hjl] at hgv;exact (Option.some.inj hgv).symm
  have hsu:=stsL_succ hjl
  obtain ⟨y,hy⟩:∃ y,y=L[j].1:=⟨_,rfl⟩
  rw [<-hy] at hsu ⊢
  obtain ⟨vL,hc,ho⟩:=hI4.row
  have hf0:=hI4.f0
  have hsz4:W0.heap.size+6<=W4.heap.size:=by have:=ht4.size;omega
  have HI4:=hid hI4
  have HO:=hid ho
  have HSU:=hid hsu
  clear hI3 hI4 hsu hy ho hgv ht4
  gi_wp2_with (gi_at_builtin;refine wpListIn_append_own _ rfl _ _ 40 rfl (W0.heap.size+6) 3 ii _ 1 8 Tryz.underlying40 hii hi0 hi1 hi2 rfl (by decide) _ _ _ rfl (HO.out.alloc _) ⟨W4.heap.size,0,none⟩ 1 1 [.int .i64 (y:Nat)] rfl rfl (cell_one_new _ _ _) (by simp [Value.oneCell']) (by unfold maxLen;omega) (by omega) (by simp;omega) ?_;intro v' w5 hown' hgrow _;obtain ⟨A5,c5,rfl,-,-⟩:=own_shape hown';have t5:Touch (fun i=>W0.heap.size+6<=i) W4 w5:=((((Gr.refl W4).alloc _).touch _)).trans (grown_touch hgrow _ (fun i e _=>(own_lt HO.out e).1));have hc5:=(t5.cell (b:=w.heap.size) (by omega) (by omega) 0).trans hc;have hf5:=(t5.frozen (b:=w.heap.size) (by omega) (by omega) 0).trans hf0;have HO5:=hid hown';have HT5:=hid t5;clear hown' hgrow t5)
  have tt:Touch (fun i=>i=w.heap.size\/W0.heap.size+6<=i) W4 (w5.setCell ⟨w.heap.size,0,none⟩ (.slice A5 (j+1) c5)):=(HT5.out.mono (fun i _ h=>.inr h)).setCell (a:=⟨w.heap.size,0,none⟩) (fun _=>.inl rfl) _
  refine ⟨tt.mono (fun i _ h=>by omega),j+1,rfl,⟨HI4.out.t.trans (tt.mono (fun i _ h=>h.imp id (fun h=>by omega))),hjl,by rw [World.frozen?_setCell];exact hf5,_,World.cell?_setCell_same' w5 ⟨w.heap.size,0,none⟩ _ (by rw [hc5];rfl),?_⟩⟩
  rw [HSU.out]
  exact own_set_other HO5.out _ (fun g hg=>by have:=(own_lt HO5.out hg).1;omega)
 case done=>
  rintro D j W3 hD rfl hI3 hK
  obtain ⟨vL,hc,ho⟩:=hI3.row
  have HO:=hid ho
  have HK:=hid hK
  have HD:=hid hD
  have HI3:=hid hI3
  have hs3:=hI3.t.size
  clear ho hK hD hI3
  gi_wp2
  refine ⟨by simp,.inl ⟨_,_,rfl,run_takeDeferred HK.out,?_⟩⟩
  refine ⟨_,results_tmp rfl _ _ _,vL,rfl,(((hg0.touch (fun _=>False)).trans' HI3.out.t (fun i hi h=>by omega)).trans' (touch_put1 W3 D _) (fun i hi h=>by have:=HD.out;omega)).gr,?_⟩
  exact own_base (own_touch HO.out (touch_put1 W3 D _) (fun g hg h=>by have:=(own_lt HO.out hg).1;have:=HD.out;omega)) (by omega)
 case stop=>
  rintro D c W3 hD h hK
  exact h.elim
end Go.Proofs.YthgdadohijgleaaGreatDoor
end
section
namespace Go.Proofs.YthgdadohijgleaaGreatDoor
open Go.RowKit Word
def NilOk (s:MkS) (r vi:Int):Prop:=s.L=[]->r=1/\vi=0
theorem MkAt.popped {w w':World} {SV G SW:Nat->Prop} {c:MkC} {v:Vm} {L:List Ob} {st st':List Int} {lost lost':Bool} {r vi:Int} (h:MkAt w SV G SW c v ⟨L,st,lost⟩ r vi) (t:Touch G w w') (s':StkAt w' G c.g st' c.R lost'):MkAt w' SV G SW c v ⟨L,st',lost'⟩ r vi:=by
 have hs:=h.sep
 have hk5:¬ G c.k:=hs.k2
 exact ⟨MkC.vm h.zk.1 hs h.vm t (fun i e=>.inr (.inr e)),h.ext.touch t (hs.mg _ (.inl rfl)) (fun e=>hs.p1 (.inr (.inr e))) (hs.mg _ (.inr (.inl rfl))) (fun e=>hs.p2 (.inr (.inr e))) (hs.mg _ (.inr (.inr rfl))),s',h.wk.touch t (fun i hi _ e=>hs.sw i hi (.inr (.inr e))),h.row.touch t hk5,t.tab h.tab.lt (fun e=>hs.tab (.inr (.inr e))) h.tab,hs,Nat.le_trans h.bB t.size,h.zk⟩
def PopS (st st':List Int) (a:Int) (b:Bool):Prop:=(b=true/\st=st'++[a])\/(b=false/\st=[]/\st'=[])
def PopM (w:World) (SV G SW:Nat->Prop) (c:MkC) (v:Vm) (s:MkS) (r vi:Int) (e:Ending) (w':World):Prop:=∃ a b st',e=.returned (.tuple #[.int .i64 a,.bool b])/\Touch (c.T G) w w'/\MkAt w' SV G SW c v ⟨s.L,st',s.lost⟩ r vi/\PopS s.st st' a b
section
variable {w:World} {SV G SW:Nat->Prop} {c:MkC} {v:Vm} {s:MkS} {r vi:Int} {X:Int->Prop} {rs:List Int}
theorem mk_pop (h:MkAt w SV G SW c v s r vi):Calls Tryz.prog 342 #[.pointer (some ⟨c.g,0,none⟩)] w (PopM w SV G SW c v s r vi):=by
 refine (stk_pop h.stk).mono ?_
 rintro e w' (⟨h0,rfl,rfl⟩ | ⟨l',a,h0,rfl,ht,hs⟩)
 ·refine ⟨0,false,[],rfl,Touch.refl _ _,?_,.inr ⟨rfl,h0,rfl⟩⟩
  rw [<-h0];exact h
 ·exact ⟨a,true,l',rfl,ht.mono (fun i _ hi=>.inr (.inr hi)),MkAt.popped (L:=s.L) (st:=s.st) (lost:=s.lost) h ht hs,.inl ⟨rfl,h0⟩⟩
def DrS (v:Vm) (rs:List Int) (c:MkC) (X:Int->Prop) (s:MkS) (a:Int) (b:Bool) (k:Nat):Prop:=
 ((b=false/\s.st=[]/\MarkInv v rs c.n c.R X s)\/(b=true/\Hs s.L a/\MarkInv v rs c.n c.R (fun x=>X x\/x=a) s))/\2*c.n+s.st.length+(if b then 1 else 0)<=2*s.L.length+k
theorem DrS.of {s:MkS} (h:MarkInv v rs c.n c.R X s) {st':List Int} {a:Int} {b:Bool} (hp:PopS s.st st' a b) {k:Nat} (hk:2*c.n+s.st.length<=2*s.L.length+k):DrS v rs c X ⟨s.L,st',s.lost⟩ a b k:=by
 rcases hp with ⟨rfl,h1⟩ | ⟨rfl,h1,rfl⟩
 ·have h':MarkInv v rs c.n c.R X ⟨s.L,st'++[a],s.lost⟩:=by rw [<-h1];exact h
  refine ⟨.inr ⟨rfl,h'.pop.2,h'.pop.1⟩,?_⟩
  rw [h1] at hk
  simp at hk ⊢
  omega
 ·refine ⟨.inl ⟨rfl,rfl,by rw [<-h1];exact h⟩,?_⟩
  rw [h1] at hk
  simpa using hk
def DrainP (s:MkS) (v:Vm) (rs:List Int) (c:MkC) (X:Int->Prop) (r vi:Int) (s':MkS) (r' vi':Int):Prop:=MarkInv v rs c.n c.R X s'/\Later s s'/\s'.st=[]/\(NilOk s r vi->NilOk s' r' vi')
theorem later_pop {s t:MkS} {st':List Int} {a:Int} {b:Bool} (h:Later s t) (hp:PopS t.st st' a b):Later s ⟨t.L,st',t.lost⟩:=by
 refine ⟨h.sub,h.len,h.los,?_⟩
 have:=h.mea
 rcases hp with ⟨-,h1⟩ | ⟨-,h1,rfl⟩
 ·rw [h1] at this;simp at this;show 2*s.L.length+st'.length<=2*t.L.length+s.st.length;omega
 ·rw [h1] at this;exact this
theorem hs_ne {L:List Ob} {a:Int} (h:Hs L a):L≠[]:=by
 rintro rfl
 obtain ⟨o,ho,-⟩:=h
 cases ho
set_option maxRecDepth 100000 in
set_option maxHeartbeats 3200000 in
theorem mk_drain (h:MkAt w SV G SW c v s r vi) (hp:∀ a,Rch v rs a->c.z.Rd v a) (hi:MarkInv v rs c.n c.R X s):Calls Tryz.prog 282 #[.pointer (some ⟨c.k,0,none⟩)] w (MkEnd w SV G SW c v (DrainP s v rs c X r vi) (¬ Sound v rs c.n)):=by
 have H:=hid h
 have HI:=hid hi
 have c2:=h.row.cell (j:=2) rfl
 have HP:=hid hp
 clear h hi hp
 go_enter Tryz.func282,Tryz.ntmps282
 go_wp2_with (go_at_call 342;refine (mk_pop H.out).mono ?_;rintro e w1 ⟨a0,b0,st0,rfl,ht1,hm1,hp1⟩;have HT1:=hid ht1;have HM1:=hid (hm1.up (w:=w) H.out.bB);have HP1:=hid hp1;clear ht1 hm1 hp1)
 go_loopg [2,3] (2*c.n+s.st.length) (fun k s2 s3 wr=>∃ (a:Int) (b:Bool) (s':MkS) (r' vi':Int),s2=.int .i64 a/\s3=.bool b/\Hid (MkAt wr SV (plus G w) SW c v s' r' vi')/\Hid (Touch (c.T G) w wr)/\Hid (Later s s'/\(NilOk s r vi->NilOk s' r' vi')/\DrS v rs c X s' a b k))
 case atStart=>
  refine ⟨a0,b0,_,r,vi,rfl,rfl,HM1,HT1,⟨later_pop (Later.refl _) HP1.out,fun h=>h,DrS.of HI.out HP1.out (by omega)⟩⟩
 case round=>
  obtain ⟨a,b,s',r',vi',rfl,rfl,HM,HT,HJ⟩:=hrel
  clear c2
  have k2:=HM.out.row.cell (j:=2) rfl
  cases b with
  | false=>
   go_wp2
   refine bodyPost_end (results_none rfl _ _ _) rfl ?_
   obtain ⟨q1,q2,q3,-⟩:=HJ.out
   rcases q3 with ⟨-,h1,h2⟩ | ⟨h1,-⟩
   ·exact MkEnd.ok HT.out HM.out ⟨h2,q1,h1,q2⟩
   ·cases h1
  | true=>
   have HA:Hid (Hs s'.L a/\MarkInv v rs c.n c.R (fun x=>X x\/x=a) s'/\2*c.n+s'.st.length+1<=2*s'.L.length+gk):=⟨by
    obtain ⟨q1,q2,q3,q4⟩:=HJ.out
    rcases q3 with ⟨h1,-⟩ | ⟨-,h1,h2⟩
    ·cases h1
    ·exact ⟨h1,h2,q4⟩⟩
   go_wp2_with (first
    | (go_at_call 286;refine (mk_visit HM.out HP.out HA.out.2.1 HA.out.1).mono ?_;rintro e w4 ⟨ht4,(⟨rfl,s4,r4,vi4,hm4,hp4⟩ | ⟨rfl,hp4,s4,r4,vi4,hm4⟩)⟩ <;> (have HT4:=hid (touch_plus HT.out ht4);have HM4:=hid (hm4.back HT.out.size H.out.sep H.out.bB);have HP4:=hid hp4;have k4:=hm4.row.cell (j:=2) rfl;clear ht4 hm4 hp4))
    | (go_at_call 342;refine (mk_pop HM4.out).mono ?_;rintro e w5 ⟨a5,b5,st5,rfl,ht5,hm5,hp5⟩;have HT5:=hid (touch_plus HT4.out ht5);have HM5:=hid hm5;have HP5:=hid hp5;clear ht5 hm5 hp5))
   ·have hgk:1<=gk:=by
     have:=HA.out.2.2
     have:=HA.out.2.1.mkd.good.len
     omega
    go_roundg (gk-1)
    case measure=>omega
    case rel=>
     obtain ⟨q1,q2,-⟩:=HJ.out
     obtain ⟨p1,p2,p3,p4⟩:=HP4.out
     have hme:=HA.out.2.2
     have hm4:=p2.mea
     refine ⟨a5,b5,_,r4,vi4,rfl,rfl,HM5,HT5,⟨later_pop (q1.trans p2) HP5.out,fun _ h0=>absurd h0 (hs_ne (p2.sub a HA.out.1)),DrS.of (p1.done p3 (fun x hx=>hx)) HP5.out (by omega)⟩⟩
   ·exact ⟨rfl,MkEnd.no HT4.out HM4.out HP4.out⟩
end
end Go.Proofs.YthgdadohijgleaaGreatDoor
end
section
namespace Go.Proofs.YthgdadohijgleaaGreatDoor
open Go.RowKit Word
theorem MkAt.cut {w:World} {SV G SW:Nat->Prop} {c:MkC} {v:Vm} {s:MkS} {r vi:Int} (h:MkAt w SV G SW c v s r vi):MkAt w SV (cutS G w) SW c v s r vi:=by
 have hs:=h.sep
 have key:∀ i,i<c.B/\¬ c.T G i->i<c.B/\¬ c.T (cutS G w) i:=fun i hi=>⟨hi.1,fun ht=>hi.2 (ht.imp id (fun h=>h.imp id (fun h=>h.1)))⟩
 exact ⟨h.vm,h.ext,h.stk.cut,h.wk,h.row,h.tab,⟨fun i hi=>key i (hs.sv' i hi),fun i hi=>key i (hs.sw' i hi),key _ hs.tab',key _ hs.p1',key _ hs.p2',hs.k1,fun h=>hs.k2 h.1,hs.kB,fun i hi h=>hs.mg i hi h.1,hs.mB,fun i hi=>key i (hs.sd' i hi)⟩,h.bB,h.zk⟩
def fromS (L:List Ob) (j:Nat) (a:Int):Prop:=∃ o∈L.drop j,(o.1:Int)=a
theorem fromS_zero {L:List Ob} {a:Int} (h:Hs L a):fromS L 0 a:=h
theorem fromS_succ {L:List Ob} {j:Nat} (h:j<L.length) {a:Int} (ha:fromS L j a):fromS L (j+1) a\/a=(L[j].1:Int):=by
 obtain ⟨o,ho,rfl⟩:=ha
 rw [List.drop_eq_getElem_cons h] at ho
 rcases List.mem_cons.1 ho with rfl | ho
 ·exact .inr rfl
 ·exact .inl ⟨o,ho,rfl⟩
theorem fromS_end {L:List Ob} (a:Int):¬ fromS L L.length a:=by
 rintro ⟨o,ho,-⟩
 rw [List.drop_length] at ho
 cases ho
theorem MarkInv.found {v:Vm} {rs:List Int} {n R:Nat} {X:Int->Prop} {s:MkS} (h:MarkInv v rs n R X s):MarkInv v rs n R (fromS s.L 0) ⟨s.L,s.st,false⟩:=⟨h.mkd,h.st,h.r,fun _ ha=>.inr (.inr (.inr (fromS_zero ha)))⟩
section
variable {w:World} {SV G SW:Nat->Prop} {c:MkC} {v:Vm} {rs:List Int}
def s0:MkS:=⟨[],[],false⟩
def RunI (v:Vm) (rs:List Int) (c:MkC) (j:Nat) (s:MkS) (r vi:Int):Prop:=MarkInv v rs c.n c.R (fun _=>False) s/\s.st=[]/\(∀ x∈rs.take j,x≠0->Hs s.L x)/\NilOk s r vi/\(s.lost=true->s.L≠[])
def RunP (v:Vm) (rs:List Int) (c:MkC) (s:MkS) (r vi:Int):Prop:=Marks v rs c.n s.L/\NilOk s r vi
set_option maxRecDepth 100000 in
set_option maxHeartbeats 6400000 in
theorem mk_run (h:MkAt w SV G SW c v s0 0 0) (hp:∀ a,Rch v rs a->c.z.Rd v a) {A:Option Addr} {cp:Nat} (hA:IntsOff (c.T G) w A rs) (hlen:rs.length<=maxLen):
  Calls Tryz.prog 192 #[.pointer (some ⟨c.k,0,none⟩),.slice A rs.length cp] w (MkEnd w SV G SW c v (RunP v rs c) (¬ Sound v rs c.n)):=by
 have H:=hid h
 have HA:=hid hA
 have HP:=hid hp
 have c6:=h.row.cell (j:=6) rfl
 have kf:=h.row.free 6
 obtain ⟨N,hN⟩:∃ N,N=rs.length:=⟨_,rfl⟩
 rw [<-hN] at hlen ⊢
 have HN:=hid hN
 unfold maxLen at hlen
 clear h hA hN hp
 go_enter Tryz.func192,Tryz.ntmps192
 go_wp2
 have HM1:Hid (MkAt (w.setCell ⟨c.k,6,none⟩ (.int .i64 1)) SV (plus G w) SW c v s0 1 0):=⟨(H.out.set (r':=1) (vi':=0) rfl).up H.out.bB⟩
 have HT1:Hid (Touch (c.T G) w (w.setCell ⟨c.k,6,none⟩ (.int .i64 1))):=⟨touch_k 6 _⟩
 obtain ⟨w1,hw1⟩:∃ w1,w1=w.setCell ⟨c.k,6,none⟩ (.int .i64 1):=⟨_,rfl⟩
 rw [<-hw1] at HM1 HT1 ⊢
 clear c6 kf hw1
 go_loopw [14] (fun s14 wr=>∃ (j:Nat) (s:MkS) (r vi:Int),j<=N/\Hid (MkAt wr SV (plus G w) SW c v s r vi)/\Hid (Touch (c.T G) w wr)/\Hid (RunI v rs c j s r vi)/\s14=.int .i64 j) (fun s14 _=>N-(intOf s14).toNat)
 case atStart=>exact ⟨0,s0,1,0,Nat.zero_le _,HM1,HT1,⟨⟨Mk.nil _ _ _,(fun _ h=>by cases h),Nat.zero_le _,(fun a ha=>absurd rfl (hs_ne ha))⟩,rfl,(fun x hx=>by cases hx),(fun _=>⟨rfl,rfl⟩),(fun h=>by cases h)⟩,rfl⟩
 case round=>
  obtain ⟨j,s,r,vi,hj,HM,HT,HJ,rfl⟩:=hrel
  by_cases hlast:j=N
  ·subst hlast
   have HJ2:Hid (RunI v rs c rs.length s r vi):=⟨by have:=HJ.out;rwa [HN.out] at this⟩
   clear HJ hj
   go_wp2
   go_loopg [] (c.n+1) (fun k wr=>∃ (s:MkS) (r vi:Int),Hid (MkAt wr SV (plus G w) SW c v s r vi)/\Hid (Touch (c.T G) w wr)/\Hid (RunI v rs c rs.length s r vi)/\Hid (s.lost=true->c.n+1<=s.L.length+k))
   case atStart=>exact ⟨s,r,vi,HM,HT,HJ2,⟨fun _=>by omega⟩⟩
   case round=>
    clear HM HT HJ2
    clear s r vi
    obtain ⟨wo,rfl⟩:∃ wo:World,wo=wr:=⟨_,rfl⟩
    obtain ⟨s,r,vi,HM,HT,HJ,HK⟩:=hrel
    have k2:=HM.out.row.cell (j:=2) rfl
    obtain ⟨L,st,lost⟩:=s
    have HLO:=hid (stk_lost HM.out.stk)
    cases lost with
    | false=>
     go_wp2_with (go_at_call 283;refine HLO.out.mono ?_;rintro e w2 ⟨rfl,rfl⟩)
     refine bodyPost_end (results_none rfl _ _ _) rfl ?_
     obtain ⟨q1,q2,q3,q4,q5⟩:=HJ.out
     exact MkEnd.ok HT.out HM.out ⟨q1.marks (fun _ h=>h) q2 rfl (fun x hx h0=>q3 x (by rw [List.take_length];exact hx) h0),q4⟩
    | true=>
     have hst:st=[]:=HJ.out.2.1
     subst hst
     have HMC:=hid HM.out.cut
     obtain ⟨G1,hG1⟩:∃ G1,G1=cutS (plus G w) wo:=⟨_,rfl⟩
     rw [<-hG1] at HMC
     have HG1:Hid (∀ i,G1 i->plus G w i/\i<wo.heap.size):=⟨fun i hi=>by rw [hG1] at hi;exact hi⟩
     have hne:=HJ.out.2.2.2.2 rfl
     have hgd:=HJ.out.1.mkd.good
     have hln:L.length<=1048576:=Nat.le_trans hgd.len HM.out.ext.nb.2
     obtain ⟨LN,hLN⟩:∃ LN,LN=L.length:=⟨_,rfl⟩
     have HLN:=hid hLN
     rw [<-hLN] at hln
     clear hG1 hgd hLN
     go_wp2_with (first
      | (go_at_call 283;refine HLO.out.mono ?_;rintro e w2 ⟨rfl,rfl⟩)
      | (go_at_call 284;refine (stk_found HMC.out.stk).mono ?_;rintro e w2 ⟨rfl,ht2,hs2⟩;have HM2:=hid (MkAt.popped (L:=L) (st:=[]) (lost:=true) HMC.out ht2 hs2);have k6:=HM2.out.row.cell (j:=6) rfl;have k1:=HM2.out.row.cell (j:=1) rfl;have kf:=HM2.out.row.free 6;have HT2:=hid ht2;clear ht2 hs2)
      | (go_at_call 285;have HMS:=hid (fun x:Int=>HM2.out.set (j:=6) (u:=.int .i64 x) (r':=x) (vi':=vi) rfl);refine (mk_starts (HMS.out _).ext (HMS.out _).tab ((HMS.out _).row.cell (j:=1) rfl)).mono ?_;rintro e w3 ⟨vL,rfl,hg3,ho3⟩;have HM3:=hid ((HMS.out _).gr hg3);have HG3:=hid hg3;obtain ⟨A3,cc3,rfl,h31,h32⟩:=own_shape ho3;have HO3:=hid ho3;rw [<-HLN.out] at HO3;rw [<-HLN.out] at h31;clear hg3 ho3))
     have hz2:wo.heap.size<=w2.heap.size:=HT2.out.size
     have hz3:w2.heap.size<=w3.heap.size:=by simpa using HG3.out.size
     have hzw:w.heap.size<=wo.heap.size:=HT.out.size
     have hBw:c.B<=w.heap.size:=H.out.bB
     have HGN:Hid (∀ g,(Value.slice A3 LN cc3).ownBlock=some g->¬ c.T (plus G1 w3) g):=⟨fun g hg ht=>by
      obtain ⟨a1,a2⟩:=own_lt HO3.out hg
      have a1:w2.heap.size<=g:=by simpa using a1
      rcases ht with h1 | h1 | h1 | h1
      ·have:=H.out.sep.kB;omega
      ·have:=H.out.sep.mB g h1;omega
      ·have:=(HG1.out g h1).2;omega
      ·omega⟩
     have HS1:Hid (MkSep c SV G1 SW):=⟨HM3.out.sep⟩
     have HTT:Hid (Touch (c.T G1) wo w3):=⟨((HT2.out.mono (fun i _ h=>.inr (.inr h))).trans (touch_k 6 _)).trans (HG3.out.touch _)⟩
     clear k1 k2 k6 kf
     rw [<-HLN.out]
     go_loopw [46] (fun s46 wy=>∃ (j:Nat) (s':MkS) (r' vi':Int),j<=LN/\Hid (MkAt wy SV (plus G1 w3) SW c v s' r' vi')/\Hid (Touch (c.T G1) w3 wy)/\Hid (wy.ownsRow 0 3 1 (.slice A3 LN cc3) LN (stsL L LN))/\Hid (MarkInv v rs c.n c.R (fromS L j) s'/\Later ⟨L,[],false⟩ s'/\s'.st=[])/\s46=.int .i64 j) (fun s46 _=>LN-(intOf s46).toNat)
     case atStart=>
      exact ⟨0,⟨L,[],false⟩,_,vi,Nat.zero_le _,⟨HM3.out.up (w:=w3) HM3.out.bB⟩,⟨Touch.refl _ _⟩,⟨own_base HO3.out (Nat.zero_le _)⟩,⟨HJ.out.1.found,Later.refl _,rfl⟩,rfl⟩
     case round=>
      obtain ⟨j,s',r',vi',hj,HMy,HTy,HOy,HJy,rfl⟩:=hrel
      by_cases hlast:j=LN
      ·subst hlast
       go_wp2
       have hgk:1<=gk:=by
        have:=HK.out (by simp)
        have h2:=HJ.out.1.mkd.good.len
        have h2:L.length<=c.n:=h2
        have h3:c.n+1<=L.length+gk:=this
        omega
       go_roundg (gk-1)
       case measure=>omega
       case rel=>
        obtain ⟨q1,q2,q3⟩:=HJy.out
        have hla:=q2.len
        have hla:L.length<=s'.L.length:=hla
        have hT1:Touch (c.T (plus G w)) wo wr:=(HTT.out.trans HTy.out).mono (fun i _ h=>h.imp id (fun h=>h.imp id (fun h=>(HG1.out i h).1)))
        have hL':s'.L≠[]:=fun e=>by have h1:=hla;rw [e] at h1;exact hne (List.eq_nil_of_length_eq_zero (Nat.le_zero.1 h1))
        refine ⟨s',r',vi',⟨HMy.out.sub (fun i h=>h.elim (fun h=>(HG1.out i h).1) (fun h=>.inr (by omega))) (H.out.sep.plus H.out.bB)⟩,⟨touch_plus HT.out hT1⟩,⟨q1.weak (fun a h=>absurd h (by rw [HLN.out];exact fromS_end a)),q3,fun x hx h0=>q2.sub _ (HJ.out.2.2.1 x hx h0),fun h=>absurd h hL',fun _=>hL'⟩,⟨fun hl=>?_⟩⟩
        have h5:=HK.out (by simp)
        have h5:c.n+1<=L.length+gk:=h5
        rcases q2.los hl with h | h
        ·cases h
        ·have h:L.length<s'.L.length:=h
         omega
      ·have hjn:j<L.length:=by have:=HLN.out;omega
       have hjl:(j:Int)<(LN:Int):=by omega
       obtain ⟨g,cc',ea,-,-,-,-⟩:=own_form HOy.out (by omega)
       simp only [Value.slice.injEq] at ea
       obtain ⟨rfl,-,rfl⟩:=ea
       obtain ⟨a,ha⟩:∃ a:Int,a=(L[j].1:Nat):=⟨_,rfl⟩
       have kc:=own_cell HOy.out (j:=j) (u:=.int .i64 a) (by rw [ha];unfold stsL zs;rw [HLN.out,List.take_length];simp [hjn])
       have HHS:Hid (Hs L a/\a=(L[j].1:Nat)):=⟨⟨L[j],List.getElem_mem hjn,ha.symm⟩,ha⟩
       have HJL:=hid (And.intro hj (And.intro hlast hjn))
       have HBK:Hid (∀ (W:World) (t:MkS) (x y:Int),MkAt W SV (plus G1 w3) SW c v t x y->Touch (c.T G1) w3 W->MkAt W SV (plus G w) SW c v t x y/\Touch (c.T G) w W):=⟨fun W t x y hm ht=>⟨hm.sub (fun i h=>h.elim (fun h=>(HG1.out i h).1) (fun h=>.inr (by omega))) (H.out.sep.plus H.out.bB),touch_plus HT.out ((HTT.out.trans ht).mono (fun i _ h=>h.imp id (fun h=>h.imp id (fun h=>(HG1.out i h).1))))⟩⟩
       clear hj hlast ha
       go_wp2_with (first
        | (go_at_call 286;refine (mk_visit HMy.out HP.out HJy.out.1 (HJy.out.2.1.sub a HHS.out.1)).mono ?_;rintro e w4 ⟨ht4,(⟨rfl,s4,r4,vi4,hm4,hp4⟩ | ⟨rfl,hp4,s4,r4,vi4,hm4⟩)⟩ <;> (have HO4:=hid (own_touch HOy.out ht4 HGN.out);have HT4:=hid (touch_plus HTy.out ht4);have HM4:=hid (hm4.back HTy.out.size HS1.out HM3.out.bB);have HP4:=hid hp4;clear ht4 hm4 hp4))
        | (go_at_call 282;refine (mk_drain HM4.out HP.out (HP4.out.1.done HP4.out.2.2.1 (Y:=fromS L (j+1)) (fun x hx=>by rw [HHS.out.2];exact fromS_succ HJL.out.2.2 hx))).mono ?_;rintro e w5 ⟨ht5,(⟨rfl,s5,r5,vi5,hm5,hp5⟩ | ⟨rfl,hp5,s5,r5,vi5,hm5⟩)⟩ <;> (have HO5:=hid (own_touch HO4.out ht5 HGN.out);have HT5:=hid (touch_plus HT4.out ht5);have HM5:=hid (hm5.back HT4.out.size HS1.out HM3.out.bB);have HP5:=hid hp5;clear ht5 hm5 hp5)))
       ·go_round
        case rel=>
         obtain ⟨p1,p2,p3,p4⟩:=HP4.out
         obtain ⟨t1,t2,t3,t4⟩:=HP5.out
         refine ⟨j+1,s5,r5,vi5,by have:=HJL.out;omega,HM5,HT5,HO5,⟨t1,(HJy.out.2.1.trans p2).trans t2,t3⟩,by go_num⟩
        case measure=>have:=HJL.out;simp [intOf];omega
       ·exact ⟨rfl,MkEnd.no (HBK.out _ _ _ _ HM5.out HT5.out).2 (HBK.out _ _ _ _ HM5.out HT5.out).1 HP5.out⟩
       ·exact ⟨rfl,MkEnd.no (HBK.out _ _ _ _ HM4.out HT4.out).2 (HBK.out _ _ _ _ HM4.out HT4.out).1 HP4.out⟩
  ·have hjl:(j:Int)<(N:Int):=by omega
   have hjn:j<rs.length:=by have:=HN.out;omega
   obtain ⟨b,o,rfl,hb,hbT,e0⟩:=HA.out j hjn
   have i0:=(HT.out.cell hb hbT (o+j)).trans e0
   obtain ⟨a,ha⟩:∃ a,a=rs[j]:=⟨_,rfl⟩
   rw [<-ha] at i0 e0
   have HRA:Hid (a≠0->Rch v rs a):=⟨fun h0=>Rch.root (by rw [ha];exact List.getElem_mem hjn) h0⟩
   have HTK:Hid (∀ x,x∈rs.take (j+1)->x∈rs.take j\/x=a):=⟨fun x hx=>by
    rw [List.take_succ_eq_append_getElem hjn] at hx
    exact (List.mem_append.1 hx).imp id (fun h=>by rw [ha];exact List.mem_singleton.1 h)⟩
   have HJL:=hid (And.intro hj hlast)
   clear hj hlast hjn ha e0 hbT
   go_wp2_with (first
    | (go_at_call 281;refine (mk_reach HM.out HP.out HJ.out.1 HRA.out).mono ?_;rintro e w4 ⟨ht4,(⟨rfl,s4,r4,vi4,hm4,hp4⟩ | ⟨rfl,hp4,s4,r4,vi4,hm4⟩)⟩ <;> (have HT4:=hid (touch_plus HT.out ht4);have HM4:=hid (hm4.back HT.out.size H.out.sep H.out.bB);have HP4:=hid hp4;clear ht4 hm4 hp4))
    | (go_at_call 282;refine (mk_drain HM4.out HP.out HP4.out.1).mono ?_;rintro e w5 ⟨ht5,(⟨rfl,s5,r5,vi5,hm5,hp5⟩ | ⟨rfl,hp5,s5,r5,vi5,hm5⟩)⟩ <;> (have HT5:=hid (touch_plus HT4.out ht5);have HM5:=hid (hm5.back HT4.out.size H.out.sep H.out.bB);have HP5:=hid hp5;clear ht5 hm5 hp5)))
   ·go_round
    case rel=>
     obtain ⟨q1,q2,q3,q4,q5⟩:=HJ.out
     obtain ⟨p1,p2,p3,rfl,rfl⟩:=HP4.out
     obtain ⟨t1,t2,t3,t4⟩:=HP5.out
     have hla:=p2.trans t2
     refine ⟨j+1,s5,r5,vi5,by have:=HJL.out;omega,HM5,HT5,⟨t1,t3,fun x hx h0=>?_,t4 (fun h=>q4 ?_),fun hl=>?_⟩,by go_num⟩
     ·rcases HTK.out x hx with h | rfl
      ·exact hla.sub _ (q3 x h h0)
      ·exact t2.sub _ (p3 h0)
     ·have:=p2.len
      rw [h] at this
      exact List.eq_nil_of_length_eq_zero (by simpa using this)
     ·have h5:=hla.len
      rcases hla.los hl with h | h
      ·exact fun e=>q5 h (List.eq_nil_of_length_eq_zero (by rw [e] at h5;simpa using h5))
      ·intro e;rw [e] at h;simp at h
    case measure=>have:=HJL.out;simp [intOf];omega
   ·exact ⟨rfl,MkEnd.no HT5.out HM5.out HP5.out⟩
   ·exact ⟨rfl,MkEnd.no HT4.out HM4.out HP4.out⟩
end
end Go.Proofs.YthgdadohijgleaaGreatDoor
end
section
namespace Go.Proofs.YthgdadohijgleaaGreatDoor
open Go.RowKit Word
theorem call_mark1 (args:Array Value) (W:World):(callFunc 191 args).run Tryz.prog W=.ok (.enter 191 args) W:=by kernel_rfl
def mkrW (z:Sp) (m g:Nat) (wk:Value) (L:List Ob) (r vi:Int):List Value:=[z.v,.pointer (some ⟨m,0,none⟩),.pointer (some ⟨g,0,none⟩),wk,.int .i64 (L.length:Nat),.int .i64 (sizes L:Nat),.int .i64 r,.int .i64 vi]
section
variable {w:World} {SV G SW:Nat->Prop} {c:MkC} {v:Vm} {rs:List Int}
set_option maxRecDepth 100000 in
set_option maxHeartbeats 1600000 in
theorem mk_run1 {b12 b5 cp:Nat} {A:Option Addr} (hrow:Rec w c.k 270 (mkrW c.z c.m c.g (.pointer none) [] 0 0)) (hp:∀ a,Rch v rs a->c.z.Rd v a) (h:MkAt (w.setCell ⟨c.k,3,none⟩ (.pointer (some ⟨c.wk,0,none⟩))) SV G SW c v s0 0 0)
  (c12:w.cell? ⟨b12,0,none⟩=some (.pointer (some ⟨c.k,0,none⟩))) (c5:w.cell? ⟨b5,0,none⟩=some (.slice A rs.length cp)) (n12:b12≠c.k) (n5:b5≠c.k) (hA:IntsOff (c.T G) w A rs) (hlen:rs.length<=maxLen):
  Calls Tryz.prog 191 #[.pointer (some ⟨c.wk,0,none⟩),.pointer (some ⟨b12,0,none⟩),.pointer (some ⟨b5,0,none⟩)] w (MkEnd w SV G SW c v (RunP v rs c) (¬ Sound v rs c.n)):=by
 have k3:=hrow.cell (j:=3) rfl
 have kf:=hrow.free 3
 have hsz:(w.setCell ⟨c.k,3,none⟩ (.pointer (some ⟨c.wk,0,none⟩))).heap.size=w.heap.size:=World.size_setCell ..
 have hA':=hA.touch (touch_k (w:=w) (c:=c) (G:=G) 3 (.pointer (some ⟨c.wk,0,none⟩))) (fun _ _ h=>h)
 have HRUN:=hid (mk_run (cp:=cp) h hp hA' hlen)
 have HBK:Hid (∀ e w',MkEnd (w.setCell ⟨c.k,3,none⟩ (.pointer (some ⟨c.wk,0,none⟩))) SV G SW c v (RunP v rs c) (¬ Sound v rs c.n) e w'->MkEnd w SV G SW c v (RunP v rs c) (¬ Sound v rs c.n) e w'):=⟨fun e w' he=>by
  obtain ⟨ht,he⟩:=he
  unfold plus at he
  rw [hsz] at he
  exact ⟨(touch_k 3 _).trans ht,he⟩⟩
 have tk:=(Touch.refl (fun i=>i=c.k) w).setCell (a:=⟨c.k,3,none⟩) (fun _=>rfl) (.pointer (some ⟨c.wk,0,none⟩))
 have x5:=(tk.cell (lt_cell c5) n5 0).trans c5
 have x12:=(tk.cell (lt_cell c12) n12 0).trans c12
 clear hrow h hA hA' hsz hlen tk hp
 go_enter Tryz.func191,Tryz.ntmps191
 go_wp2_with (go_at_call 192;refine HRUN.out.mono ?_;intro e w1 he;have he:=HBK.out _ _ he;rcases he with ⟨ht1,(⟨rfl,h1⟩ | ⟨rfl,h1⟩)⟩)
 ·refine bodyPost_end (results_none rfl _ _ _) rfl ?_
  exact ⟨ht1,.inl ⟨rfl,h1⟩⟩
 ·obtain ⟨-,h2⟩:=h1
  exact ⟨rfl,ht1,.inr ⟨rfl,trivial,h2⟩⟩
end
structure RunAt (w:World) (SV:Nat->Prop) (z:Sp) (k m p1 b1 p2 b2 n g:Nat) (v:Vm) (L:List Ob) (r vi:Int):Prop where
 zk:z.Ok
 vm:z.I v SV w
 ext:Ext w m p1 b1 p2 b2 n L
 tab:TabAt w
 row:∃ wk,Rec w k 270 (mkrW z m g wk L r vi)
theorem RunAt.touch {S:Nat->Prop} {w w':World} {SV:Nat->Prop} {z:Sp} {k m p1 b1 p2 b2 n g:Nat} {v:Vm} {L:List Ob} {r vi:Int} (h:RunAt w SV z k m p1 b1 p2 b2 n g v L r vi) (t:Touch S w w') (hv:∀ i,SV i->¬ S i) (hm:∀ i,mine m b1 b2 i->¬ S i) (h1:¬ S p1) (h2:¬ S p2) (ht:¬ S 1) (hk:¬ S k) (hd:∀ i,z.D i->¬ S i):RunAt w' SV z k m p1 b1 p2 b2 n g v L r vi:=
 ⟨h.zk,h.zk.fr h.vm t (fun i _ hi=>⟨fun h=>hv i h hi,fun h=>hd i h hi⟩) (fun _ h=>h),h.ext.touch t (hm _ (.inl rfl)) h1 (hm _ (.inr (.inl rfl))) h2 (hm _ (.inr (.inr rfl))),t.tab h.tab.lt ht h.tab,by obtain ⟨wk,hr⟩:=h.row;exact ⟨wk,hr.touch t hk⟩⟩
def RunMark (w:World) (SV SG:Nat->Prop) (z:Sp) (k m p1 b1 p2 b2 n g:Nat) (v:Vm) (rs:List Int) (e:Ending) (w':World):Prop:=
 Touch (fun i=>i=k\/mine m b1 b2 i\/SG i\/SV i) w w'/\∃ x y L r vi,e=.returned (.agg #[.int .i64 x,.int .i64 y])/\RunAt w' SV z k m p1 b1 p2 b2 n g v L r vi ∧
  ((x=0/\Marks v rs n L/\(L=[]->r=1/\vi=0))\/(x=25/\¬ Sound v rs n))
theorem run_mark {w:World} {SV SG:Nat->Prop} {z:Sp} {k m p1 b1 p2 b2 n g R b12 b5 cp:Nat} {v:Vm} {rs:List Int} {A:Option Addr} (hz:z.Ok/\¬ z.M) (hfail:Sound v rs n\/∃ q,z=spM q) (hp:∀ a,Rch v rs a->z.Rd v a) (hD:∀ i,z.D i->i<w.heap.size/\¬ (i=k\/mine m b1 b2 i\/SG i)) (hV:z.I v SV w) (hE:Ext w m p1 b1 p2 b2 n []) (hS:StkAt w SG g [] R false) (hR:Rec w k 270 (mkrW z m g (.pointer none) [] 0 0)) (hT:TabAt w)
  (c12:w.cell? ⟨b12,0,none⟩=some (.pointer (some ⟨k,0,none⟩))) (c5:w.cell? ⟨b5,0,none⟩=some (.slice A rs.length cp)) (n12:b12≠k) (n5:b5≠k) (hA:IntsOff (fun i=>i=k\/mine m b1 b2 i\/SG i) w A rs) (hlen:rs.length<=maxLen)
  (hSV:∀ i,SV i->i<w.heap.size/\¬ (i=k\/mine m b1 b2 i\/SG i)) (hSG:∀ i,SG i->i<w.heap.size) (hp1:¬ (p1=k\/mine m b1 b2 p1\/SG p1)) (hp2:¬ (p2=k\/mine m b1 b2 p2\/SG p2)) (htb:¬ (1=k\/mine m b1 b2 1\/SG 1))
  (hv1:¬ SV p1) (hv2:¬ SV p2) (hvt:¬ SV 1) (hkm:¬ mine m b1 b2 k) (hkg:¬ SG k) (hmg:∀ i,mine m b1 b2 i->¬ SG i):
  Calls Tryz.prog 190 #[z.v,.func (.func 191) #[] #[.pointer (some ⟨b12,0,none⟩),.pointer (some ⟨b5,0,none⟩)]] w (RunMark w SV SG z k m p1 b1 p2 b2 n g v rs):=by
 have hsz:(runW w z.v).heap.size=w.heap.size+2:=by unfold runW;rw [World.size_alloc,World.size_alloc]
 obtain ⟨q0,hq0⟩:∃ q0,∀ q,z=spM q->q0=q:=by
  by_cases h:∃ q,z=spM q
  ·obtain ⟨q,rfl⟩:=h
   exact ⟨q,fun q' h=>by have:=congrArg Sp.rv h;simp [spM] at this;exact this⟩
  ·exact ⟨0,fun q h'=>absurd ⟨q,h'⟩ h⟩
 obtain ⟨W0,hW0⟩:∃ W0,W0=partW (runW w z.v) (w.heap.size+1):=⟨_,rfl⟩
 have hsz0:W0.heap.size=w.heap.size+5:=by rw [hW0];unfold partW;rw [World.size_alloc,World.size_alloc,World.size_alloc,hsz]
 have g1:Gr w (runW w z.v):=((Gr.refl w).alloc _).alloc _
 have g2:Gr (runW w z.v) W0:=by rw [hW0];exact (((Gr.refl _).alloc _).alloc _).alloc _
 have g0:Gr w W0:=g1.trans g2
 have hkl:=hR.lt
 have hml:∀ i,mine m b1 b2 i->i<w.heap.size:=fun i hi=>by
  rcases hi with rfl | rfl | rfl
  ·exact hE.hm
  ·exact hE.v1.hb
  ·exact hE.v2.hb
 have hp1l:p1<w.heap.size:=hE.v1.hp
 have hp2l:p2<w.heap.size:=hE.v2.hp
 have htl:=hT.lt
 obtain ⟨c,hc⟩:∃ c:MkC,c=⟨k,z,m,p1,b1,p2,b2,n,g,R,w.heap.size+1,w.heap.size+5⟩:=⟨_,rfl⟩
 have hTl:∀ i,c.T SG i->i<w.heap.size:=fun i hi=>by
  rw [hc] at hi
  rcases hi with rfl | hi | hi
  ·exact hkl
  ·exact hml i hi
  ·exact hSG i hi
 have hsep:MkSep c SV SG (fun i=>i=w.heap.size+1):=by
  have hTl':=hTl
  rw [hc] at hTl' ⊢
  exact ⟨fun i hi=>⟨by have:=(hSV i hi).1;show i<w.heap.size+5;omega,(hSV i hi).2⟩,fun i hi=>⟨by show i<w.heap.size+5;omega,fun h=>by have:=hTl' i h;omega⟩,⟨by show _<w.heap.size+5;omega,htb⟩,⟨by show p1<w.heap.size+5;omega,hp1⟩,⟨by show p2<w.heap.size+5;omega,hp2⟩,hkm,hkg,by show k<w.heap.size+5;omega,hmg,fun i hi=>by have:=hml i hi;show i<w.heap.size+5;omega,fun i hi=>⟨by have:=(hD i hi).1;show i<w.heap.size+5;omega,(hD i hi).2⟩⟩
 have hm0:MkAt (W0.setCell ⟨c.k,3,none⟩ (.pointer (some ⟨c.wk,0,none⟩))) SV SG (fun i=>i=w.heap.size+1) c v s0 0 0:=by
  have tk:Touch (fun i=>i=c.k) W0 (W0.setCell ⟨c.k,3,none⟩ (.pointer (some ⟨c.wk,0,none⟩))):=(Touch.refl (fun i=>i=c.k) _).setCell (a:=⟨c.k,3,none⟩) (fun _=>rfl) _
  have hw:=(wk_new w z.v).gr g2
  rw [hc] at tk hsep ⊢
  refine ⟨hz.1.fr (hz.1.gr hV g0) tk (fun i _ e=>⟨fun h=>(hSV i h).2 (.inl e),fun h=>(hD i h).2 (.inl e)⟩) (fun _ h=>h),(hE.gr g0).touch tk (fun e=>hkm (.inl e.symm)) (fun e=>hp1 (.inl e)) (fun e=>hkm (.inr (.inl e.symm))) (fun e=>hp2 (.inl e)) (fun e=>hkm (.inr (.inr e.symm))),(hS.gr g0).touch tk (fun i hi _ e=>hkg (by subst e;exact hi)),hw.touch tk (fun i hi _ e=>by have e:i=k:=e;omega),(hR.gr g0).set 3 (.pointer (some ⟨w.heap.size+1,0,none⟩)),tk.tab (g0.tab hT.lt hT).lt (fun e=>htb (.inl e)) (g0.tab hT.lt hT),hsep,?_,hz⟩
  show w.heap.size+5<=_
  rw [World.size_setCell,hsz0]
  exact Nat.le_refl _
 have hbody:=mk_run1 (w:=W0) (b12:=b12) (b5:=b5) (cp:=cp) (A:=A) (rs:=rs) (by rw [hc];exact hR.gr g0) (by rw [hc];exact hp) hm0 (by rw [hc];exact (g0.cell (lt_cell c12) 0).trans c12) ((g0.cell (lt_cell c5) 0).trans c5) (by rw [hc];exact n12) (by rw [hc];exact n5)
  (by rw [hc];exact hA.gr g0) hlen
 have hbody':Calls Tryz.prog 191 (#[.pointer (some ⟨w.heap.size+1,0,none⟩)]++#[.pointer (some ⟨b12,0,none⟩),.pointer (some ⟨b5,0,none⟩)]) W0
   (BodyEnd q0 (w.heap.size+1) (w.heap.size+3) (c.T SG) W0 (fun w1=>∃ s r vi,MkAt w1 SV (plus SG W0) (fun i=>i=w.heap.size+1) c v s r vi/\RunP v rs c s r vi)
    (fun why _ v' l S S2 w1=>why=25/\v'=v/\l=[]/\S=(fun i=>i=w.heap.size+1)/\S2=SV/\¬ Sound v rs c.n/\∃ s r vi,MkAt w1 SV (plus SG W0) (fun i=>i=w.heap.size+1) c v s r vi)):=by
  have hb:=hbody
  rw [show c.wk=w.heap.size+1 by rw [hc]] at hb
  refine hb.mono ?_
  rintro e w1 ⟨ht,(⟨rfl,s,r,vi,hm,hp⟩ | ⟨rfl,hn,s,r,vi,hm⟩)⟩
  ·exact ⟨ht,.inl ⟨rfl,s,r,vi,hm,hp⟩⟩
  ·obtain ⟨q,hq⟩:=hfail.resolve_left (by have:=hn;rwa [show c.n=n by rw [hc]] at this)
   obtain rfl:=hq0 q hq
   have hwk:=hm.wk
   have hvm:=hm.vm
   rw [show c.wk=w.heap.size+1 by rw [hc],show c.z=spM q0 by rw [hc];exact hq] at hwk
   rw [show c.z=spM q0 by rw [hc];exact hq] at hvm
   exact ⟨ht,.inr ⟨25,0,v,[],_,_,rfl,hwk,hvm,fun i hi h=>by have:=(hSV i h).1;omega,by omega,fun h=>by have:=(hSV _ h).1;omega,rfl,rfl,rfl,rfl,rfl,hn,s,r,vi,hm⟩⟩
 have hrun:=trap_run (w:=w) (sp:=z.v) (q:=q0) (F:=191) (caps:=#[.pointer (some ⟨b12,0,none⟩),.pointer (some ⟨b5,0,none⟩)]) ⟨_,_,rfl⟩ call_mark1 (by rw [<-hW0];exact hbody')
  (fun i h1 h2 h=>by have:=hTl i h;omega) (fun h=>by have:=hTl _ h;omega) (fun why a' v' l S' S2 w1 h=>by
   obtain ⟨-,-,-,rfl,rfl,-⟩:=h
   exact ⟨by omega,fun h=>by have:=(hSV _ h).1;omega⟩)
 refine hrun.mono ?_
 rintro e w' ⟨w2,fx,fy,⟨w1,ht1,hp⟩,rfl,rfl⟩
 rw [<-hW0] at ht1
 rw [hsz] at hp
 subst hc
 have T1:Touch (fun i=>i=k\/mine m b1 b2 i\/SG i\/SV i) w w1:=(g0.touch _).trans' ht1 (fun i hi h=>h.imp id (fun h=>h.imp id .inl))
 have hRA:∀ s r vi,MkAt w1 SV (plus SG W0) (fun i=>i=w.heap.size+1) ⟨k,z,m,p1,b1,p2,b2,n,g,R,w.heap.size+1,w.heap.size+5⟩ v s r vi->RunAt w1 SV z k m p1 b1 p2 b2 n g v s.L r vi:=fun s r vi hm=>⟨hz.1,hm.vm,hm.ext,hm.tab,_,hm.row⟩
 have hbig:∀ (W1 W2:World) (L:List Ob) (r vi:Int),RunAt W1 SV z k m p1 b1 p2 b2 n g v L r vi->Touch (fun i=>w.heap.size<=i) W1 W2->RunAt W2 SV z k m p1 b1 p2 b2 n g v L r vi:=fun W1 W2 L r vi h t=>
  h.touch t (fun i hi h=>by have:=(hSV i hi).1;omega) (fun i hi h=>by have:=hml i hi;omega) (by omega) (by omega) (by omega) (by omega) (fun i hi h=>by have:=(hD i hi).1;omega)
 have hTS:∀ (W:World) (z1 z2:Value),Touch (fun i=>w.heap.size<=i) W ((W.setCell ⟨w.heap.size,0,none⟩ z1).setCell ⟨w.heap.size,1,none⟩ z2):=fun W z1 z2=>
  ((Touch.refl (fun i=>w.heap.size<=i) W).setCell (a:=⟨w.heap.size,0,none⟩) (fun _=>Nat.le_refl _) z1).setCell (a:=⟨w.heap.size,1,none⟩) (fun _=>Nat.le_refl _) z2
 rcases hp with ⟨⟨s,r,vi,hm,hp1',hp2'⟩,he,rfl⟩ | ⟨why,a',v',l,S',S2,⟨rfl,rfl,rfl,rfl,rfl,hn,s,r,vi,hm⟩,he,hcc⟩
 ·simp only [Ending.returned.injEq,Value.agg.injEq] at he
  have hfx:fx=0/\fy=0:=by simpa using he
  obtain ⟨rfl,rfl⟩:=hfx
  have hT2:=((Touch.refl (fun i=>w.heap.size<=i) w1).setCell (a:=⟨w.heap.size+2+1,0,none⟩) (fun _=>by show w.heap.size<=w.heap.size+2+1;omega) (.int .i64 0)).setCell (a:=⟨w.heap.size+2+1,1,none⟩) (fun _=>by show w.heap.size<=w.heap.size+2+1;omega) (.int .i64 0)
  have hT3:=hT2.trans (hTS _ (.int .i64 0) (.int .i64 0))
  exact ⟨T1.trans' hT3 (fun i hi h=>by omega),0,0,s.L,r,vi,rfl,hbig _ _ _ _ _ (hRA s r vi hm) hT3,.inl ⟨rfl,hp1',hp2'⟩⟩
 ·simp only [Ending.returned.injEq,Value.agg.injEq] at he
  have hfx:fx=25/\fy=a':=by simpa using he
  obtain ⟨rfl,rfl⟩:=hfx
  obtain ⟨q1,q2,q3,q4⟩:=hcc
  obtain ⟨q,hq⟩:=hfail.resolve_left hn
  obtain rfl:=hq0 q hq
  subst hq
  have hlt:∀ i,i<w.heap.size->¬ S2 i->¬ (i=w.heap.size+1\/S2 i\/i=w.heap.size+2+1):=fun i hi hs h=>by
   rcases h with h | h | h
   ·omega
   ·exact hs h
   ·omega
  have hr1:=hRA s r vi hm
  have hr2:RunAt w2 S2 (spM q0) k m p1 b1 p2 b2 n g v' s.L r vi:=⟨hz.1,q2,hr1.ext.touch q1 (hlt _ (hml _ (.inl rfl)) (fun h=>(hSV _ h).2 (.inr (.inl (.inl rfl))))) (hlt _ hp1l hv1) (hlt _ (hml _ (.inr (.inl rfl))) (fun h=>(hSV _ h).2 (.inr (.inl (.inr (.inl rfl)))))) (hlt _ hp2l hv2) (hlt _ (hml _ (.inr (.inr rfl))) (fun h=>(hSV _ h).2 (.inr (.inl (.inr (.inr rfl)))))),
   q1.tab hr1.tab.lt (hlt _ htl hvt) hr1.tab,by obtain ⟨wk,hr⟩:=hr1.row;exact ⟨wk,hr.touch q1 (hlt _ hkl (fun h=>(hSV _ h).2 (.inl rfl)))⟩⟩
  refine ⟨(T1.trans' q1 (fun i hi h=>?_)).trans' (hTS _ _ _) (fun i hi h=>by omega),25,fy,s.L,r,vi,rfl,hbig _ _ _ _ _ hr2 (hTS _ _ _),.inr ⟨rfl,hn⟩⟩
  rcases h with h | h | h
  ·omega
  ·exact .inr (.inr (.inr h))
  ·omega
end Go.Proofs.YthgdadohijgleaaGreatDoor
end
section
namespace Go.Proofs.YthgdadohijgleaaGreatDoor
open Go.RowKit Word
def statV (a b c d:Int):Value:=.agg #[.int .i64 a,.int .i64 b,.int .i64 c,.int .i64 d]
theorem load_stats (W:World) (blk off:Nat) (p q r s:Value) (h0:W.cell? ⟨blk,off,none⟩=some p) (h1:W.cell? ⟨blk,off+1,none⟩=some q) (h2:W.cell? ⟨blk,off+2,none⟩=some r) (h3:W.cell? ⟨blk,off+3,none⟩=some s):(loadVar 159 ⟨blk,off,none⟩).run Tryz.prog W=.ok (.agg #[p,q,r,s]) W:=by
 have a1:(isAgg 159).run Tryz.prog W=.ok true W:=by kernel_rfl
 have a2:(sizeOf 159).run Tryz.prog W=.ok 4 W:=by kernel_rfl
 simp [loadVar,Sem.run_bind,a1,a2,Result.andThen,loadCells,go_sem,h0,h1,h2,h3]
def MarkRunG (w:World) (SV:Nat->Prop) (z:Sp) (m p1 b1 p2 b2 n:Nat) (v:Vm) (rs:List Int) (room:Int) (e:Ending) (w':World):Prop:=
 ((room<1\/4096<room)/\e=.returned (.tuple #[statV 0 0 0 0,.int .i64 5])/\Gr w w') ∨
 (1<=room/\room<=4096/\Touch (fun i=>mine m b1 b2 i\/SV i) w w'/\z.I v SV w' ∧
  ((∃ L r vi,e=.returned (.tuple #[statV (L.length:Nat) (sizes L:Nat) r vi,.int .i64 0])/\Ext w' m p1 b1 p2 b2 n L/\Marks v rs n L/\(L=[]->r=1/\vi=0)) ∨
   (e=.returned (.tuple #[statV 0 0 0 0,.int .i64 25])/\Ext w' m p1 b1 p2 b2 n []/\¬ Sound v rs n)))
section
variable {w:World} {SV:Nat->Prop} {z:Sp} {q m p1 b1 p2 b2 n:Nat} {v:Vm} {rs:List Int} {L0:List Ob} {A:Option Addr} {cp:Nat}
theorem new2 (w:World) (o:Obj) (T:Nat) (xs:List Value):Rec ((w.alloc o).alloc (.cells xs.toArray T)) (w.heap.size+1) T xs:=by
 have:=Rec.new (w.alloc o) T xs
 rw [World.size_alloc] at this
 exact this
theorem new3 (w:World) (o o':Obj) (T:Nat) (xs:List Value):Rec ((w.alloc o).alloc (.cells xs.toArray T)) (w.heap.size+1) T xs/\Rec (((w.alloc (.cells xs.toArray T)).alloc o')) w.heap.size T xs:=by
 have:=Rec.new (w.alloc o) T xs
 rw [World.size_alloc] at this
 exact ⟨this,(Rec.new w T xs).gr ((Gr.refl _).alloc _)⟩
theorem st4_self (W:World) (b:Nat) (z0 z1 z2 z3:Value):Touch (fun i=>i=b) W ((((W.setCell ⟨b,0,none⟩ z0).setCell ⟨b,1,none⟩ z1).setCell ⟨b,2,none⟩ z2).setCell ⟨b,3,none⟩ z3):=
 ((((Touch.refl (fun i=>i=b) W).setCell (a:=⟨b,0,none⟩) (fun _=>rfl) z0).setCell (a:=⟨b,1,none⟩) (fun _=>rfl) z1).setCell (a:=⟨b,2,none⟩) (fun _=>rfl) z2).setCell (a:=⟨b,3,none⟩) (fun _=>rfl) z3
theorem st4_touch {W:World} {S:Nat->Prop} {z0 z1 z2 z3:Value} (h:Touch S w W):Touch S w ((((W.setCell ⟨w.heap.size+1,0,none⟩ z0).setCell ⟨w.heap.size+1,1,none⟩ z1).setCell ⟨w.heap.size+1,2,none⟩ z2).setCell ⟨w.heap.size+1,3,none⟩ z3):=by
 have hx:∀ j:Nat,(⟨w.heap.size+1,j,none⟩:Addr).block<w.heap.size->S (⟨w.heap.size+1,j,none⟩:Addr).block:=fun j h=>absurd h (by show ¬ (w.heap.size+1<w.heap.size);omega)
 exact (((h.setCell (hx 0) z0).setCell (hx 1) z1).setCell (hx 2) z2).setCell (hx 3) z3
set_option maxRecDepth 100000 in
set_option maxHeartbeats 3200000 in
theorem mark_runG (hz:z.Ok/\¬ z.M) (hfail:Sound v rs n\/∃ q,z=spM q) (hp:∀ a,Rch v rs a->z.Rd v a) (hD:∀ i,z.D i->i<w.heap.size/\¬ mine m b1 b2 i) (hV:z.I v SV w) (hE:Ext w m p1 b1 p2 b2 n L0) (hT:TabAt w) (hA:IntsOff (mine m b1 b2) w A rs) (hlen:rs.length<=maxLen)
  (hvm:∀ i,SV i->¬ mine m b1 b2 i) (hv1:¬ SV p1) (hv2:¬ SV p2) (hvt:¬ SV 1) (htm:¬ mine m b1 b2 1) (room:Int):
  Calls Tryz.prog 91 #[z.v,.slice A rs.length cp,.pointer (some ⟨m,0,none⟩),.int .i64 room] w (MarkRunG w SV z m p1 b1 p2 b2 n v rs room):=by
 have HE:=hid hE
 have HV:=hid (hz.1.ct hV)
 have HZ:=hid hz
 have HF:=hid hfail
 have HP:=hid hp
 have HD:=hid hD
 have HT:=hid hT
 have HA:=hid hA
 have hn1:=hE.nb.1
 have dn:((n:Int)==0)=false:=by simp;omega
 have hml:∀ i,mine m b1 b2 i->i<w.heap.size:=fun i hi=>by
  rcases hi with rfl | rfl | rfl
  ·exact hE.hm
  ·exact hE.v1.hb
  ·exact hE.v2.hb
 have hp1l:p1<w.heap.size:=hE.v1.hp
 have hp2l:p2<w.heap.size:=hE.v2.hp
 have htl:=hT.lt
 have hm1:¬ mine m b1 b2 p1:=fun h=>by
  rcases h with h | h | h
  ·exact hE.am.1 h.symm
  ·exact hE.v1.ne h
  ·exact hE.ab.1 h
 have hm2:¬ mine m b1 b2 p2:=fun h=>by
  rcases h with h | h | h
  ·exact hE.am.2.2.1 h.symm
  ·exact hE.ab.2.1 h
  ·exact hE.v2.ne h
 have HML:=hid hml
 obtain ⟨N,hN⟩:∃ N,N=rs.length:=⟨_,rfl⟩
 have HN:=hid hN
 rw [<-hN] at hlen ⊢
 have h5:=(new3 w (.cells #[.slice A N cp] 40) (.cells #[.int .i64 0,.int .i64 0,.int .i64 0,.int .i64 0] 159) 40 [.slice A N cp]).2
 have h8:=(new3 w (.cells #[.slice A N cp] 40) (.cells #[] 40) 159 [.int .i64 0,.int .i64 0,.int .i64 0,.int .i64 0]).1
 have HR5:=hid h5
 have HR8:=hid h8
 have hga:Gr w ((w.alloc (.cells #[.slice A N cp] 40)).alloc (.cells #[.int .i64 0,.int .i64 0,.int .i64 0,.int .i64 0] 159)):=((Gr.refl w).alloc _).alloc _
 have hsa:((w.alloc (.cells #[.slice A N cp] 40)).alloc (.cells #[.int .i64 0,.int .i64 0,.int .i64 0,.int .i64 0] 159)).heap.size=w.heap.size+2:=by rw [World.size_alloc,World.size_alloc]
 obtain ⟨wa,hwa⟩:∃ wa,wa=((w.alloc (.cells #[.slice A N cp] 40)).alloc (.cells #[.int .i64 0,.int .i64 0,.int .i64 0,.int .i64 0] 159)):=⟨_,rfl⟩
 rw [show (w.alloc (.cells ([.slice A N cp]:List Value).toArray 40)).alloc (.cells #[.int .i64 0,.int .i64 0,.int .i64 0,.int .i64 0] 159)=wa from hwa.symm] at HR5
 rw [show (w.alloc (.cells #[.slice A N cp] 40)).alloc (.cells ([.int .i64 0,.int .i64 0,.int .i64 0,.int .i64 0]:List Value).toArray 159)=wa from hwa.symm] at HR8
 rw [<-hwa] at hga hsa
 have HGA:=hid hga
 have HWA:=hid hwa
 have HEA:=hid (HE.out.gr hga)
 have HB0:Hid (∀ i,cutS SV w i->i<w.heap.size/\¬ mine m b1 b2 i):=⟨fun i hi=>⟨hi.2,hvm i hi.1⟩⟩
 have HSEP:=hid (And.intro hv1 (And.intro hv2 (And.intro hvt (And.intro htm (And.intro hm1 hm2)))))
 clear hV hz hfail hp hD hE hT hA h5 h8 hwa hga hvm hv1 hv2 hvt htm hm1 hm2 hml hN
 by_cases hroom:room<1\/4096<room
 ·have HSN:Hid (∀ W,Calls Tryz.prog 188 #[.int .i64 room] W fun e w'=>e=.returned (.tuple #[.pointer none,.int .i64 5])/\W=w'):=⟨fun W=>(stk_new room W).mono fun e w' h=>by
   rcases h with ⟨-,h1,h2⟩ | ⟨h1,h2,-⟩
   ·exact ⟨h1,h2⟩
   ·omega⟩
  have HRM:=hid hroom
  unfold Sp.v
  clear hroom hsa
  go_enter Tryz.func91,Tryz.ntmps91
  go_upto_region 1 with (fail)
  rw [<-HWA.out]
  have y0:=HR8.out.cell (j:=0) rfl
  have y1:=HR8.out.cell (j:=1) rfl
  have y2:=HR8.out.cell (j:=2) rfl
  have y3:=HR8.out.cell (j:=3) rfl
  have yf:=HR8.out.free
  go_wp2_with (first
   | (go_at_call 187;refine (ext_words HEA.out).mono ?_;rintro e w1 ⟨rfl,rfl⟩)
   | (go_at_call 188;refine (HSN.out _).mono ?_;rintro e w1 ⟨rfl,rfl⟩))
  have R:=((((HR8.out.set 0 (.int .i64 0)).set 1 (.int .i64 0)).set 2 (.int .i64 0)).set 3 (.int .i64 0))
  have hl:=load_stats _ _ 0 _ _ _ _ (R.cell (j:=0) rfl) (R.cell (j:=1) rfl) (R.cell (j:=2) rfl) (R.cell (j:=3) rfl)
  refine bodyPost_ret (v:=.tuple #[.agg #[.int .i64 0,.int .i64 0,.int .i64 0,.int .i64 0],.int .i64 5]) ?_ rfl (.inl ⟨HRM.out,rfl,?_⟩)
  ·rw [results_cell_tmp rfl]
   simp [asAddr,Result.andThen,hl]
  ·exact (st4_touch (HGA.out.touch _)).gr
 ·have hroom':1<=room/\room<=4096:=by omega
  have HSN:Hid (∀ W,Calls Tryz.prog 188 #[.int .i64 room] W fun e w'=>e=.returned (.tuple #[.pointer (some ⟨W.heap.size,0,none⟩),.int .i64 0])/\Gr W w'/\StkAt w' (fun k=>W.heap.size<=k) W.heap.size [] room.toNat false):=⟨fun W=>(stk_new room W).mono fun e w' h=>by
   rcases h with ⟨h1,-⟩ | ⟨-,-,h1,h2,h3⟩
   ·omega
   ·exact ⟨h1,h2,h3⟩⟩
  have HRM:=hid hroom'
  unfold Sp.v
  clear hroom
  go_enter Tryz.func91,Tryz.ntmps91
  go_upto_region 1 with (fail)
  rw [<-HWA.out]
  obtain ⟨gs,hgs⟩:∃ gs,gs=wa.heap.size:=⟨_,rfl⟩
  have HGS:=hid hgs
  go_upto_region 8 with (first
   | (go_at_call 187;refine (ext_words HEA.out).mono ?_;rintro e w1 ⟨rfl,rfl⟩)
   | (go_at_call 188;refine (HSN.out _).mono ?_;rintro e ws ⟨rfl,hgs1,hst1⟩;have HGS1:=hid hgs1;have HST1:=hid hst1.cut;clear hgs1 hst1)
   | (go_at_call 189;refine (ext_wipe (HEA.out.gr HGS1.out)).mono ?_;rintro e w3 ⟨rfl,ht3,hx3⟩;have HT3:=hid ht3;have HX3:=hid hx3;clear ht3 hx3))
  have HST2:Hid (StkAt ws (cutS (fun k=>w.heap.size+2<=k) ws) (w.heap.size+2) [] room.toNat false):=⟨by have:=HST1.out;rw [hsa] at this;exact this⟩
  have hzs:=HGS1.out.size
  have hz3:=HT3.out.size
  have hk3:w.heap.size+2<=w3.heap.size:=by omega
  have hlo:∀ i,mine m b1 b2 i->i<w.heap.size:=HML.out
  obtain ⟨hv1,hv2,hvt,htm,hm1,hm2⟩:=HSEP.out
  have g2:Gr w3 ((w3.alloc (.cells #[.iface z.T z.rv,.pointer (some ⟨m,0,none⟩),.pointer (some ⟨w.heap.size+2,0,none⟩),.pointer none,.int .i64 0,.int .i64 0,.int .i64 0,.int .i64 0] 270)).alloc (.cells #[.pointer (some ⟨w3.heap.size,0,none⟩)] 267)):=((Gr.refl w3).alloc _).alloc _
  have hsz4:((w3.alloc (.cells #[.iface z.T z.rv,.pointer (some ⟨m,0,none⟩),.pointer (some ⟨w.heap.size+2,0,none⟩),.pointer none,.int .i64 0,.int .i64 0,.int .i64 0,.int .i64 0] 270)).alloc (.cells #[.pointer (some ⟨w3.heap.size,0,none⟩)] 267)).heap.size=w3.heap.size+2:=by rw [World.size_alloc,World.size_alloc]
  have r12:=new2 w3 (.cells #[.iface z.T z.rv,.pointer (some ⟨m,0,none⟩),.pointer (some ⟨w.heap.size+2,0,none⟩),.pointer none,.int .i64 0,.int .i64 0,.int .i64 0,.int .i64 0] 270) 267 [.pointer (some ⟨w3.heap.size,0,none⟩)]
  have rk:=(Rec.new w3 270 [.iface z.T z.rv,.pointer (some ⟨m,0,none⟩),.pointer (some ⟨w.heap.size+2,0,none⟩),.pointer none,.int .i64 0,.int .i64 0,.int .i64 0,.int .i64 0]).gr ((Gr.refl _).alloc (.cells #[.pointer (some ⟨w3.heap.size,0,none⟩)] 267))
  obtain ⟨W,hW⟩:∃ W,W=((w3.alloc (.cells #[.iface z.T z.rv,.pointer (some ⟨m,0,none⟩),.pointer (some ⟨w.heap.size+2,0,none⟩),.pointer none,.int .i64 0,.int .i64 0,.int .i64 0,.int .i64 0] 270)).alloc (.cells #[.pointer (some ⟨w3.heap.size,0,none⟩)] 267)):=⟨_,rfl⟩
  rw [<-hW] at g2 hsz4 ⊢
  rw [show (w3.alloc (.cells #[.iface z.T z.rv,.pointer (some ⟨m,0,none⟩),.pointer (some ⟨w.heap.size+2,0,none⟩),.pointer none,.int .i64 0,.int .i64 0,.int .i64 0,.int .i64 0] 270)).alloc (.cells ([.pointer (some ⟨w3.heap.size,0,none⟩)]:List Value).toArray 267)=W from hW.symm] at r12
  rw [show (w3.alloc (.cells ([.iface z.T z.rv,.pointer (some ⟨m,0,none⟩),.pointer (some ⟨w.heap.size+2,0,none⟩),.pointer none,.int .i64 0,.int .i64 0,.int .i64 0,.int .i64 0]:List Value).toArray 270)).alloc (.cells #[.pointer (some ⟨w3.heap.size,0,none⟩)] 267)=W from hW.symm] at rk
  have tW:Touch (mine m b1 b2) w W:=((HGA.out.trans HGS1.out).touch _ |>.trans HT3.out).trans (g2.touch _)
  have hnot:∀ i,i<w.heap.size->¬ mine m b1 b2 i->¬ (i=w3.heap.size\/mine m b1 b2 i\/cutS (fun k=>w.heap.size+2<=k) ws i):=fun i hi hn h=>by
   rcases h with h | h | h
   ·omega
   ·exact hn h
   ·have:=h.1;omega
  have hrunm:=run_mark (w:=W) (SV:=cutS SV w) (SG:=cutS (fun k=>w.heap.size+2<=k) ws) (z:=z) (k:=w3.heap.size) (m:=m) (g:=w.heap.size+2) (R:=room.toNat) (b12:=w3.heap.size+1) (b5:=w.heap.size) (cp:=cp) (v:=v) (rs:=rs) (A:=A)
   HZ.out HF.out HP.out (fun i hi=>⟨by have:=(HD.out i hi).1;omega,hnot i (HD.out i hi).1 (HD.out i hi).2⟩) (HZ.out.1.fr HV.out tW (fun i _ h=>⟨fun hi=>(HB0.out i hi).2 h,fun hi=>(HD.out i hi).2 h⟩) (fun _ h=>h)) (HX3.out.gr g2) ((HST2.out.touch HT3.out (fun i hi _ h=>by have:=hlo i h;have:=hi.1;omega)).gr g2) rk (tW.tab HT.out.lt htm HT.out)
   (r12.cell (j:=0) rfl) (by rw [<-HN.out];exact (((HR5.out.gr HGS1.out).touch HT3.out (fun h=>by have:=hlo _ h;omega)).gr g2).cell (j:=0) rfl) (by omega) (by omega)
   ((HA.out.mono (T':=fun i=>i=w3.heap.size\/mine m b1 b2 i\/cutS (fun k=>w.heap.size+2<=k) ws i) (fun b hb h=>by
    rcases h with h | h | h
    ·omega
    ·exact h
    ·have:=h.1;omega)).touch tW (fun _ _ h=>.inr (.inl h))) (by rw [<-HN.out];exact hlen)
   (fun i hi=>⟨by have:=hi.2;omega,fun h=>by
    rcases h with h | h | h
    ·have:=hi.2;omega
    ·exact (HB0.out i hi).2 h
    ·have:=hi.2;have:=h.1;omega⟩) (fun i hi=>by have:=hi.2;omega) (hnot _ hp1l hm1) (hnot _ hp2l hm2) (hnot _ htl htm) (fun h=>hv1 h.1) (fun h=>hv2 h.1) (fun h=>hvt h.1) (fun h=>by have:=hlo _ h;omega) (fun h=>by have:=h.2;omega) (fun i hi h=>by have:=hlo i hi;have:=h.1;omega)
  have HRUN:=hid hrunm
  have HTW:=hid tW
  have HR12:=hid r12
  have HR8W:=hid (((HR8.out.gr HGS1.out).touch HT3.out (fun h=>by have:=hlo _ h;omega)).gr g2)
  have HZ3:=hid (And.intro hk3 (And.intro hsz4 hzs))
  have hT5:Hid (∀ i,w.heap.size<=i->i<w.heap.size+2\/i=w3.heap.size+1->¬ (i=w3.heap.size\/mine m b1 b2 i\/cutS (fun k=>w.heap.size+2<=k) ws i\/cutS SV w i)):=⟨fun i h1 h2 h=>by
   rcases h with h | h | h | h
   ·omega
   ·have:=hlo i h;omega
   ·have:=h.1;have:=h.2;omega
   ·have:=h.2;omega⟩
  unfold Sp.v at HRUN
  clear hrunm tW r12 rk hW g2 hnot hsz4 hlo hm1 hm2 hv1 hv2 hvt htm hgs HGS
  have hcf:=call_mark1
  have hmf:∀ (fn:Fn) (first cap:Array Value) (w:World),(Instr.makeFunc fn first cap).run Tryz.prog w=.ok (.func fn first cap) w:=fun _ _ _ _=>rfl
  go_wp2_with (first
   | (go_at_call 190;refine HRUN.out.mono ?_;rintro e w5 ⟨ht5,x,y,L,r,vi,rfl,hra,(⟨rfl,hmk,hnil⟩ | ⟨rfl,hns⟩)⟩ <;> (have HT5:=hid ht5;have HRA:=hid hra;have R12:=HR12.out.touch ht5 (hT5.out _ (by have:=HZ3.out.1;omega) (.inr rfl));have R8:=HR8W.out.touch ht5 (hT5.out _ (by omega) (.inl (by omega)));have x12:=R12.cell (j:=0) rfl;have l12:=R12.lt;have l8:=R8.lt;have e0:=R8.cell (j:=0) rfl;have e1:=R8.cell (j:=1) rfl;have e2:=R8.cell (j:=2) rfl;have e3:=R8.cell (j:=3) rfl;have ef:=R8.free;obtain ⟨wk,hrow⟩:=hra.row;have k4:=hrow.cell (j:=4) rfl;have k5:=hrow.cell (j:=5) rfl;have k6:=hrow.cell (j:=6) rfl;have k7:=hrow.cell (j:=7) rfl;have lk:=hrow.lt;have HR8Z:=hid R8;clear ht5 hra R12 R8 hrow))
   | (go_at_call 189;refine (ext_wipe (HRA.out.ext.gr ((Gr.refl _).alloc _))).mono ?_;rintro e w6 ⟨rfl,ht6,hx6⟩;have R86:=(HR8Z.out.gr ((Gr.refl _).alloc (.cells #[.int .i64 25,.int .i64 y] 272))).touch ht6 (fun h=>by have:=HML.out _ h;omega);have f0:=R86.cell (j:=0) rfl;have f1:=R86.cell (j:=1) rfl;have f2:=R86.cell (j:=2) rfl;have f3:=R86.cell (j:=3) rfl;have ff:=R86.free;have HR86:=hid R86;have HT6:=hid ht6;have HX6:=hid hx6;clear ht6 hx6 R86))
  ·have hg5:=fun W=>(Gr.refl W).alloc (.cells #[.int .i64 0,.int .i64 y] 272)
   have R:=(((((HR8Z.out).set 0 (.int .i64 (L.length:Nat))).set 1 (.int .i64 (sizes L:Nat))).set 2 (.int .i64 r)).set 3 (.int .i64 vi)).gr (hg5 _)
   have hl:=load_stats _ _ 0 _ _ _ _ (R.cell (j:=0) rfl) (R.cell (j:=1) rfl) (R.cell (j:=2) rfl) (R.cell (j:=3) rfl)
   have tf:=st4_self w5 (w.heap.size+1) (.int .i64 (L.length:Nat)) (.int .i64 (sizes L:Nat)) (.int .i64 r) (.int .i64 vi)
   have hT:Touch (fun i=>mine m b1 b2 i\/SV i) w w5:=(HTW.out.mono (fun i _ h=>.inl h)).trans' HT5.out (fun i hi h=>by
    rcases h with h | h | h | h
    ·have:=HZ3.out.1;omega
    ·exact .inl h
    ·have:=h.1;omega
    ·exact .inr h.1)
   have hT2:=(hT.trans' tf (fun i hi h=>by omega)).trans ((hg5 _).touch _)
   refine bodyPost_ret (v:=.tuple #[.agg #[.int .i64 (L.length:Nat),.int .i64 (sizes L:Nat),.int .i64 r,.int .i64 vi],.int .i64 0]) ?_ rfl (.inr ⟨HRM.out.1,HRM.out.2,hT2,?_,.inl ⟨L,r,vi,rfl,?_,hmk,hnil⟩⟩)
   ·rw [results_cell_tmp rfl]
    simp [asAddr,Result.andThen,hl]
   ·exact HZ.out.1.mono (HZ.out.1.gr (HZ.out.1.fr HRA.out.vm tf (fun i _ h=>⟨fun hi=>by have:=hi.2;omega,fun hi=>by have:=(HD.out i hi).1;omega⟩) (fun _ h=>h)) (hg5 _)) (fun i hi=>hi.1)
   ·have hne:∀ i,i<w.heap.size->i≠w.heap.size+1:=fun i h=>by omega
    exact (HRA.out.ext.touch tf (hne _ (HML.out _ (.inl rfl))) (hne _ hp1l) (hne _ (HML.out _ (.inr (.inl rfl)))) (hne _ hp2l) (hne _ (HML.out _ (.inr (.inr rfl))))).gr (hg5 _)
  ·have hg5:=(Gr.refl w5).alloc (.cells #[.int .i64 25,.int .i64 y] 272)
   have R:=(((((HR86.out).set 0 (.int .i64 0)).set 1 (.int .i64 0)).set 2 (.int .i64 0)).set 3 (.int .i64 0))
   have hl:=load_stats _ _ 0 _ _ _ _ (R.cell (j:=0) rfl) (R.cell (j:=1) rfl) (R.cell (j:=2) rfl) (R.cell (j:=3) rfl)
   have tf:=st4_self w6 (w.heap.size+1) (.int .i64 0) (.int .i64 0) (.int .i64 0) (.int .i64 0)
   have hT:Touch (fun i=>mine m b1 b2 i\/SV i) w w5:=(HTW.out.mono (fun i _ h=>.inl h)).trans' HT5.out (fun i hi h=>by
    rcases h with h | h | h | h
    ·have:=HZ3.out.1;omega
    ·exact .inl h
    ·have:=h.1;omega
    ·exact .inr h.1)
   have hT2:=((hT.trans (hg5.touch _)).trans (HT6.out.mono (fun i _ h=>.inl h))).trans' tf (fun i hi h=>by omega)
   refine bodyPost_ret (v:=.tuple #[.agg #[.int .i64 0,.int .i64 0,.int .i64 0,.int .i64 0],.int .i64 25]) ?_ rfl (.inr ⟨HRM.out.1,HRM.out.2,hT2,?_,.inr ⟨rfl,?_,hns⟩⟩)
   ·rw [results_cell_tmp rfl]
    simp [asAddr,Result.andThen,hl]
   ·exact HZ.out.1.mono (HZ.out.1.fr (HZ.out.1.fr (HZ.out.1.gr HRA.out.vm hg5) HT6.out (fun i _ h=>⟨fun hi=>(HB0.out i hi).2 h,fun hi=>(HD.out i hi).2 h⟩) (fun _ h=>h)) tf (fun i _ h=>⟨fun hi=>by have:=hi.2;omega,fun hi=>by have:=(HD.out i hi).1;omega⟩) (fun _ h=>h)) (fun i hi=>hi.1)
   ·have hne:∀ i,i<w.heap.size->i≠w.heap.size+1:=fun i h=>by omega
    exact HX6.out.touch tf (hne _ (HML.out _ (.inl rfl))) (hne _ hp1l) (hne _ (HML.out _ (.inr (.inl rfl)))) (hne _ hp2l) (hne _ (HML.out _ (.inr (.inr rfl))))
def MarkRun (w:World) (SV:Nat->Prop) (q m p1 b1 p2 b2 n:Nat) (v:Vm) (rs:List Int) (room:Int) (e:Ending) (w':World):Prop:=
 ((room<1\/4096<room)/\e=.returned (.tuple #[statV 0 0 0 0,.int .i64 5])/\Gr w w') ∨
 (1<=room/\room<=4096/\Touch (fun i=>mine m b1 b2 i\/SV i) w w'/\VmAt w' SV q v ∧
  ((∃ L r vi,e=.returned (.tuple #[statV (L.length:Nat) (sizes L:Nat) r vi,.int .i64 0])/\Ext w' m p1 b1 p2 b2 n L/\Marks v rs n L/\(L=[]->r=1/\vi=0)) ∨
   (e=.returned (.tuple #[statV 0 0 0 0,.int .i64 25])/\Ext w' m p1 b1 p2 b2 n []/\¬ Sound v rs n)))
theorem mark_run (hV:VmAt w SV q v) (hE:Ext w m p1 b1 p2 b2 n L0) (hT:TabAt w) (hA:IntsOff (mine m b1 b2) w A rs) (hlen:rs.length<=maxLen)
  (hvm:∀ i,SV i->¬ mine m b1 b2 i) (hv1:¬ SV p1) (hv2:¬ SV p2) (hvt:¬ SV 1) (htm:¬ mine m b1 b2 1) (room:Int):
  Calls Tryz.prog 91 #[spV q,.slice A rs.length cp,.pointer (some ⟨m,0,none⟩),.int .i64 room] w (MarkRun w SV q m p1 b1 p2 b2 n v rs room):=
 mark_runG (z:=spM q) ⟨spM_ok q,fun h=>h⟩ (.inr ⟨q,rfl⟩) (fun _ _=>⟨fun _=>trivial,fun _ _=>trivial⟩) (fun _ h=>h.elim) hV hE hT hA hlen hvm hv1 hv2 hvt htm room
end
end Go.Proofs.YthgdadohijgleaaGreatDoor
end
end
section
namespace Go.Proofs.YthgdadohijgleaaGreatDoor
open Go.RowKit Word
theorem need_map {v v1:Vm} (h:VmOk v) {f t:Nat} (ht:t<=v.n) (hE:needE v f t=0) (hG:Grown v v1 (needF v f t)) {a:Nat} (h1:f<=a) (h2:a<t):v1.ldE a=0:=by
 have hp:=h.page
 have hF:needF v f t=unmL v ((f:Int)/v.pl.pg).toNat (pgsN v f t):=by unfold needF;rw [if_pos ⟨hE,by omega⟩]
 rw [hG.ldE h (by omega),hF]
 by_cases h0:v.pt.getD (a/v.pl.pg) 0=0
 ·rw [if_pos]
  rw [unmL_mem]
  refine ⟨?_,h0⟩
  have e1:((f:Int)/(v.pl.pg:Int)).toNat=f/v.pl.pg:=by rw [<-Int.natCast_ediv];exact Int.toNat_natCast _
  have e2:pgsN v f t=(t-1)/v.pl.pg+1-f/v.pl.pg:=by
   unfold pgsN
   rw [show (t:Int)-1=((t-1:Nat):Int) by omega,<-Int.natCast_ediv,<-Int.natCast_ediv]
   have:f/v.pl.pg<=(t-1)/v.pl.pg:=Nat.div_le_div_right (by omega)
   omega
  have g1:f/v.pl.pg<=a/v.pl.pg:=Nat.div_le_div_right h1
  have g2:a/v.pl.pg<=(t-1)/v.pl.pg:=Nat.div_le_div_right (by omega)
  rw [e1,e2]
  omega
 ·split
  ·rfl
  ·rw [h.ldE_of (by omega),if_neg h0]
end Go.Proofs.YthgdadohijgleaaGreatDoor
end
section
namespace Go.Proofs.YthgdadohijgleaaGreatDoor
open Go.RowKit Word
def ClT (v:Vm) (T:List Int) (a:Int) (k:Nat):Prop:=∀ i:Nat,i<k->(i:Int)<(v.rdH a).p->v.ptE a i=0/\(v.ptV a i≠0->((v.ptV a i:Nat):Int)∈T)
structure RowT (v:Vm) (rs:List Int) (T:List Int):Prop where
 nd:T.Nodup
 rc:∀ a∈T,a≠0/\Rch v rs a
structure RefI (v:Vm) (rs:List Int) (n i:Nat) (T:List Int) (L:List Ob):Prop where
 row:RowT v rs T
 rt:∀ r∈rs,r≠0->r∈T
 mkd:Mk v rs n L
 len:L.length=i
 le:i<=T.length
 hs:∀ a,Hs L a↔a∈T.take i
 cl:∀ a∈T.take i,∀ k,ClT v T a k
theorem RowT.nil (v:Vm) (rs:List Int):RowT v rs []:=⟨List.nodup_nil,fun _ h=>by cases h⟩
theorem RowT.push {v:Vm} {rs T:List Int} (h:RowT v rs T) {a:Int} (h0:a≠0) (hr:Rch v rs a) (hn:a ∉ T):RowT v rs (T++[a]):=by
 refine ⟨List.nodup_append.2 ⟨h.nd,by simp,fun x hx y hy=>?_⟩,fun x hx=>?_⟩
 ·rw [List.mem_singleton.1 hy];exact fun e=>hn (e ▸ hx)
 ·rcases List.mem_append.1 hx with hx | hx
  ·exact h.rc x hx
  ·rw [List.mem_singleton.1 hx];exact ⟨h0,hr⟩
theorem ClT.mono {v:Vm} {T U:List Int} (hs:∀ a∈T,a∈U) {a:Int} {k:Nat} (h:ClT v T a k):ClT v U a k:=fun i hi hp=>⟨(h i hi hp).1,fun h0=>hs _ ((h i hi hp).2 h0)⟩
theorem ClT.succ {v:Vm} {T:List Int} {a:Int} {k:Nat} (h:ClT v T a k) (h0:v.ptE a k=0) (h1:v.ptV a k≠0->((v.ptV a k:Nat):Int)∈T):ClT v T a (k+1):=fun i hi hp=>by
 rcases Nat.lt_or_ge i k with h2 | h2
 ·exact h i h2 hp
 ·have:i=k:=by omega
  subst this;exact ⟨h0,h1⟩
theorem RefI.start {v:Vm} {rs T:List Int} {n:Nat} (h:RowT v rs T) (hr:∀ r∈rs,r≠0->r∈T):RefI v rs n 0 T []:=
 ⟨h,hr,Mk.nil _ _ _,rfl,Nat.zero_le _,fun a=>⟨fun ⟨o,ho,_⟩=>(by cases ho),fun ha=>(by cases ha)⟩,fun a ha=>(by cases ha)⟩
theorem RefI.fresh {v:Vm} {rs T:List Int} {n i:Nat} {L:List Ob} (h:RefI v rs n i T L) (hi:i<T.length):¬ Hs L T[i]:=fun ha=>by
 obtain ⟨j,hj,e⟩:=List.getElem_of_mem ((h.hs _).1 ha)
 rw [List.length_take] at hj
 rw [List.getElem_take] at e
 exact List.pairwise_iff_getElem.1 h.row.nd j i (by omega) hi (by omega) e
theorem RefI.fail_add {v:Vm} {rs T:List Int} {n i:Nat} {L:List Ob} (h:RefI v rs n i T L) (hi:i<T.length) (he:addE L n T[i] (v.osz T[i])≠0):¬ Sound v rs n:=
 h.mkd.fail (h.row.rc _ (List.getElem_mem hi)).2 (h.fresh hi) he
theorem RefI.next {v:Vm} {rs T U:List Int} {n i:Nat} {L:List Ob} (h:RefI v rs n i T L) (hi:i<T.length) (hr:v.rdE T[i]=0) (he:addE L n T[i] (v.osz T[i])=0) (hU:RowT v rs U) (hp:∃ W,U=T++W) (hc:∀ k,ClT v U T[i] k):RefI v rs n (i+1) U (addL L n T[i] (v.osz T[i])):=by
 obtain ⟨W,rfl⟩:=hp
 have hsub:∀ a∈T,a∈T++W:=fun a ha=>List.mem_append.2 (.inl ha)
 have htk:(T++W).take (i+1)=T.take i++[T[i]]:=by
  rw [List.take_append_of_le_length (by omega),List.take_succ_eq_append_getElem hi]
 refine ⟨hU,fun r h1 h2=>hsub r (h.rt r h1 h2),h.mkd.add (h.row.rc _ (List.getElem_mem hi)).2 hr he,by rw [add_len he,h.len],by rw [List.length_append];omega,fun a=>?_,fun a ha k=>?_⟩
 ·rw [hs_add hr he,htk,List.mem_append,List.mem_singleton,h.hs]
  exact Or.comm
 ·rw [htk] at ha
  rcases List.mem_append.1 ha with ha | ha
  ·exact (h.cl a ha k).mono hsub
  ·rw [List.mem_singleton.1 ha];exact hc k
theorem RefI.done {v:Vm} {rs T:List Int} {n i:Nat} {L:List Ob} (h:RefI v rs n i T L) (hi:i=T.length):Marks v rs n L:=by
 have hall:∀ a,Hs L a↔a∈T:=fun a=>by rw [h.hs,hi,List.take_length]
 refine Marks.of h.mkd (fun r h1 h2=>(hall r).2 (h.rt r h1 h2)) (fun o ho j hj=>?_)
 have hm:(o.1:Int)∈T.take i:=(h.hs _).1 ⟨o,ho,rfl⟩
 obtain ⟨h1,h2⟩:=h.cl _ hm (j+1) j (Nat.lt_succ_self j) hj
 exact ⟨h1,fun h0=>(hall _).2 (h2 h0)⟩
end Go.Proofs.YthgdadohijgleaaGreatDoor
end
section
namespace Go.Proofs.YthgdadohijgleaaGreatDoor
open Go.RowKit Word
theorem own_ints {w:World} {base:Nat} {A:Option Addr} {n c:Nat} {l:List Int} (h:w.ownsRow base 3 1 (.slice A n c) n (zs l)) (hn:n=l.length):IntsAt w A l:=fun i hi=>by
 have h0:n≠0:=by omega
 obtain ⟨g,c',e,-,-,-,-⟩:=own_form h h0
 simp only [Value.slice.injEq] at e
 obtain ⟨rfl,-,rfl⟩:=e
 refine ⟨g,0,rfl,(own_lt h (g:=g) rfl).2,?_⟩
 rw [Nat.zero_add]
 exact own_cell h (by simp [zs,hi])
set_option maxRecDepth 100000 in
set_option maxHeartbeats 800000 in
theorem ref20_in {w:World} {A:Option Addr} {n cp:Nat} {l:List Int} (hA:IntsAt w A l) (hn:n=l.length) (hlen:n<=maxLen) (a:Int):Calls Tryz.prog 322 #[.slice A n cp,.int .i64 a] w fun e w'=>e=.returned (.bool (decide (a∈l)))/\w=w':=by
 have HA:=hid hA
 have HN:=hid hn
 unfold maxLen at hlen
 clear hA hn
 go_enter Tryz.func322,Tryz.ntmps322
 go_wp2
 go_loop [5] (fun i=>∃ j:Nat,j<=n/\i=.int .i64 j/\Hid (a ∉ l.take j)) (fun i=>n-(intOf i).toNat)
 case atStart=>exact ⟨0,Nat.zero_le _,rfl,⟨by simp⟩⟩
 case round=>
  obtain ⟨j,hj,rfl,HJ⟩:=hrel
  by_cases hlast:j=n
  ·subst hlast
   go_wp2
   go_ret
   exact ⟨congrArg (fun b=>Ending.returned (.bool b)) (decide_eq_false (by have:=HJ.out;rwa [HN.out,List.take_length] at this)).symm,rfl⟩
  ·have hjl:j<l.length:=by have:=HN.out;omega
   have hjI:(j:Int)<(n:Int):=by omega
   obtain ⟨b,o,rfl,hb,e0⟩:=HA.out j hjl
   have HTK:Hid (l.take (j+1)=l.take j++[l[j]]/\l[j]∈l):=⟨List.take_succ_eq_append_getElem hjl,List.getElem_mem hjl⟩
   obtain ⟨y,hy⟩:∃ y,y=l[j]:=⟨_,rfl⟩
   rw [<-hy] at e0 HTK
   have HJL:=hid (And.intro hj hlast)
   clear hy hb hj hlast
   by_cases hya:y=a
   ·have d0:(y==a)=true:=by simpa using hya
    have HYA:=hid hya
    clear hya
    go_wp2
    go_ret
    exact ⟨congrArg (fun b=>Ending.returned (.bool b)) (decide_eq_true (by rw [<-HYA.out];exact HTK.out.2)).symm,rfl⟩
   ·have d0:(y==a)=false:=by simpa using hya
    have HYA:=hid hya
    clear hya
    go_wp2
    go_round
    case rel=>
     refine ⟨j+1,by have:=HJL.out;omega,by go_num,⟨fun h=>?_⟩⟩
     rw [HTK.out.1] at h
     rcases List.mem_append.1 h with h | h
     ·exact HJ.out h
     ·exact HYA.out (List.mem_singleton.1 h).symm
    case measure=>have:=HJL.out;simp [intOf];omega
structure Todo (w0 w:World) (vL:Value) (N:Nat) (T:List Int):Prop where
 own:w.ownsRow w0.heap.size 3 1 vL N (zs T)
 len:N=T.length
theorem Todo.gr {w0 w w':World} {vL:Value} {N:Nat} {T:List Int} (h:Todo w0 w vL N T) (t:Gr w w'):Todo w0 w' vL N T:=⟨own_gr h.own t,h.len⟩
theorem Todo.at {w0 w:World} {A:Option Addr} {N c:Nat} {T:List Int} (h:Todo w0 w (.slice A N c) N T):IntsAt w A T:=own_ints h.own h.len
theorem ptV_le {v:Vm} {a i:Int} (h:v.ptE a i=0):v.ptV a i<=2147483647:=by
 unfold Vm.ptV
 rw [if_pos h]
 unfold Vm.ptE at h
 split at h
 ·exact absurd h (by assumption)
 ·split at h
  ·cases h
  ·omega
end Go.Proofs.YthgdadohijgleaaGreatDoor
end
section
namespace Go.Proofs.YthgdadohijgleaaGreatDoor
open Go.RowKit Word
def Pln (w:World) (F p n B:Nat) (base:Nat) (L:List Ob):Prop:=
 p<w.heap.size/\F<=p/\blockOk B=true/\∃ f,w.cell? ⟨p,0,none⟩=some (.pointer (some ⟨f,0,none⟩))/\w.cell? ⟨p,1,none⟩=some (.int .i64 B)/\Fwd w F f n B base L
theorem Pln.gr {w w':World} {F p n B base:Nat} {L:List Ob} (h:Pln w F p n B base L) (g:Gr w w'):Pln w' F p n B base L:=by
 obtain ⟨h1,h2,h3,f,c0,c1,hF⟩:=h
 exact ⟨Nat.lt_of_lt_of_le h1 g.size,h2,h3,f,(g.cell h1 0).trans c0,(g.cell h1 1).trans c1,hF.gr g⟩
def NewPln (w:World) (n:Nat) (L:List Ob) (k b:Int) (e:Ending) (w':World):Prop:=
 Gr w w'/\(((blockOk k&&baseOk b)=false/\e=.returned (.tuple #[.pointer none,.int .i64 5]))\/((blockOk k&&baseOk b)=true/\∃ p B base:Nat,k=B/\b=base/\e=.returned (.tuple #[.pointer (some ⟨p,0,none⟩),.int .i64 0])/\Pln w' w.heap.size p n B base L))
set_option maxHeartbeats 800000 in
theorem pln_new {w:World} {m p1 b1 p2 b2 n:Nat} {L:List Ob} (hE:Ext w m p1 b1 p2 b2 n L) (hT:TabAt w) (k b:Int) (hk:k<=9223372036854775807):
  Calls Tryz.prog 251 #[.pointer (some ⟨m,0,none⟩),.int .i64 k,.int .i64 b] w (NewPln w n L k b):=by
 have HE:=hid hE
 have HT:=hid hT
 clear hE hT
 cases hgo:(blockOk k&&baseOk b) with
 | false=>
  have HG:=hid hgo
  clear hgo
  go_enter Tryz.func251,Tryz.ntmps251
  go_wp2_with (go_at_call 202;refine (fwd_new HE.out HT.out k b hk).mono ?_;rintro e w2 ⟨hg2,⟨-,rfl⟩ | ⟨hb,-⟩⟩;rotate_left;(rw [HG.out] at hb;cases hb);have HG2:=hid hg2;clear hg2)
  go_ret2
  exact ⟨HG2.out,.inl ⟨HG.out,rfl⟩⟩
 | true=>
  have HG:=hid hgo
  have HK:=hid (Bool.and_eq_true_iff.1 hgo).1
  clear hgo
  go_enter Tryz.func251,Tryz.ntmps251
  go_wp2_with (go_at_call 202;refine (fwd_new HE.out HT.out k b hk).mono ?_;rintro e w2 ⟨hg2,⟨hb,-⟩ | ⟨-,f,B,base,hB,hbs,rfl,hO⟩⟩;(rw [HG.out] at hb;cases hb);have HG2:=hid hg2;have HO:=hid hO;have HB:=hid hB;have HBS:=hid hbs;clear hg2 hO hB hbs)
  go_ret2
  have hs:=HG2.out.size
  refine ⟨HG2.out.alloc _,.inr ⟨HG.out,_,B,base,HB.out,HBS.out,rfl,by simp,by omega,by rw [<-HB.out];exact HK.out,f,World.cell?_alloc_new ..,?_,HO.out.gr ((Gr.refl _).alloc _)⟩⟩
  rw [<-HB.out];exact World.cell?_alloc_new ..
section
variable {w:World} {F p n B base:Nat} {L:List Ob}
theorem pln_forward {f:Nat} (c0:w.cell? ⟨p,0,none⟩=some (.pointer (some ⟨f,0,none⟩))):Calls Tryz.prog 157 #[.pointer (some ⟨p,0,none⟩)] w fun e w'=>e=.returned (.pointer (some ⟨f,0,none⟩))/\w=w':=by
 go_enter Tryz.func157,Tryz.ntmps157
 go_wp2
 go_ret
 exact ⟨rfl,rfl⟩
set_option maxRecDepth 100000 in
set_option maxHeartbeats 800000 in
theorem pln_blocks (hP:Pln w F p n B base L):Gets Tryz.prog 253 #[.pointer (some ⟨p,0,none⟩)] w (.int .i64 (nbl (sizes L) B:Nat)):=by
 obtain ⟨h1,h2,h3,f,c0,c1,hF⟩:=hP
 obtain ⟨hg,hn⟩:=hF.good
 have hs:=sizes_le hg
 have hbp:=blockOk_pos h3
 have HF:=hid hF
 have HB:=hid h3
 obtain ⟨s,hs'⟩:∃ s,s=sizes L:=⟨_,rfl⟩
 have HS:=hid hs'.symm
 rw [<-hs'] at hs ⊢
 obtain ⟨u,hu⟩:∃ u,u=(s+B-1)/B*B:=⟨_,rfl⟩
 obtain ⟨N,hN⟩:∃ N,N=nbl s B:=⟨_,rfl⟩
 have hq:(u:Int)/(B:Int)=(N:Int):=by
  rw [hu,hN];unfold nbl
  rw [Int.natCast_mul];exact Int.mul_ediv_cancel _ (by omega)
 have hul:(u:Int)<=1049600:=by
  have:=Nat.div_mul_le_self (s+B-1) B
  omega
 have HU:=hid hu.symm
 have hNl:N<=s:=by rw [hN];exact nbl_le (by omega)
 rw [<-hN]
 have z0:∀ xs m,(grow w xs m).cell? ⟨p,0,none⟩=some (.pointer (some ⟨f,0,none⟩)):=fun xs m=>((grown w xs m).cell h1 0).trans c0
 have z1:∀ xs m,(grow w xs m).cell? ⟨p,1,none⟩=some (.int .i64 B):=fun xs m=>((grown w xs m).cell h1 1).trans c1
 have hb1:(1:Int)<=(B:Int):=hbp.1
 have hB0:((B:Int)==0)=false:=beq_eq_false_iff_ne.2 (by omega)
 clear hF h3 hg hs' hu hN hbp
 unfold Gets
 go_enter Tryz.func253,Tryz.ntmps253
 go_wp2
 refine wp_region_by (by kernel_rfl) (by kernel_rfl) ?_
 repeat (go_big_quiet_step (first
  | (go_at_call 252;have hc:=fun xs m=>fwd_words (HF.out.gr (grown w xs m));simp only [HS.out] at hc;exact Gets.grown_same (hc _ _))
  | (go_at_call 319;have hc:=fun xs m=>up_block s B (Nat.le_trans hs (Nat.le_trans hn (by decide))) HB.out (grow w xs m);simp only [HU.out] at hc;exact Gets.grown_same (hc _ _))))
 refine wpQuiet_nil ?_
 intro _ hw'
 obtain ⟨⟨xs,nq⟩,hw''⟩:=hw'
 subst hw''
 go_wp2
 go_ret
 exact ⟨rfl,grown w _ _⟩
def rngIn (L:List Ob) (B:Nat) (k:Int):Bool:=decide (0<=k)&&decide (k<(nbl (sizes L) B:Nat))
def rngA (L:List Ob) (B:Nat) (base k:Int):Int:=if rngIn L B k then base+k*B else 0
def rngZ (L:List Ob) (B:Nat) (base k:Int):Int:=if rngIn L B k then base+min (k*B+B) (sizes L:Nat) else 0
def rngE (L:List Ob) (B:Nat) (k:Int):Int:=if rngIn L B k then 0 else 11
theorem rng_no {L:List Ob} {B:Nat} {base k:Int} (h:rngIn L B k=false):rngA L B base k=0/\rngZ L B base k=0/\rngE L B k=11:=by unfold rngA rngZ rngE;rw [h];exact ⟨rfl,rfl,rfl⟩
theorem rng_yes {L:List Ob} {B:Nat} {base k:Int} (h:rngIn L B k=true):rngA L B base k=base+k*B/\rngZ L B base k=base+min (k*B+B) (sizes L:Nat)/\rngE L B k=0:=by unfold rngA rngZ rngE;rw [h];exact ⟨rfl,rfl,rfl⟩
theorem rng_false {L:List Ob} {B:Nat} {k:Int} (h:k<0\/((nbl (sizes L) B:Nat):Int)<=k):rngIn L B k=false:=by
 unfold rngIn
 rcases h with h | h
 ·rw [decide_eq_false (by omega)];rfl
 ·rw [decide_eq_false (show ¬ k<((nbl (sizes L) B:Nat):Int) by omega),Bool.and_false]
theorem rng_lt {L:List Ob} {B j:Nat} (hB:1<=B) (h:rngIn L B j=true):j*B<sizes L:=by
 unfold rngIn at h
 simp at h
 exact (nbl_lt hB).1 h
set_option maxRecDepth 100000 in
set_option maxHeartbeats 1600000 in
theorem pln_range (hP:Pln w F p n B base L) (k:Int):Gets Tryz.prog 265 #[.pointer (some ⟨p,0,none⟩),.int .i64 k] w (.tuple #[.int .i64 (rngA L B base k),.int .i64 (rngZ L B base k),.int .i64 (rngE L B k)]):=by
 have HP:=hid hP
 obtain ⟨h1,h2,h3,f,c0,c1,hF⟩:=hP
 obtain ⟨hg,hn⟩:=hF.good
 have hs:=sizes_le hg
 have hbp:=blockOk_pos h3
 have HF:=hid hF
 have hbs:=hF.2.2.1
 clear hF h3 hg
 obtain ⟨N,hN⟩:∃ N,N=nbl (sizes L) B:=⟨_,rfl⟩
 have HN:=hid hN.symm
 unfold Gets
 by_cases hk0:k<0
 ·have E:=hid (rng_no (base:=base) (rng_false (L:=L) (B:=B) (.inl hk0)))
  rw [E.out.1,E.out.2.1,E.out.2.2]
  have d0:decide (k<0)=true:=decide_eq_true hk0
  clear hN
  go_enter Tryz.func265,Tryz.ntmps265
  go_wp2
  go_ret3
  exact ⟨rfl,Gr.refl _⟩
 ·obtain ⟨j,rfl⟩:∃ j:Nat,k=j:=⟨k.toNat,by omega⟩
  have d0:decide ((j:Int)<0)=false:=decide_eq_false hk0
  by_cases hk1:N<=j
  ·have E:=hid (rng_no (base:=base) (rng_false (L:=L) (B:=B) (k:=j) (.inr (by omega))))
   rw [E.out.1,E.out.2.1,E.out.2.2]
   have d1:decide (N<=j)=true:=decide_eq_true hk1
   clear hN
   go_enter Tryz.func265,Tryz.ntmps265
   go_wp2_with (go_at_call 253;refine (pln_blocks HP.out).mono ?_;rintro e w1 ⟨rfl,hg1⟩;rw [HN.out])
   go_ret3
   exact ⟨rfl,hg1⟩
  ·have hin:rngIn L B j=true:=by unfold rngIn;rw [<-hN];simp;omega
   have hlt:=rng_lt (by omega) hin
   have E:=hid (rng_yes (base:=base) hin)
   rw [E.out.1,E.out.2.1,E.out.2.2]
   obtain ⟨t,ht⟩:∃ t,t=j*B:=⟨_,rfl⟩
   have hmul:(j:Int)*(B:Int)=(t:Int):=by rw [ht];push_cast;rfl
   rw [<-ht] at hlt
   rw [hmul]
   obtain ⟨s,hs'⟩:∃ s,s=sizes L:=⟨_,rfl⟩
   have HS:=hid hs'.symm
   rw [<-hs'] at hs hlt ⊢
   have d1:decide (N<=j)=false:=decide_eq_false hk1
   have w1:IntKind.i64.wrap ((j:Int)*(B:Int))=(t:Int):=by rw [hmul];exact IntWalk.i64_in _ (by omega)
   have w2:IntKind.i64.wrap ((base:Int)+(t:Int))=(base:Int)+(t:Int):=IntWalk.i64_in _ (by omega)
   have w3:IntKind.i64.wrap ((base:Int)+(t:Int)+(B:Int))=(base:Int)+(t:Int)+(B:Int):=IntWalk.i64_in _ (by omega)
   have hmin:∀ w',(Builtin.min_ #[3,3] 3 #[.int .i64 ((base:Int)+(t:Int)+(B:Int)),.int .i64 ((base:Int)+(s:Int))]).run Tryz.prog w'=.ok (.int .i64 ((base:Int)+min ((t:Int)+(B:Int)) (s:Int))) w':=fun w'=>by
    rw [run_minB2]
    rw [show min ((base:Int)+(t:Int)+(B:Int)) ((base:Int)+(s:Int))=(base:Int)+min ((t:Int)+(B:Int)) (s:Int) by omega]
   clear hN hs' ht hin hbp hmul
   go_enter Tryz.func265,Tryz.ntmps265
   go_wp2_with (go_at_call 253;refine (pln_blocks HP.out).mono ?_;rintro e w1 ⟨rfl,hg1⟩;rw [HN.out])
   have HG1:=hid hg1
   clear hg1
   rename World=>wz
   have z0:∀ xs m,(grow wz xs m).cell? ⟨p,0,none⟩=some (.pointer (some ⟨f,0,none⟩)):=fun xs m=>((HG1.out.trans (grown wz xs m)).cell h1 0).trans c0
   have z1:∀ xs m,(grow wz xs m).cell? ⟨p,1,none⟩=some (.int .i64 B):=fun xs m=>((HG1.out.trans (grown wz xs m)).cell h1 1).trans c1
   refine wp_region_by (by kernel_rfl) (by kernel_rfl) ?_
   repeat (go_big_quiet_step ((go_at_call 269;have hc:=fun xs m=>fwd_base (HF.out.gr (HG1.out.trans (grown wz xs m)));exact Gets.grown_same (hc _ _))))
   refine wpQuiet_nil ?_
   intro _ hw'
   obtain ⟨⟨xs,nq⟩,hw''⟩:=hw'
   subst hw''
   obtain ⟨wy,hwy⟩:∃ wy,wy=grow wz xs nq:=⟨_,rfl⟩
   have HG2:=hid (show Gr w wy from by rw [hwy];exact HG1.out.trans (grown _ _ _))
   have y0:∀ xs m,(grow wy xs m).cell? ⟨p,0,none⟩=some (.pointer (some ⟨f,0,none⟩)):=fun xs m=>((HG2.out.trans (grown wy xs m)).cell h1 0).trans c0
   have y1:∀ xs m,(grow wy xs m).cell? ⟨p,1,none⟩=some (.int .i64 B):=fun xs m=>((HG2.out.trans (grown wy xs m)).cell h1 1).trans c1
   rw [<-hwy]
   clear hwy z0 z1
   go_wp2
   refine wp_region_by (by kernel_rfl) (by kernel_rfl) ?_
   repeat (go_big_quiet_step ((go_at_call 158;have hc:=fun xs m=>fwd_top (HF.out.gr (HG2.out.trans (grown wy xs m)));simp only [HS.out] at hc;exact Gets.grown (hc _ _))))
   refine wpQuiet_nil ?_
   intro _ hw'
   obtain ⟨⟨ys,mq⟩,hw''⟩:=hw'
   subst hw''
   go_wp2
   go_ret3
   exact ⟨rfl,HG2.out.trans (grown wy _ _)⟩
end
end Go.Proofs.YthgdadohijgleaaGreatDoor
end
section
namespace Go.Proofs.YthgdadohijgleaaGreatDoor
structure Pc where
 f:Int
 t:Int
 s:Nat
 deriving DecidableEq,Inhabited
def pcStep:List Pc->Int->Int->List Pc
 | [],x,y=>[⟨x,y,1⟩]
 | [p],x,y=>if p.f+p.s=x then [⟨p.f,p.t,p.s+1⟩] else [p,⟨x,y,1⟩]
 | p :: q :: r,x,y=>p :: pcStep (q :: r) x y
theorem pcStep_new {P:List Pc} {x y:Int} (h:∀ p,P.getLast?=some p->p.f+p.s≠x):pcStep P x y=P++[⟨x,y,1⟩]:=by
 induction P with
 | nil=>rfl
 | cons p r ih=>
  cases r with
  | nil=>unfold pcStep;rw [if_neg (h p rfl)];rfl
  | cons q r=>unfold pcStep;rw [ih (fun p hp=>h p (by rw [<-hp];rfl))];rfl
theorem pcStep_more {P:List Pc} {p:Pc} {x y:Int} (h:p.f+p.s=x):pcStep (P++[p]) x y=P++[⟨p.f,p.t,p.s+1⟩]:=by
 induction P with
 | nil=>simp [pcStep,h]
 | cons q r ih=>
  cases r with
  | nil=>simp only [List.cons_append,List.nil_append,pcStep] at ih ⊢;rw [if_pos h]
  | cons s r=>simp only [List.cons_append,pcStep] at ih ⊢;rw [ih]
def pcs (g:Int->Int) (at_:Int):Nat->List Pc
 | 0=>[]
 | k+1=>pcStep (pcs g at_ k) (g (at_+k)) (at_+k)
structure Runs (g:Int->Int) (a:Int) (k:Nat) (P:List Pc):Prop where
 pos:∀ p∈P,1<=p.s
 word:∀ p∈P,∀ i:Nat,i<p.s->g (p.t+i)=p.f+i
 first:∀ h:0<P.length,P[0].t=a
 next:∀ i (h:i+1<P.length),P[i+1].t=P[i].t+P[i].s/\P[i].f+P[i].s≠P[i+1].f
 last:∀ p,P.getLast?=some p->p.t+p.s=a+k
 none:P=[]->k=0
theorem snoc_of {α:Type} {P:List α} (h:P≠[]):∃ Q p,P=Q++[p]:=⟨P.dropLast,P.getLast h,(List.dropLast_concat_getLast h).symm⟩
theorem pcs_runs (g:Int->Int) (a:Int) (k:Nat):Runs g a k (pcs g a k):=by
 induction k with
 | zero=>exact ⟨fun p h=>(by cases h),fun p h=>(by cases h),fun h=>absurd h (by simp [pcs]),fun i h=>absurd h (by simp [pcs]),fun p h=>(by simp [pcs] at h),fun _=>rfl⟩
 | succ k ih=>
  unfold pcs
  generalize pcs g a k=P at ih
  by_cases hP:P=[]
  ·subst hP
   obtain rfl:=ih.none rfl
   refine ⟨fun p h=>?_,fun p h i hi=>?_,fun h=>by simp [pcStep],fun i h=>absurd h (by simp [pcStep]),fun p h=>?_,fun h=>by simp [pcStep] at h⟩
   ·simp [pcStep] at h;subst h;exact Nat.le_refl 1
   ·simp [pcStep] at h;subst h
    have hi:i<1:=hi
    obtain rfl:i=0:=by omega
    simp
   ·simp [pcStep] at h;subst h;simp
  ·obtain ⟨Q,p,rfl⟩:=snoc_of hP
   have hl:=ih.last p (by simp)
   have hps:=ih.pos p (by simp)
   by_cases hx:p.f+p.s=g (a+k)
   ·rw [pcStep_more hx]
    refine ⟨fun q h=>?_,fun q h i hi=>?_,fun h=>?_,fun i h=>?_,fun q h=>?_,fun h=>by simp at h⟩
    ·rcases List.mem_append.1 h with h | h
     ·exact ih.pos q (List.mem_append_left _ h)
     ·rw [List.mem_singleton.1 h];exact Nat.le_add_left ..
    ·rcases List.mem_append.1 h with h | h
     ·exact ih.word q (List.mem_append_left _ h) i hi
     ·rw [List.mem_singleton.1 h] at hi ⊢
      have hi:i<p.s+1:=hi
      show g (p.t+i)=p.f+i
      rcases Nat.lt_or_ge i p.s with h1 | h1
      ·exact ih.word p (by simp) i h1
      ·obtain rfl:i=p.s:=by omega
       rw [hl,hx]
    ·have:=ih.first (by simp)
     cases Q with
     | nil=>simpa using this
     | cons q r=>simpa using this
    ·have hlen:i+1<(Q++[p]).length:=by simpa using h
     have:=ih.next i hlen
     have h':i+1<Q.length+1:=by simpa using h
     rcases Nat.lt_or_ge (i+1) Q.length with h1 | h1
     ·rw [List.getElem_append_left h1,List.getElem_append_left (by omega)] at this ⊢;exact this
     ·obtain h2:i+1=Q.length:=by omega
      rw [List.getElem_append_right (by omega),List.getElem_append_left (by omega)] at this ⊢
      simpa [h2] using this
    ·simp at h;subst h;show p.t+((p.s+1:Nat):Int)=_;push_cast;omega
   ·rw [pcStep_new (fun q h=>by simp at h;subst h;exact hx)]
    refine ⟨fun q h=>?_,fun q h i hi=>?_,fun h=>?_,fun i h=>?_,fun q h=>?_,fun h=>by simp at h⟩
    ·rcases List.mem_append.1 h with h | h
     ·exact ih.pos q h
     ·rw [List.mem_singleton.1 h];exact Nat.le_refl 1
    ·rcases List.mem_append.1 h with h | h
     ·exact ih.word q h i hi
     ·rw [List.mem_singleton.1 h] at hi ⊢
      have hi:i<1:=hi
      obtain rfl:i=0:=by omega
      simp
    ·have:=ih.first (by simp)
     rw [List.getElem_append_left (by simp)];exact this
    ·have h':i+1<(Q++[p]).length+1:=by simpa using h
     rcases Nat.lt_or_ge (i+1) (Q++[p]).length with h1 | h1
     ·have:=ih.next i h1
      have h4:i<(Q++[p]).length:=Nat.lt_of_succ_lt h1
      rw [List.getElem_append_left h1,List.getElem_append_left h4];exact this
     ·have h2:i+1=(Q++[p]).length:=by omega
      have h3:i=Q.length:=by simp at h2;omega
      rw [List.getElem_append_right (by omega),List.getElem_append_left (by omega)]
      subst h3
      simp only [h2,Nat.sub_self,List.getElem_singleton,List.getElem_append_right (Nat.le_refl _)]
      exact ⟨hl.symm,hx⟩
    ·simp at h;subst h;push_cast;omega
theorem pcs_len (g:Int->Int) (a:Int) (k:Nat):(pcs g a k).length<=k:=by
 induction k with
 | zero=>exact Nat.le_refl _
 | succ k ih=>
  unfold pcs
  generalize pcs g a k=P at ih
  by_cases hP:P=[]
  ·subst hP;simp [pcStep]
  ·obtain ⟨Q,p,rfl⟩:=snoc_of hP
   by_cases hx:p.f+p.s=g (a+k)
   ·rw [pcStep_more hx];simp at ih ⊢;omega
   ·rw [pcStep_new (fun q h=>by simp at h;subst h;exact hx)];simp at ih ⊢;omega
theorem pcs_run {g:Int->Int} {a:Int} {k:Nat} {P:List Pc} (hP:pcs g a k=P) (hn:∀ p,P.getLast?=some p->p.f+p.s≠g (a+k)) {n:Nat} (h1:1<=n) (hw:∀ i,i<n->g (a+k+i)=g (a+k)+i):
  pcs g a (k+n)=P++[⟨g (a+k),a+k,n⟩]:=by
 induction n with
 | zero=>omega
 | succ n ih=>
  by_cases h0:n=0
  ·subst h0
   show pcStep (pcs g a k) (g (a+k)) (a+k)=_
   rw [hP,pcStep_new hn]
  ·have:=ih (by omega) (fun i hi=>hw i (by omega))
   show pcStep (pcs g a (k+n)) (g (a+(k+n:Nat))) (a+(k+n:Nat))=_
   have e:a+((k+n:Nat):Int)=a+k+n:=by push_cast;omega
   rw [this,e,hw n (by omega),pcStep_more (p:=⟨g (a+k),a+k,n⟩) rfl]
theorem Runs.ends {g:Int->Int} {a:Int} {k:Nat} {P:List Pc} (h:Runs g a k P):∀ (d i:Nat) (hi:i<P.length),P.length-i=d->P[i].t+P[i].s<=a+k/\a<=P[i].t:=by
 have lo:∀ i (hi:i<P.length),a<=P[i].t:=by
  intro i
  induction i with
  | zero=>intro hi;rw [h.first hi];exact Int.le_refl _
  | succ i ih=>
   intro hi
   have:=(h.next i hi).1
   have:=ih (by omega)
   omega
 intro d
 induction d with
 | zero=>intro i hi hd;omega
 | succ d ih=>
  intro i hi hd
  refine ⟨?_,lo i hi⟩
  by_cases hl:i+1<P.length
  ·have h1:=(h.next i hl).1
   have h2:=(ih (i+1) hl (by omega)).1
   omega
  ·have hne:P≠[]:=fun e=>by subst e;simp at hi
   have:=h.last (P[i]) (by rw [List.getLast?_eq_getElem?];rw [show P.length-1=i by omega,List.getElem?_eq_getElem hi])
   omega
def toAt (P:List Pc) (z:Int) (i:Nat):Int:=if h:i<P.length then P[i].t else z
theorem toAt_in {P:List Pc} {z:Int} {i:Nat} (h:i<P.length):toAt P z i=P[i].t:=by unfold toAt;rw [dif_pos h]
theorem toAt_end (P:List Pc) (z:Int):toAt P z P.length=z:=by unfold toAt;rw [dif_neg (Nat.lt_irrefl _)]
theorem toAt_zero {g:Int->Int} {a:Int} {k:Nat} {P:List Pc} (h:Runs g a k P) (hk:1<=k):toAt P (a+k) 0=a:=by
 by_cases hP:P=[]
 ·have:=h.none hP;omega
 ·have hl:0<P.length:=List.length_pos_iff.2 hP
  rw [toAt_in hl,h.first hl]
theorem toAt_next {g:Int->Int} {a:Int} {k:Nat} {P:List Pc} (h:Runs g a k P) {i:Nat} (hi:i<P.length):toAt P (a+k) (i+1)=P[i].t+P[i].s:=by
 by_cases hl:i+1<P.length
 ·rw [toAt_in hl,(h.next i hl).1]
 ·have hx:=h.last (P[i]) (by rw [List.getLast?_eq_getElem?];rw [show P.length-1=i by omega,List.getElem?_eq_getElem hi])
  unfold toAt
  rw [dif_neg hl,hx]
end Go.Proofs.YthgdadohijgleaaGreatDoor
end
section
namespace Go.Proofs.YthgdadohijgleaaGreatDoor
open Go.RowKit Word
theorem frm_bd {n:Nat} {L:List Ob} (h:Good n L) (hn:n<=1048576) (base:Nat) (b:Int):0<=fromV L base b/\fromV L base b<=1048576:=by
 cases hin:inF L base b with
 | false=>rw [(from_no hin).1];omega
 | true=>
  obtain ⟨j,hj,_,e2,e3,_,_⟩:=from_in h hin
  have:=h.sz _ (List.getElem_mem hj)
  omega
section
variable {w:World} {F p n B base:Nat} {L:List Ob}
def blkV (L:List Ob) (base B:Nat) (b:Int):Int:=if inF L base b then (b-base)/B else 0
set_option maxRecDepth 100000 in
set_option maxHeartbeats 1600000 in
theorem pln_block (hP:Pln w F p n B base L) (hT:TabAt w) (b:Int) (hb:b<=9223372036854775807):Gets Tryz.prog 166 #[.pointer (some ⟨p,0,none⟩),.int .i64 b] w (.tuple #[.int .i64 (blkV L base B b),.int .i64 (fromE L base b)]):=by
 obtain ⟨h1,h2,h3,f,c0,c1,hF⟩:=hP
 have hbp:=blockOk_pos h3
 have hbs:=hF.2.2.1
 have HF:=hid hF
 have HT:=hid hT
 obtain ⟨hg,hn⟩:=hF.good
 have hs:=sizes_le hg
 clear hF h3 hT hg
 unfold Gets
 cases hin:inF L base b with
 | false=>
  have E:=hid (from_no hin)
  have E2:Hid (blkV L base B b=0):=⟨by unfold blkV;rw [hin];rfl⟩
  rw [E.out.2.2,E2.out]
  clear hin
  go_enter Tryz.func166,Tryz.ntmps166
  go_wp2_with (go_at_call 167;refine (fwd_from HF.out HT.out b hb).mono ?_;rintro e w1 ⟨rfl,hg1⟩;rw [E.out.1,E.out.2.2])
  go_ret2
  exact ⟨rfl,hg1⟩
 | true=>
  obtain ⟨i1,i2⟩:=inF_iff.1 hin
  have E2:Hid (blkV L base B b=(b-base)/B):=⟨by unfold blkV;rw [hin];rfl⟩
  have E:Hid (fromE L base b=0):=⟨by unfold fromE;rw [hin];rfl⟩
  rw [E.out,E2.out]
  have w1:IntKind.i64.wrap (b-(base:Int))=b-(base:Int):=IntWalk.i64_in _ (by omega)
  have hb1:(1:Int)<=(B:Int):=hbp.1
  have hq0:(0:Int)<=b-(base:Int):=by omega
  have hB0:((B:Int)==0)=false:=beq_eq_false_iff_ne.2 (by omega)
  have hdiv:(b-(base:Int)).tdiv (B:Int)=(b-(base:Int))/(B:Int):=Int.tdiv_eq_ediv_of_nonneg hq0
  have hdl:(b-(base:Int))/(B:Int)<=b-(base:Int):=Int.ediv_le_self _ hq0
  have hd0:0<=(b-(base:Int))/(B:Int):=Int.ediv_nonneg hq0 (by omega)
  have w2:IntKind.i64.wrap ((b-(base:Int))/(B:Int))=(b-(base:Int))/(B:Int):=IntWalk.i64_in _ (by omega)
  clear hin
  go_enter Tryz.func166,Tryz.ntmps166
  go_wp2_with (go_at_call 167;refine (fwd_from HF.out HT.out b hb).mono ?_;rintro e w1 ⟨rfl,hg1⟩;rw [E.out])
  have HG1:=hid hg1
  clear hg1
  rename World=>wz
  have z0:∀ xs m,(grow wz xs m).cell? ⟨p,0,none⟩=some (.pointer (some ⟨f,0,none⟩)):=fun xs m=>((HG1.out.trans (grown wz xs m)).cell h1 0).trans c0
  have z1:∀ xs m,(grow wz xs m).cell? ⟨p,1,none⟩=some (.int .i64 B):=fun xs m=>((HG1.out.trans (grown wz xs m)).cell h1 1).trans c1
  refine wp_region_by (by kernel_rfl) (by kernel_rfl) ?_
  repeat (go_big_quiet_step ((go_at_call 269;have hc:=fun xs m=>fwd_base (HF.out.gr (HG1.out.trans (grown wz xs m)));exact Gets.grown_same (hc _ _))))
  refine wpQuiet_nil ?_
  intro _ hw'
  obtain ⟨⟨xs,nq⟩,hw''⟩:=hw'
  subst hw''
  go_wp2
  go_ret2
  exact ⟨rfl,HG1.out.trans (grown wz _ _)⟩
def RunEnd (w:World) (L:List Ob) (base at_ to:Nat) (e:Ending) (w':World):Prop:=
 ∃ r:Nat,e=.returned (.tuple #[.int .i64 (fromV L base at_),.int .i64 r])/\Gr w w'/\1<=r/\at_+r<=to/\(∀ i,i<r->fromV L base ((at_:Int)+i)=fromV L base at_+i)/\(at_+r<to->fromV L base at_+r≠fromV L base ((at_:Int)+r))
set_option maxRecDepth 100000 in
set_option maxHeartbeats 1600000 in
theorem pln_run (hP:Pln w F p n B base L) (hT:TabAt w) (at_ to:Nat) (ha:at_<to) (hto:(to:Int)<=4294967296):
  Calls Tryz.prog 327 #[.pointer (some ⟨p,0,none⟩),.int .i64 at_,.int .i64 to] w (RunEnd w L base at_ to):=by
 obtain ⟨h1,h2,h3,f,c0,c1,hF⟩:=hP
 have HF:=hid hF
 have HT:=hid hT
 obtain ⟨hg,hn⟩:=hF.good
 have HBD:=hid (fun b=>frm_bd hg hn base b)
 obtain ⟨v,hv⟩:∃ v,v=fromV L base at_:=⟨_,rfl⟩
 have HV:=hid hv.symm
 have hvb:=HBD.out at_
 rw [<-hv] at hvb
 clear hF h3 hT hg hv
 go_enter Tryz.func327,Tryz.ntmps327
 go_wp2_with (go_at_call 167;refine (fwd_from HF.out HT.out at_ (by omega)).mono ?_;rintro e w1 ⟨rfl,hg1⟩;rw [HV.out];have HG1:=hid hg1;clear hg1)
 go_loopw [10] (fun s wr=>∃ r:Nat,Hid (1<=r/\at_+r<=to/\∀ i,i<r->fromV L base ((at_:Int)+i)=v+i)/\Hid (Gr w wr)/\s=.int .i64 r) (fun s _=>to-(intOf s).toNat)
 case atStart=>exact ⟨1,⟨Nat.le_refl _,by omega,fun i hi=>by obtain rfl:i=0:=(by omega);simpa using HV.out⟩,HG1,rfl⟩
 case round=>
  rename World=>wr
  obtain ⟨r,hr,hgr,rfl⟩:=hrel
  obtain ⟨hr1,hr2,-⟩:=hr.out
  have k0:=(hgr.out.cell h1 0).trans c0
  by_cases hlt:at_+r<to
  ·obtain ⟨x,hx⟩:∃ x,x=fromV L base ((at_:Int)+(r:Int)):=⟨_,rfl⟩
   have HX:=hid hx.symm
   clear hx
   by_cases hxe:x=v+r
   ·have hne:(x !=v+(r:Int))=false:=by simp [hxe]
    have HXE:=hid hxe
    clear hxe
    go_wp2_with (go_at_call 167;refine (fwd_from (HF.out.gr hgr.out) (hgr.out.tab HT.out.lt HT.out) _ (by omega)).mono ?_;rintro e w1 ⟨rfl,hg2⟩;rw [HX.out];have HG2:=hid (hgr.out.trans hg2);clear hg2)
    go_roundw
    case rel=>exact ⟨r+1,⟨by omega,by omega,fun i hi=>by rcases Nat.lt_or_ge i r with h | h;exact hr.out.2.2 i h;(obtain rfl:i=r:=(by omega));rw [HX.out,HXE.out]⟩,HG2,by go_num⟩
    case measure=>simp [intOf];omega
   ·have hne:(x !=v+(r:Int))=true:=by simp [hxe]
    have HXE:=hid hxe
    clear hxe
    go_wp2_with (go_at_call 167;refine (fwd_from (HF.out.gr hgr.out) (hgr.out.tab HT.out.lt HT.out) _ (by omega)).mono ?_;rintro e w1 ⟨rfl,hg2⟩;rw [HX.out];have HG2:=hid (hgr.out.trans hg2);clear hg2)
    go_ret2
    exact ⟨r,by rw [HV.out];rfl,HG2.out,hr1,hr2,fun i hi=>by rw [HV.out];exact hr.out.2.2 i hi,fun _ h=>HXE.out (by rw [<-HX.out,<-h,HV.out])⟩
  ·go_wp2
   go_ret2
   exact ⟨r,by rw [HV.out];rfl,hgr.out,hr1,hr2,fun i hi=>by rw [HV.out];exact hr.out.2.2 i hi,fun h=>by omega⟩
end
def flatP (P:List Pc):List Value:=P.flatMap fun q=>[.int .i64 q.f,.int .i64 q.t,.int .i64 (q.s:Nat)]
theorem flatP_append (P Q:List Pc):flatP (P++Q)=flatP P++flatP Q:=by simp [flatP]
theorem flatP_at {P:List Pc} {i:Nat} (h:i<P.length):(flatP P)[i*3]?=some (.int .i64 P[i].f)/\(flatP P)[i*3+1]?=some (.int .i64 P[i].t)/\(flatP P)[i*3+2]?=some (.int .i64 (P[i].s:Nat)):=by
 induction P generalizing i with
 | nil=>exact absurd h (Nat.not_lt_zero _)
 | cons o r ih=>
  have e:flatP (o :: r)=.int .i64 o.f :: .int .i64 o.t :: .int .i64 (o.s:Nat) :: flatP r:=rfl
  rw [e]
  cases i with
  | zero=>exact ⟨rfl,rfl,rfl⟩
  | succ i=>
   have:=ih (i:=i) (by simpa using h)
   rw [show (i+1)*3=i*3+1+1+1 by omega]
   simpa using this
def PcsAt (w:World) (A:Option Addr) (P:List Pc):Prop:=∀ i (h:i<P.length),∃ g,A=some ⟨g,0,none⟩/\g<w.heap.size ∧
 w.cell? ⟨g,i*3,none⟩=some (.int .i64 P[i].f)/\w.cell? ⟨g,i*3+1,none⟩=some (.int .i64 P[i].t)/\w.cell? ⟨g,i*3+2,none⟩=some (.int .i64 (P[i].s:Nat))
theorem PcsAt.gr {w w':World} {A:Option Addr} {P:List Pc} (h:PcsAt w A P) (t:Gr w w'):PcsAt w' A P:=fun i hi=>by
 obtain ⟨g,rfl,h1,h2,h3,h4⟩:=h i hi
 exact ⟨g,rfl,Nat.lt_of_lt_of_le h1 t.size,(t.cell h1 _).trans h2,(t.cell h1 _).trans h3,(t.cell h1 _).trans h4⟩
theorem own_pcs {w:World} {base T:Nat} {v:Value} {P:List Pc} (h:w.ownsRow base T 3 v P.length (flatP P)):∃ A c,v=.slice A P.length c/\PcsAt w A P/\∀ a,A=some a->base<=a.block:=by
 by_cases hn:P.length=0
 ·obtain ⟨_,⟨rfl,_⟩ | ⟨g,c,cur,rfl,e2,_⟩⟩:=h
  ·exact ⟨none,0,by rw [hn],fun i hi=>by omega,fun a e=>by cases e⟩
  ·exact ⟨some ⟨g,0,none⟩,c,rfl,fun i hi=>by omega,fun a e=>by cases e;exact e2⟩
 ·obtain ⟨g,c,rfl,hb,_,_,hg⟩:=own_form h hn
  refine ⟨some ⟨g,0,none⟩,c,rfl,fun i hi=>?_,fun a e=>by cases e;exact hb⟩
  obtain ⟨f1,f2,f3⟩:=flatP_at hi
  exact ⟨g,rfl,hg,own_cell h f1,own_cell h f2,own_cell h f3⟩
theorem own_push {w:World} {base T:Nat} {v:Value} {P:List Pc} {q:Pc} (h:w.ownsRow base T 3 v (P.length+1) (flatP P++[.int .i64 q.f,.int .i64 q.t,.int .i64 (q.s:Nat)])):w.ownsRow base T 3 v (P++[q]).length (flatP (P++[q])):=by
 rw [flatP_append,List.length_append];exact h
theorem infoPc:(Tryz.prog.info? 343).map (fun i=>(i.zero,i.size,i.bytes))=some (some (.agg #[.int .i64 0,.int .i64 0,.int .i64 0]),3,24):=by kernel_rfl
def pcsOf (L:List Ob) (B base:Nat) (k:Int):List Pc:=pcs (fromV L base) (rngA L B base k) (rngZ L B base k-rngA L B base k).toNat
theorem pcsOf_no {L:List Ob} {B base:Nat} {k:Int} (h:rngIn L B k=false):pcsOf L B base k=[]:=by
 unfold pcsOf;rw [(rng_no h).1,(rng_no h).2.1];rfl
theorem rng_nat {n:Nat} {L:List Ob} (hg:Good n L) (hn:n<=1048576) {B base:Nat} (hB:1<=B) (hb:base<2147483648) {k:Int} (h:rngIn L B k=true):
  ∃ a z:Nat,rngA L B base k=a/\rngZ L B base k=z/\a<z/\z<=2148532224/\z<=a+B/\base<=a/\z<=base+sizes L:=by
 have hk0:0<=k:=by unfold rngIn at h;simp at h;exact h.1
 obtain ⟨j,rfl⟩:∃ j:Nat,k=j:=⟨k.toNat,by omega⟩
 have hlt:=rng_lt hB h
 have hs:=sizes_le hg
 obtain ⟨e1,e2,-⟩:=rng_yes (base:=base) h
 refine ⟨base+j*B,base+min (j*B+B) (sizes L),by rw [e1];push_cast;rfl,by rw [e2,show (j:Int)*(B:Int)=((j*B:Nat):Int) by push_cast;rfl];omega,by omega,by omega,by omega,by omega,by omega⟩
theorem pcsOf_len {n:Nat} {L:List Ob} (hg:Good n L) (hn:n<=1048576) {B base:Nat} (hB:1<=B) (hb:base<2147483648) (k:Int):(pcsOf L B base k).length<=B:=by
 cases hin:rngIn L B k with
 | false=>rw [pcsOf_no hin];simp
 | true=>
  obtain ⟨a,z,ea,ez,_,_,hz,_,_⟩:=rng_nat hg hn hB hb hin
  unfold pcsOf
  have:=pcs_len (fromV L base) (rngA L B base k) (rngZ L B base k-rngA L B base k).toNat
  omega
section
variable {w:World} {F p n B base:Nat} {L:List Ob}
def PcsNew (w:World) (P:List Pc) (c:Int) (e:Ending) (w':World):Prop:=
 ∃ A cap,e=.returned (.tuple #[.slice A P.length cap,.int .i64 c])/\Gr w w'/\PcsAt w' A P/\∀ a,A=some a->w.heap.size<=a.block
set_option maxRecDepth 100000 in
set_option maxHeartbeats 1600000 in
theorem pln_piecesN (hP:Pln w F p n B base L) (hT:TabAt w) (k:Int):
  Calls Tryz.prog 266 #[.pointer (some ⟨p,0,none⟩),.int .i64 k] w (PcsNew w (pcsOf L B base k) (rngE L B k)):=by
 have HP:=hid hP
 have HT:=hid hT
 obtain ⟨h1,h2,h3,f,c0,c1,hF⟩:=hP
 obtain ⟨hg,hn⟩:=hF.good
 have hbp:=blockOk_pos h3
 have hbs:=hF.2.2.1
 cases hin:rngIn L B k with
 | false=>
  have E:=hid (rng_no (base:=base) hin)
  have E2:=hid (pcsOf_no (base:=base) hin)
  rw [E2.out,E.out.2.2]
  clear hF h3 hg hin hT
  go_enter Tryz.func266,Tryz.ntmps266
  go_wp2_with (go_at_call 265;refine (pln_range HP.out k).mono ?_;rintro e w1 ⟨rfl,hg1⟩;rw [E.out.1,E.out.2.1,E.out.2.2])
  go_ret2
  exact ⟨none,0,rfl,hg1,fun i hi=>absurd hi (by simp),fun a e=>by cases e⟩
 | true=>
  obtain ⟨a0,z,ea,ez,hlt,hz,hzB,-,-⟩:=rng_nat hg hn (by omega) hbs hin
  have E:=hid (And.intro ea (And.intro ez (rng_yes (base:=base) hin).2.2))
  have E2:Hid (pcsOf L B base k=pcs (fromV L base) a0 (z-a0)):=⟨by unfold pcsOf;rw [ea,ez];congr 1;omega⟩
  rw [E2.out,E.out.2.2]
  obtain ⟨i0,hi,hi0,hi1,hi2⟩:=info_parts infoPc
  obtain ⟨g,hgf⟩:∃ g,g=fromV L base:=⟨_,rfl⟩
  rw [<-hgf]
  have HGF:=hid hgf
  clear hF h3 hg hin hT ea ez hgf
  go_enter Tryz.func266,Tryz.ntmps266
  go_wp2_with (go_at_call 265;refine (pln_range HP.out k).mono ?_;rintro e w1 ⟨rfl,hg1⟩;rw [E.out.1,E.out.2.1,E.out.2.2];have HG1:=hid hg1;clear hg1)
  go_loopw [6,9] (fun s6 s9 wr=>∃ (at' m:Nat) (P:List Pc),Hid (at'=a0+m)/\at'<=z/\a0<=at'/\Hid (pcs g a0 m=P)/\P.length<=at'/\Hid (at' < z->∀ q,P.getLast?=some q->q.f+q.s≠g at')/\Hid (wr.ownsRow w1.heap.size 343 3 s9 P.length (flatP P))/\Hid (Touch (fun i=>w1.heap.size<=i) w1 wr)/\s6=.int .i64 at') (fun s6 _ _=>z-(intOf s6).toNat)
  case atStart=>exact ⟨a0,0,[],⟨rfl⟩,by omega,Nat.le_refl _,⟨rfl⟩,by simp,⟨fun _ q h=>by simp at h⟩,⟨own_nil _ _ _ _⟩,⟨Touch.refl _ _⟩,rfl⟩
  case round=>
   obtain ⟨at',m,P,hat,hle,hge,hp,hpl,hlast,hown,ht,rfl⟩:=hrel
   have HG:=hid ((HG1.out.touch (fun _=>False)).trans' ht.out (fun i hi h=>by have:=HG1.out.size;omega)).gr
   have hwl:=ht.out.size
   by_cases hz':at' < z
   ·go_wp2_with (first
     | (go_at_call 327;refine (pln_run (HP.out.gr HG.out) (HG.out.tab HT.out.lt HT.out) at' z hz' (by omega)).mono ?_;rintro e w3 ⟨r,rfl,hg3,hr1,hr2,hr3,hr4⟩;rw [<-HGF.out] at hr3 hr4 ⊢;have HR:=hid (And.intro hr3 hr4);have HG3:=hid hg3;have HO3:=hid (own_gr hown.out hg3);have hz3:=hg3.size;(obtain ⟨fv,hfv⟩:∃ fv,fv=g at':=⟨_,rfl⟩);have HFV:=hid hfv.symm;rw [<-hfv];clear hr3 hr4 hg3 hfv)
     | (at_builtin;refine wpList_append_own _ rfl _ _ 339 rfl w1.heap.size 343 i0 _ 3 24 Tryz.underlying339 hi hi0 hi1 hi2 rfl (by decide) u9 P.length (flatP P) rfl (own_gr HO3.out ((Gr.refl _).alloc _)) ⟨w3.heap.size,0,none⟩ 1 1 [.int .i64 fv,.int .i64 at',.int .i64 r] rfl rfl (World.news_of_block (cs:=#[.int .i64 fv,.int .i64 at',.int .i64 r]) (t:=343) (fr:=(0,0)) (heap_alloc_new w3 _)) (by simp [Value.oneCell']) (by unfold maxLen;omega) (by omega) (by simp only [World.size_alloc];omega) ?_;intro v4 w4 hown4 hgrow4 _;have HO4:=hid (own_push (q:=⟨fv,at',r⟩) hown4);have HT4:=hid ((((Gr.refl w3).alloc (.cells #[.int .i64 fv,.int .i64 at',.int .i64 r] 343)).touch (fun k=>w1.heap.size<=k)).trans (grown_touch hgrow4 _ (fun _ e _=>(own_lt HO3.out e).1)));clear hown4 hgrow4))
    go_roundw
    case rel=>
     refine ⟨at' + r,m+r,P++[⟨fv,at',r⟩],⟨by rw [hat.out];omega⟩,by omega,by omega,⟨?_⟩,by simp;omega,⟨fun hzz q hq=>?_⟩,HO4,⟨(ht.out.trans (HG3.out.touch _)).trans HT4.out⟩,by go_num⟩
     ·have e1:=hat.out
      have ee:(a0:Int)+(m:Int)=(at':Int):=by omega
      have hh:=pcs_run (g:=g) (a:=a0) (k:=m) hp.out (by rw [ee];exact hlast.out hz') hr1 (by rw [ee];exact HR.out.1)
      rw [hh,ee,HFV.out]
     ·simp at hq;subst hq
      have:=HR.out.2 hzz
      rw [HFV.out] at this
      push_cast
      exact this
    case measure=>simp [intOf];omega
   ·obtain rfl:at'=z:=by omega
    go_wp2
    go_ret2
    obtain ⟨A,c,hA,hA2,hA3⟩:=own_pcs hown.out
    have e1:=hp.out
    have e2:m=at' - a0:=by have:=hat.out;omega
    subst e2
    rw [e1]
    exact ⟨A,c,by rw [<-hA];rfl,HG.out,hA2,fun a h=>Nat.le_trans HG1.out.size (hA3 a h)⟩
end
end Go.Proofs.YthgdadohijgleaaGreatDoor
end
section
namespace Go.Proofs.YthgdadohijgleaaGreatDoor
open Go.RowKit Word
theorem ret3 {a b c a' b' c':Value} (h1:a=a') (h2:b=b') (h3:c=c'):Ending.returned (.tuple #[a,b,c])=.returned (.tuple #[a',b',c']):=by rw [h1,h2,h3]
set_option maxRecDepth 100000 in
set_option maxHeartbeats 800000 in
theorem ref13_sizes {w:World} {A:Option Addr} {c:Nat} {L:List Ob} (hA:ObjsAt w A L) {n:Nat} (hg:Good n L) (hn:n<=1048576):
  Calls Tryz.prog 258 #[.slice A L.length c] w fun e w'=>e=.returned (.int .i64 (sizes L:Nat))/\w=w':=by
 have hlen:=hg.len
 have hs:=sizes_le hg
 have HA:=hid hA
 have HM:=hid (fun k=>sizes_take_le L k)
 have HT:=hid (fun (k:Nat) (hk:k<L.length)=>sizes_take hk)
 clear hA hg
 go_enter Tryz.func258,Tryz.ntmps258
 go_wp2
 go_loop [3,4] (fun s i=>∃ k t:Nat,k<=L.length/\Hid (t=sizes (L.take k))/\t<=1048576/\s=.int .i64 t/\i=.int .i64 k) (fun _ i=>L.length-(intOf i).toNat)
 case atStart=>exact ⟨0,0,Nat.zero_le _,⟨rfl⟩,by omega,rfl,rfl⟩
 case round=>
  obtain ⟨k,t,hk,ht,htb,rfl,rfl⟩:=hrel
  by_cases hlt:k<L.length
  ·obtain ⟨g,rfl,hgl,q0,q1⟩:=HA.out k hlt
   have h1:=HT.out k hlt
   have h2:=HM.out (k+1)
   rw [<-ht.out] at h1
   rw [h1] at h2
   have E:=hid h1
   generalize L[k].2=z at *
   clear h1 q0 ht
   go_wp2
   go_round
   case rel=>exact ⟨k+1,t+z,by omega,⟨E.out.symm⟩,by omega,by go_num,by go_num⟩
   case measure=>simp [intOf];omega
  ·obtain rfl:k=L.length:=by omega
   have E:=hid (show t=sizes L from by rw [ht.out,List.take_length])
   clear ht
   go_wp2
   go_ret
   exact ⟨ret_int (by rw [E.out]),rfl⟩
theorem find_from {n:Nat} {L:List Ob} (_h:Good n L) {k:Nat} {a:Int} (hk:k<=findO L a) (hkl:k<L.length) (hno:¬ ((L[k].1:Int)<=a/\a<L[k].1+L[k].2)):k+1<=findO L a:=by
 rcases Nat.lt_or_ge k (findO L a) with h1 | h1
 ·exact h1
 ·obtain e:findO L a=k:=by omega
  have hf:findO L a<L.length:=by omega
  have:=findO_yes hf
  simp only [e] at this
  exact absurd this hno
set_option maxRecDepth 100000 in
set_option maxHeartbeats 1600000 in
theorem ref22_to {w:World} {A:Option Addr} {c:Nat} {L:List Ob} (hA:ObjsAt w A L) {n:Nat} (hg:Good n L) (hn:n<=1048576) (base:Nat) (hb:base<2147483648) (a:Int):
  Gets Tryz.prog 260 #[.slice A L.length c,.int .i64 base,.int .i64 a] w (.tuple #[.int .i64 (toV L base a),.int .i64 (toE L a)]):=by
 have hlen:=hg.len
 have hs:=sizes_le hg
 have HA:=hid hA
 have HG:=hid hg
 have HM:=hid (fun k=>sizes_take_le L k)
 have HT:=hid (fun (k:Nat) (hk:k<L.length)=>sizes_take hk)
 clear hA hg
 unfold Gets
 go_enter Tryz.func260,Tryz.ntmps260
 go_wp2
 go_loopw [8,9] (fun s i wr=>∃ k t:Nat,k<=L.length/\Hid (k<=findO L a)/\Hid (t=base+sizes (L.take k))/\t<=2149580800/\Hid (Gr w wr)/\s=.int .i64 t/\i=.int .i64 k) (fun _ i _=>L.length-(intOf i).toNat)
 case atStart=>exact ⟨0,base,Nat.zero_le _,⟨Nat.zero_le _⟩,⟨rfl⟩,by omega,⟨Gr.refl _⟩,rfl,rfl⟩
 case round=>
  rename World=>wr
  obtain ⟨k,t,hk,hf,ht,htb,hgr,rfl,rfl⟩:=hrel
  by_cases hlt:k<L.length
  ·obtain ⟨g,rfl,hgl,q0,q1⟩:=(HA.out.gr hgr.out) k hlt
   have h1:=HT.out k hlt
   have h2:=HM.out (k+1)
   rw [h1] at h2
   have E:=hid h1
   have hsz:=HG.out.sz _ (List.getElem_mem hlt)
   have EIN:Hid (((L[k].1:Nat):Int)<=a->a<(L[k].1:Nat)+(L[k].2:Nat)->toV L base a=(t:Int)+a-(L[k].1:Nat)/\toE L a=0):=⟨fun x y=>by
    have:=toV_at HG.out (base:=base) hlt x y
    rw [ht.out];exact ⟨by rw [this.1];push_cast;omega,this.2⟩⟩
   have EOUT:Hid (¬ (((L[k].1:Nat):Int)<=a/\a<(L[k].1:Nat)+(L[k].2:Nat))->k+1<=findO L a):=⟨fun x=>find_from HG.out hf.out hlt x⟩
   have ET:Hid (∀ z,z=L[k].2->t+z=base+sizes (L.take (k+1))):=⟨fun z hz=>by rw [hz,E.out,ht.out];omega⟩
   have hk0:(0:Int)<=(k:Int):=by omega
   have hkl:(k:Int)<(L.length:Int):=by omega
   have hzz:=hid (rfl:L[k].2=L[k].2)
   generalize hs1:L[k].1=s1 at *
   generalize hz1:L[k].2=z1 at *
   have ETZ:=hid (ET.out z1 rfl)
   have htz:t+z1<=2149580800:=by have:=ET.out z1 rfl;omega
   have z0:∀ m,(wr.drewN m).cell? ⟨g,k*2,none⟩=some (.int .i64 (s1:Nat)):=fun m=>((Gr.refl wr).drewN m |>.cell hgl _).trans q0
   have z2:∀ m,(wr.drewN m).cell? ⟨g,k*2+1,none⟩=some (.int .i64 (z1:Nat)):=fun m=>((Gr.refl wr).drewN m |>.cell hgl _).trans q1
   clear h1 h2 ht ET E hf hzz hs1 hz1
   by_cases ha1:(s1:Int)<=a
   ·have d1:decide ((s1:Int)<=a)=true:=decide_eq_true ha1
    by_cases ha2:a<(s1:Int)+(z1:Int)
    ·have d2:decide (a<(s1:Int)+(z1:Int))=true:=decide_eq_true ha2
     have EE:=hid (EIN.out ha1 ha2)
     clear EIN EOUT
     go_wp2
     go_quiet (fail)
     go_wp2
     go_ret2
     exact ⟨ret2 (vint (by rw [EE.out.1])) (vint (by rw [EE.out.2])),hgr.out.drewN _⟩
    ·have d2:decide (a<(s1:Int)+(z1:Int))=false:=decide_eq_false ha2
     have EE:=hid (EOUT.out (fun h=>ha2 h.2))
     clear EIN EOUT
     go_wp2
     go_quiet (fail)
     go_wp2
     go_roundw
     case rel=>exact ⟨k+1,t+z1,by omega,EE,ETZ,by omega,⟨hgr.out.drewN _⟩,by go_num,by go_num⟩
     case measure=>simp [intOf];omega
   ·have d1:decide ((s1:Int)<=a)=false:=decide_eq_false ha1
    have EE:=hid (EOUT.out (fun h=>ha1 h.1))
    clear EIN EOUT
    go_wp2
    go_quiet (fail)
    go_wp2
    go_roundw
    case rel=>exact ⟨k+1,t+z1,by omega,EE,ETZ,by omega,⟨hgr.out.drewN _⟩,by go_num,by go_num⟩
    case measure=>simp [intOf];omega
  ·have EE:=hid (toV_no (L:=L) (base:=base) (a:=a) (by have:=hf.out;omega))
   clear ht hf
   go_wp2
   go_ret2
   exact ⟨ret2 (vint (by rw [EE.out.1])) (vint (by rw [EE.out.2])),hgr.out⟩
set_option maxRecDepth 100000 in
set_option maxHeartbeats 1600000 in
theorem ref22_from {w:World} {A:Option Addr} {c:Nat} {L:List Ob} (hA:ObjsAt w A L) {n:Nat} (hg:Good n L) (hn:n<=1048576) (base:Nat) (hb:base<2147483648) (b:Int):
  Calls Tryz.prog 159 #[.slice A L.length c,.int .i64 base,.int .i64 b] w fun e w'=>e=.returned (.tuple #[.int .i64 (fromV L base b),.int .i64 (fromI L base b),.int .i64 (fromE L base b)])/\w=w':=by
 have hlen:=hg.len
 have hs:=sizes_le hg
 have HA:=hid hA
 have HG:=hid hg
 have HM:=hid (fun k=>sizes_take_le L k)
 have HT:=hid (fun (k:Nat) (hk:k<L.length)=>sizes_take hk)
 clear hA hg
 go_enter Tryz.func159,Tryz.ntmps159
 go_wp2
 go_loop [9,10] (fun s i=>∃ k t:Nat,k<=L.length/\Hid (b<base\/(t:Int)<=b)/\Hid (t=base+sizes (L.take k))/\t<=2149580800/\base<=t/\s=.int .i64 t/\i=.int .i64 k) (fun _ i=>L.length-(intOf i).toNat)
 case atStart=>exact ⟨0,base,Nat.zero_le _,⟨by omega⟩,⟨rfl⟩,by omega,by omega,rfl,rfl⟩
 case round=>
  obtain ⟨k,t,hk,hf,ht,htb,htb2,rfl,rfl⟩:=hrel
  by_cases hlt:k<L.length
  ·obtain ⟨g,rfl,hgl,q0,q1⟩:=HA.out k hlt
   have h1:=HT.out k hlt
   have h2:=HM.out (k+1)
   rw [h1] at h2
   have E:=hid h1
   have hsz:=HG.out.sz _ (List.getElem_mem hlt)
   have EIN:Hid ((t:Int)<=b->b<(t:Int)+(L[k].2:Nat)->fromV L base b=(L[k].1:Nat)+b-(t:Int)/\fromI L base b=k/\fromE L base b=0):=⟨fun x y=>by
    have e:=ht.out
    have:=from_at (L:=L) (base:=base) (b:=b) hlt (by omega) (by omega)
    exact ⟨by rw [this.1,e];push_cast;omega,this.2⟩⟩
   have ET:Hid (∀ z,z=L[k].2->t+z=base+sizes (L.take (k+1))):=⟨fun z hz=>by rw [hz,E.out,ht.out];omega⟩
   generalize hs1:L[k].1=s1 at *
   generalize hz1:L[k].2=z1 at *
   have ETZ:=hid (ET.out z1 rfl)
   have htz:t+z1<=2149580800:=by have:=ET.out z1 rfl;omega
   have hff:=hf.out
   clear h1 h2 ht ET E hf hs1 hz1
   by_cases ha1:(t:Int)<=b
   ·by_cases ha2:b<(t:Int)+(z1:Int)
    ·have EE:=hid (EIN.out ha1 ha2)
     have hbs:(s1:Int)+b<=9223372036854775807:=by omega
     clear EIN
     go_wp2
     go_ret3
     exact ⟨ret3 (vint (by rw [EE.out.1])) (vint (by rw [EE.out.2.1])) (vint (by rw [EE.out.2.2])),rfl⟩
    ·clear EIN
     have EE:=hid (show b<base\/((t+z1:Nat):Int)<=b by omega)
     go_wp2
     go_round
     case rel=>exact ⟨k+1,t+z1,by omega,EE,ETZ,by omega,by omega,by go_num,by go_num⟩
     case measure=>simp [intOf];omega
   ·clear EIN
    have EE:=hid (show b<base\/((t+z1:Nat):Int)<=b by omega)
    go_wp2
    go_round
    case rel=>exact ⟨k+1,t+z1,by omega,EE,ETZ,by omega,by omega,by go_num,by go_num⟩
    case measure=>simp [intOf];omega
  ·obtain rfl:k=L.length:=by omega
   have EE:=hid (from_no (inF_false (L:=L) (base:=base) (b:=b) (by have:=hf.out;have:=ht.out;rw [List.take_length] at this;omega)))
   clear ht hf
   go_wp2
   go_ret3
   exact ⟨ret3 (vint (by rw [EE.out.1])) (vint (by rw [EE.out.2.1])) (vint (by rw [EE.out.2.2])),rfl⟩
end Go.Proofs.YthgdadohijgleaaGreatDoor
end
section
namespace Go.Proofs.YthgdadohijgleaaGreatDoor
open Go.RowKit Word
set_option maxRecDepth 100000 in
set_option maxHeartbeats 800000 in
theorem ref23_blocks {w:World} {A:Option Addr} {c:Nat} {L:List Ob} (hA:ObjsAt w A L) {n:Nat} (hg:Good n L) (hn:n<=1048576) (B:Nat) (hB:1<=B) (hB2:B<=1024):
  Calls Tryz.prog 259 #[.slice A L.length c,.int .i64 B] w fun e w'=>e=.returned (.int .i64 (nbl (sizes L) B:Nat))/\w=w':=by
 have hs:=sizes_le hg
 have HA:=hid hA
 have HG:=hid hg
 obtain ⟨len,hlen⟩:∃ s,s=sizes L:=⟨_,rfl⟩
 rw [<-hlen] at hs ⊢
 have HL:=hid hlen.symm
 clear hA hg hlen
 go_enter Tryz.func259,Tryz.ntmps259
 go_wp2
 go_loop [5,6] (fun n i=>∃ j t:Nat,Hid (t=j*B)/\t<=1048576+1024/\j<=t/\Hid (∀ i,i<j->i*B<len)/\n=.int .i64 j/\i=.int .i64 t) (fun _ i=>1048576+1025-(intOf i).toNat)
 case atStart=>exact ⟨0,0,⟨by simp⟩,by omega,by omega,⟨fun i h=>by omega⟩,rfl,rfl⟩
 case round=>
  obtain ⟨j,t,ht,hb,hjt,hno,rfl,rfl⟩:=hrel
  by_cases hlt:t<len
  ·have h1:Hid (t+B=(j+1)*B):=⟨by rw [Nat.succ_mul,ht.out]⟩
   have h2:Hid (∀ i,i<j+1->i*B<len):=⟨fun i hi=>by
    by_cases e:i=j
    ·rw [e,<-ht.out];exact hlt
    ·exact hno.out i (by omega)⟩
   clear ht hno
   go_wp2_with (go_at_call 258;refine (ref13_sizes HA.out HG.out hn).mono ?_;rintro e w1 ⟨rfl,rfl⟩;rw [HL.out])
   go_round
   case rel=>exact ⟨j+1,t+B,h1,by omega,by omega,h2,by go_num,by go_num⟩
   case measure=>simp [intOf];omega
  ·have E:=hid (nbl_eq hB (show len<=j*B by rw [<-ht.out];omega) hno.out)
   clear ht hno
   go_wp2_with (go_at_call 258;refine (ref13_sizes HA.out HG.out hn).mono ?_;rintro e w1 ⟨rfl,rfl⟩;rw [HL.out])
   go_ret
   exact ⟨ret_int (by rw [E.out]),rfl⟩
end Go.Proofs.YthgdadohijgleaaGreatDoor
end
section
namespace Go.Proofs.YthgdadohijgleaaGreatDoor
open Go.RowKit
theorem MapI.put {P:Program} {k e t:TypeId} {w:World} {b n:Nat} {f:Int->Option Value} (h:MapI P k w b n f) (K:Maps.Keyed P k) (ht:P.underlying t=some (.map k e)) (hk:P.underlying k=some (.int .i64)) (hn:n<maxLen) (key:Int) (val:Value) (hw:(Lit.int .i64 key).wf=true):
  ∃ w',(Instr.mapUpdate t (.map (some b)) (.int .i64 key) val).run P w=.ok () w'/\MapI P k w' b (n+1) (fun y=>if y=key then some val else f y)/\Touch (fun i=>i=b) w w':=by
 obtain ⟨D,hD,hf⟩:=h
 have hkey:=Maps.keyOf_int_mk (P:=P) hk hw
 obtain ⟨w',hrun,h1,h2⟩:=hD.update K ht hn hkey (val:=val) (d:=.held val) (ps:=[]) rfl
 refine ⟨w',hrun,⟨_,h1,fun y hy=>?_⟩,grown_touch h2 _ (fun i hi _=>by cases hi;rfl)⟩
 by_cases e:y=key
 ·subst e
  dsimp only
  rw [if_pos rfl]
  refine ⟨Maps.has_put_same hD.isMap (K.key hkey) _,fun v hv z=>?_⟩
  cases hv
  exact Maps.atKey_put_same hD.isMap (K.key hkey) _ _
 ·dsimp only
  rw [if_neg e]
  have hne:(Lit.int .i64 y)≠.int .i64 key:=fun h=>e (by injection h)
  exact ⟨(Maps.has_put_other hne _).trans (hf y hy).1,fun v hv z=>(Maps.atKey_put_other hne _ _).trans ((hf y hy).2 v hv z)⟩
end Go.Proofs.YthgdadohijgleaaGreatDoor
end
section
namespace Go.Proofs.YthgdadohijgleaaGreatDoor
open Go.RowKit
theorem wpListIn_mapI {F:Fence} {nF:Nat} {P:Program} (w:World) {ops:Array Oper} {rest:List Oper} {o:Oper} {a:Act} {Q:Exit->Act->World->Prop}
  (hg:o.guard=none) (m x v:Operand) (t:TypeId) (hop:o.op=Op.mapUpdate t m x v)
  (k e:TypeId) (K:Maps.Keyed P k) (ht:P.underlying t=some (.map k e)) (hk:P.underlying k=some (.int .i64)) (b n:Nat) (f:Int->Option Value)
  (hm:a.eval m=.map (some b)) (hown:MapI P k w b n f) (hn:n<maxLen) (key:Int) (val:Value) (hx:a.eval x=.int .i64 key) (hv:a.eval v=val) (hw:(Lit.int .i64 key).wf=true)
  (hK:∀ w',MapI P k w' b (n+1) (fun y=>if y=key then some val else f y)->Touch (fun i=>i=b) w w'->wpListIn F nF P ops Q rest (a.put o.dst undef) w'):
  wpListIn F nF P ops Q (o :: rest) a w:=by
 obtain ⟨w',hrun,h1,h2⟩:=hown.put K ht hk hn key val hw
 refine wpListIn_plain hg fun K' hK'=>?_
 unfold Oper.wpIn
 refine ⟨by simp [Oper.about,hop],?_⟩
 rw [Oper.semAt_plain F _ _ (by rw [hop];intro c hc';cases hc')]
 simp [execOp,hop,hm,hx,hv,hrun,Result.andThen]
 exact hK' _ _ (hK w' h1 h2)
theorem wpListIn_make_full {F:Fence} {nF:Nat} {P:Program} (w:World) {ops:Array Oper} {rest:List Oper} {o:Oper} {a:Act} {Q:Exit->Act->World->Prop}
  (hg:o.guard=none) (l c:Operand) (t:TypeId) (hop:o.op=Op.makeSlice t l c)
  (base:Nat) (e:TypeId) (i:TypeInfo) (z:Value) (size:Nat) (h1:P.underlying t=some (.slice e)) (h2:P.info? e=some i) (h3:i.zero=some z) (h4:i.size=size)
  (kl kc:IntKind) (n:Nat) (hl:a.eval l=.int kl n) (hc:a.eval c=.int kc n) (b1:n*size<=16777216) (b2:i.bytes*n<=281474976710656) (b3:n<=maxLen) (b4:base<=w.heap.size)
  (hK:∀ w',w'.ownsRow base e size (.slice (some ⟨w.heap.size,0,none⟩) n n) n (madeCells z.cells (n*size)).toList->w.grownBy w' none->wpListIn F nF P ops Q rest (a.put o.dst (.slice (some ⟨w.heap.size,0,none⟩) n n)) w'):
  wpListIn F nF P ops Q (o :: rest) a w:=by
 obtain ⟨w',hrun,r1,r2⟩:=run_makeSlice_full (P:=P) w base t e i z size h1 h2 h3 h4 kl kc n b1 b2 b3 b4
 refine wpListIn_plain hg fun K' hK'=>?_
 unfold Oper.wpIn
 refine ⟨by simp [Oper.about,hop],?_⟩
 rw [Oper.semAt_plain F _ _ (by rw [hop];intro c hc';cases hc')]
 simp [execOp,hop,hl,hc,hrun,Result.andThen]
 exact hK' _ _ (hK w' r1 r2)
theorem wpListIn_makeMap {F:Fence} {nF:Nat} {P:Program} (w:World) {ops:Array Oper} {rest:List Oper} {o:Oper} {a:Act} {Q:Exit->Act->World->Prop}
  (hg:o.guard=none) (t:TypeId) (hop:o.op=Op.makeMap t none) (hK:wpListIn F nF P ops Q rest (a.put o.dst (.map (some w.heap.size))) (w.alloc (.map #[] 0))):wpListIn F nF P ops Q (o :: rest) a w:=by
 have hrun:(Instr.makeMap t none).run P w=.ok (.map (some w.heap.size)) (w.alloc (.map #[] 0)):=rfl
 refine wpListIn_plain hg fun K' hK'=>?_
 unfold Oper.wpIn
 refine ⟨by simp [Oper.about,hop],?_⟩
 rw [Oper.semAt_plain F _ _ (by rw [hop];intro c hc';cases hc')]
 simp [execOp,hop,hrun,Result.andThen]
 exact hK' _ _ hK
theorem madeCells_one (z:Value) (n:Nat):(madeCells #[z] n).toList=List.replicate n z:=by
 unfold madeCells
 apply List.ext_getElem
 ·simp
 ·intro i h1 h2
  simp [Nat.mod_one]
end Go.Proofs.YthgdadohijgleaaGreatDoor
end
