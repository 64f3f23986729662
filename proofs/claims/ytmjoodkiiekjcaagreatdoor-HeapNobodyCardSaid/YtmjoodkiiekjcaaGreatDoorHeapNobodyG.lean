/- Part 7 of what HeapNobody leans on: my own lemmas, merged by shake.py. -/
import Derived.Test.YtmjoodkiiekjcaaGreatDoorHeapNobodyF
import Derived.Deep.LoopGhost
namespace Go.Proofs.YtmjoodkiiekjcaaGreatDoor
set_option maxRecDepth 100000
section
section
section
open Go.RowKit
section
variable {F:Fence} {n:Nat} {P:Program}
def VZU (K:Nat) {σ α:Type} (F:Fence) (n:Nat) (P:Program) (g:Nat) (lb:Array Value) (encs:α->Array Value) (Inv:σ->World->Prop) (gives:σ->α->Prop) (next:σ->α->σ->Prop) (fin:σ->Prop) (s0:σ) (w:World):Prop:=
 ∀ (l:Nat) (J:σ->World->Prop) (Jx:World->Prop) (W:World),Gr w W->(∀ s A B,J s A->XF4 (fun k=>W.heap.size<=k/\k<W.heap.size+K) A B->J s B)->(∀ A B,Jx A->XF4 (fun k=>W.heap.size<=k/\k<W.heap.size+K) A B->Jx B)->(∀ s A,J s A->Inv s A) →
  (∀ s x W1,J s W1->W.heap.size+K<=W1.heap.size->gives s x->YieldAt F (n-1) P l (encs x) W1 fun e W'=>((e=.returned (.bool true)/\∃ s',next s x s'/\J s' W')\/(e=.returned (.bool false)/\Jx W'))/\XF4 (fun k=>k<W.heap.size\/W.heap.size+K<=k) W1 W') →
  J s0 W->CallsIn F n P g (#[.func (.yield l) #[] #[]]++lb) W fun e W'=>(∃ v,e=.returned v)/\((∃ s,fin s/\J s W')\/Jx W')
def Y3E {σ α:Type} (B K:Nat) (I:σ->World->Prop) (Ix:Code->World->Prop) (next:σ->α->σ->Prop) (s:σ) (x:α) (W:World):Exit->Act->World->Prop
 | .normal,_,W'=>XF4 (fun k=>k<B\/B+K<=k) W W'/\∃ s',next s x s'/\I s' W'
 | .ret,_,W'=>XF4 (fun k=>k<B\/B+K<=k) W W'/\Ix .ret W'
 | .exit id,_,W'=>XF4 (fun k=>k<B\/B+K<=k) W W'/\Ix (.exit id) W'
 | .goto t,_,W'=>XF4 (fun k=>k<B\/B+K<=k) W W'/\Ix (.goto t) W'
 | _,_,_=>False
theorem ZAK.toU {σ α:Type} {g:Nat} {lb:Array Value} {encs:α->Array Value} {Inv:σ->World->Prop} {gives:σ->α->Prop} {next:σ->α->σ->Prop} {fin:σ->Prop} {s0:σ} {w:World} (h:ZAK F n P g lb encs Inv gives next fin s0 w):VZU 0 F n P g lb encs Inv gives next fin s0 w:=by
 intro l J Jx W hg hJ hJx hI hY h0;refine h l (fun s A=>J s A/\W.heap.size<=A.heap.size) Jx W hg (fun s A B hs hAB=>⟨hJ s A B hs.1 (hAB.touch _),Nat.le_trans hs.2 hAB.size⟩) (fun A B hs hAB=>hJx A B hs (hAB.touch _)) (fun s A hs=>hI s A hs.1) ?_ ⟨h0,Nat.le_refl _⟩ |>.mono ?_
 ·rintro s x W1 ⟨hs,hsz⟩ hx;refine (hY s x W1 hs hsz hx).mono ?_;rintro e W' ⟨⟨he,s',hn,hJ'⟩ | ⟨he,hx'⟩,ht⟩
  ·exact .inl ⟨he,s',hn,hJ',Nat.le_trans hsz ht.size⟩
  ·exact .inr ⟨he,hx'⟩
 ·rintro e W' ⟨hv,⟨s,hs,hJ',_⟩ | hx⟩
  ·exact ⟨hv,.inl ⟨s,hs,hJ'⟩⟩
  ·exact ⟨hv,.inr hx⟩
theorem JYJ {σ α:Type} {g:Operand} {ps:Array Tmp} {assign body:Code} {Q:Exit->Act->World->Prop} {a:Act} {w:World}
  (hro:F.round=none) (h1:1<=n) {gf:Nat} {lb:Array Value} (hg:a.eval g=.func (.func gf) #[] lb) (hFg:F.fn gf) (eg:∀ args w,(callFunc gf args).run P w=.ok (.enter gf args) w)
  {encs:α->Array Value} {Inv:σ->World->Prop} {gives:σ->α->Prop} {next:σ->α->σ->Prop} {fin:σ->Prop} {s0:σ} {K:Nat} (hseq:VZU K F (n-1) P gf lb encs Inv gives next fin s0 w)
  (hps:∀ x,(encs x).size=ps.size)
  (I:σ->World->Prop) (Ix:Code->World->Prop) (hI:∀ s A B,I s A->XF4 (fun k=>w.heap.size<=k/\k<w.heap.size+2+K) A B->I s B) (hIx:∀ c A B,Ix c A->XF4 (fun k=>w.heap.size<=k/\k<w.heap.size+2+K) A B->Ix c B)
  (hInv:∀ s A,I s A->Inv s A) (h0:I s0 w)
  (hround:∀ (l:Nat) (s:σ) (x:α) (W:World),w.heap.size+2+K<=W.heap.size->I s W->gives s x →
   assign.wpIn (F.inRound l) (n-1-1) P (Exit.then (fun a' Wa=>Gr W Wa/\∀ W2,XF4 (fun k=>k=w.heap.size+1) Wa W2->I s W2->body.wpIn (F.inRound l) (n-1-1) P (Y3E w.heap.size (2+K) I Ix next s x W2) a' W2) (fun _ _ _=>False))
    { tmps:=(ps.zip (encs x)).foldl (fun t (p,v)=>t.setIfInBounds p v) a.tmps,defers:=[] } W)
  (hdone:∀ (D:Nat) (s:σ) (W:World),D=w.heap.size->fin s->I s W->W.heap[D]?=some (.deferred (some []))->Q .normal { a with defers:={ target:=.collected D,args:=#[] } :: a.defers } W)
  (hstop:∀ (D:Nat) (c:Code) (W:World),D=w.heap.size->Ix c W->W.heap[D]?=some (.deferred (some []))->c.wpIn F n P Q { a with defers:={ target:=.collected D,args:=#[] } :: a.defers } W):
  (Code.rangeFunc g ps assign body).wpIn F n P Q a w:=by
 refine wpIn_rangeFunc ?_;intro fn hfn;rw [hro];obtain ⟨rec,hrec⟩:∃ rec:LoopState->Option Code->Loop,rec=fun st pe=>{ state:=st,pending:=pe,fn,tmps:=a.tmps,params:=ps,assign,body,defers:=w.heap.size }:=⟨_,rfl⟩;obtain ⟨W1,hW1⟩:∃ W1,(w.alloc (.deferred (some []))).alloc (.loop (rec .ready none))=W1:=⟨_,rfl⟩
 have hL1:W1.heap[w.heap.size+1]?=some (.loop (rec .ready none)):=by
  rw [<-hW1];have:=World.alloc_heap_new (w.alloc (.deferred (some []))) (.loop (rec .ready none));rwa [World.size_alloc] at this
 have hK1:W1.heap[w.heap.size]?=some (.deferred (some [])):=by
  rw [<-hW1];exact (Below.heap_alloc _ _ _ (by simp)).trans (World.alloc_heap_new w _)
 have hg1:Gr w W1:=by rw [<-hW1];exact ((Gr.refl w).alloc _).alloc _
 have tt:∀ {A B:World},Gr A B->XF4 (fun k=>w.heap.size<=k/\k<w.heap.size+2+K) A B:=fun h=>h.touch _;have lt_of:∀ {A:World} {k:Nat} {o:Obj},A.heap[k]?=some o->k<A.heap.size:=fun h=>(Array.getElem?_eq_some_iff.1 h).1
 refine ⟨w.heap.size+1,[{ target:=.collected w.heap.size,args:=#[] }],W1,{ target:=.fn (.func gf) lb,args:=#[.func (.yield (w.heap.size+1)) #[] #[]] },W1,gf,
  #[.func (.yield (w.heap.size + 1)) #[] #[]] ++ lb, W1, ?_, ?_, ?_, ?_, fun _ => h1, ?_⟩
 ·rw [<-hW1,hrec];exact run_enterLoop_outer _ _ _ _ _
 ·simp only [resolve,hg];simp [go_sem]
 ·intro f' hf';simp [Target.leads] at hf';subst hf';exact hFg
 ·simp [invoke,go_sem,eg]
 ·have hs1:W1.heap.size=w.heap.size+2:=by rw [<-hW1];simp
  refine (hseq (w.heap.size+1)
   (fun s W=>I s W/\W.heap[w.heap.size+1]?=some (.loop (rec .ready none))/\W.heap[w.heap.size]?=some (.deferred (some [])))
   (fun W=>∃ c,Ix c W/\W.heap[w.heap.size+1]?=some (.loop (rec .done (some c)))/\W.heap[w.heap.size]?=some (.deferred (some [])))
   W1 hg1
   (fun s A B hs ht=>⟨hI s A B hs.1 (ht.mono (fun k _ h=>by omega)),(ht.block _ (lt_of hs.2.1) (by omega)).trans hs.2.1,(ht.block _ (lt_of hs.2.2) (by omega)).trans hs.2.2⟩)
   (fun A B hs ht=>by
    obtain ⟨c,hc,hl,hk⟩:=hs
    exact ⟨c,hIx c A B hc (ht.mono (fun k _ h=>by omega)),(ht.block _ (lt_of hl) (by omega)).trans hl,(ht.block _ (lt_of hk) (by omega)).trans hk⟩)
   (fun s A hs=>hInv s A hs.1) ?_ ⟨hI _ _ _ h0 (tt hg1),hL1,hK1⟩).mono ?_
  ·rintro s x W ⟨hi,hl,hk⟩ hszW hgv;have hlt:w.heap.size+1<W.heap.size:=lt_of hl;have hy:=run_yield (P:=P) (args:=encs x) hl (by rw [hrec];exact hps x);rw [hrec] at hy;refine ⟨fn,_,assign,body,hy,roundIn_of_wpIn hfn (wpIn_mono (hround _ s x W (by omega) hi hgv) ?_)⟩;rintro e a' Wa hp;cases e with
   | normal=>?_
   | _=>exact False.elim hp
   obtain ⟨hga,hbody⟩:=hp
   replace hl:=(hga.block hlt).trans hl
   replace hk:=(hga.block (by omega)).trans hk
   replace hlt:=lt_of hl
   replace hi:=hI _ _ _ hi (tt hga)
   clear hy;revert hbody hga;generalize W=W0;intro hga hbody;obtain ⟨W,rfl⟩:∃ W,W=Wa:=⟨_,rfl⟩;refine ⟨_,run_beginRound hl (by rw [hrec]),?_⟩;have hl2:(W.putObj (w.heap.size+1) (.loop { rec .ready none with state:=.busy })).heap[w.heap.size+1]?=some (.loop { rec .ready none with state:=.busy }):=World.putObj_heap_same hlt;have hk2:(W.putObj (w.heap.size+1) (.loop { rec .ready none with state:=.busy })).heap[w.heap.size]?=some (.deferred (some [])):=(World.putObj_heap_other (by omega)).trans hk;refine wpIn_mono (hbody _ ⟨rfl,rfl,rfl,by simp,fun k _ hn=>World.putObj_heap_other hn⟩ (hI _ _ _ hi ((Vx3 W (w.heap.size+1) _).mono (fun k _ h=>by omega)))) ?_
   have fin:∀ (jump:Option Code) (W3:World),XF4 (fun k=>k<w.heap.size\/w.heap.size+(2+K)<=k) (W.putObj (w.heap.size+1) (.loop { rec .ready none with state:=.busy })) W3 →
     (Instr.endRound (w.heap.size+1) jump).run P W3=.ok (.bool jump.isNone) (W3.putObj (w.heap.size+1) (.loop (rec (if jump.isNone then .ready else .done) jump))) ∧
     (W3.putObj (w.heap.size+1) (.loop (rec (if jump.isNone then .ready else .done) jump))).heap[w.heap.size+1]?=some (.loop (rec (if jump.isNone then .ready else .done) jump)) ∧
     (W3.putObj (w.heap.size+1) (.loop (rec (if jump.isNone then .ready else .done) jump))).heap[w.heap.size]?=some (.deferred (some [])):=fun jump W3 hk3=>by
    have hl3:=(hk3.block _ (lt_of hl2) (by omega)).trans hl2;have:=run_endRound (P:=P) jump hl3;rw [hrec] at this ⊢;exact ⟨this,World.putObj_heap_same (lt_of hl3),(World.putObj_heap_other (by omega)).trans ((hk3.block _ (lt_of hk2) (by omega)).trans hk2)⟩
   have tch:∀ (o:Obj) (W3:World),XF4 (fun k=>k<w.heap.size\/w.heap.size+(2+K)<=k) (W.putObj (w.heap.size+1) (.loop { rec .ready none with state:=.busy })) W3->XF4 (fun k=>k<W1.heap.size\/W1.heap.size+K<=k) W0 (W3.putObj (w.heap.size+1) o):=fun o W3 h3=>
    (((hga.touch _).trans ((Vx3 W (w.heap.size+1) _).mono (fun k _ h=>by omega))).trans (h3.mono (fun k _ h=>by omega))).trans ((Vx3 W3 (w.heap.size+1) o).mono (fun k _ h=>by omega))
   rintro e a3 W3 hp;cases e with
   | normal=>
    obtain ⟨hk3,s',hn3,hi3⟩:=hp;obtain ⟨hr,hl4,hk4⟩:=fin none W3 hk3;exact ⟨_,_,hr,.inl ⟨rfl,s',hn3,hI _ _ _ hi3 ((Vx3 W3 (w.heap.size+1) _).mono (fun k _ h=>by omega)),hl4,hk4⟩,tch _ _ hk3⟩
   | ret=>
    obtain ⟨hk3,hi3⟩:=hp;obtain ⟨hr,hl4,hk4⟩:=fin (some .ret) W3 hk3;exact ⟨_,_,hr,.inr ⟨rfl,.ret,hIx _ _ _ hi3 ((Vx3 W3 (w.heap.size+1) _).mono (fun k _ h=>by omega)),hl4,hk4⟩,tch _ _ hk3⟩
   | exit id=>
    obtain ⟨hk3,hi3⟩:=hp;obtain ⟨hr,hl4,hk4⟩:=fin (some (.exit id)) W3 hk3;exact ⟨_,_,hr,.inr ⟨rfl,.exit id,hIx _ _ _ hi3 ((Vx3 W3 (w.heap.size+1) _).mono (fun k _ h=>by omega)),hl4,hk4⟩,tch _ _ hk3⟩
   | goto t=>
    obtain ⟨hk3,hi3⟩:=hp;obtain ⟨hr,hl4,hk4⟩:=fin (some (.goto t)) W3 hk3;exact ⟨_,_,hr,.inr ⟨rfl,.goto t,hIx _ _ _ hi3 ((Vx3 W3 (w.heap.size+1) _).mono (fun k _ h=>by omega)),hl4,hk4⟩,tch _ _ hk3⟩
   | panic ch=>exact hp.elim
   | outgrown=>exact hp.elim
  ·rintro e W2 ⟨⟨v,rfl⟩,(⟨s,hS,hi,hl,hk⟩ | ⟨c,hi,hl,hk⟩)⟩
   ·exact ⟨none,_,by have:=run_endLoop (P:=P) hl (by rw [hrec];simp);rw [hrec] at this;exact this,hdone _ s _ rfl hS (hI _ _ _ hi ((Vx3 W2 (w.heap.size+1) _).mono (fun k _ h=>by omega))) ((World.putObj_heap_other (by omega)).trans hk)⟩
   ·exact ⟨some c,_,by have:=run_endLoop (P:=P) hl (by rw [hrec];simp);rw [hrec] at this;exact this,hstop _ c _ rfl (hIx _ _ _ hi ((Vx3 W2 (w.heap.size+1) _).mono (fun k _ h=>by omega))) ((World.putObj_heap_other (by omega)).trans hk)⟩
end
end
end
section
section
open Go.RowKit Go.Shelf Word
attribute [local go_sem] Oper.semAt_some
set_option maxHeartbeats 3200000 in
theorem Yd3 (n':Nat) (box m p1 b1 p2 b2 n:Nat) (L:List Ob) (w:World):
  VZU 4 Fence.wide n' Tryz.prog 210 #[.pointer (some ⟨box,0,none⟩)] VYF (Zxj box m p1 b1 p2 b2 n L) (YdH L) (fun j _ j'=>j'=j+1) (fun j=>j=L.length) 0 w:=by
 intro l J Jx W hg hJ hJx hI hY h0;refine callsIn_wide.2 ((callsIn_wide (n:=5)).1 ?_);refine callsIn_of_wp_marks Tryz.func210 rfl trivial ?_ rfl;have hi0:=hI _ _ h0;have c0:=hi0.2.2.1;have k0:=hi0.1.c0;have HI0:=hid hi0;have HJ0:=hid h0;have HII:=hid hI;clear hi0 h0 hI;simp only [Tryz.ntmps210,List.size_toArray,List.length_cons,List.length_nil,Nat.reduceAdd,Nat.reduceSub,Array.replicate_succ,Array.replicate_zero,List.push_toArray,List.append_toArray,List.nil_append,List.cons_append];have hbox:box<W.heap.size:=ZQf c0;have hmw:=HI0.o.1.hm
 gi_wp2_with (first
  | (refine ⟨trivial,?_⟩;gi_at_call 181;refine (callsIn_wide.2 (VaK (HI0.o.1.gr ((Gr.refl W).alloc _)))).mono ?_;rintro e w1 ⟨rfl,rfl⟩)
  | (refine ⟨trivial,?_⟩;gi_at_call 211;refine (callsIn_wide.2 (Xig (some ⟨p1,0,none⟩))).mono ?_;rintro e w1 ⟨rfl,rfl⟩))
 obtain ⟨W0,hW0⟩:∃ W0,W0=(W.alloc (.cells #[.func (.yield l) #[] #[]] 227)).alloc (.cells #[.pointer (some ⟨p1,0,none⟩)] 182):=⟨_,rfl⟩;have hg0:Gr W W0:=by rw [hW0];exact ((Gr.refl W).alloc _).alloc _
 have hsz0:W0.heap.size=W.heap.size+2:=by rw [hW0];simp
 have bY:W0.cell? ⟨W.heap.size,0,none⟩=some (.func (.yield l) #[] #[]):=by rw [hW0];exact ((Boxed.new W _ _).alloc _).cell
 have bV:W0.cell? ⟨W.heap.size+1,0,none⟩=some (.pointer (some ⟨p1,0,none⟩)):=by
  rw [hW0];have:=Boxed.new (W.alloc (.cells #[.func (.yield l) #[] #[]] 227)) 182 (.pointer (some ⟨p1,0,none⟩));rw [World.size_alloc] at this;exact this.cell
 rw [<-hW0];have hgood:=HI0.o.1.good;have hnb:=HI0.o.1.nb;have hJ00:J 0 W0:=hJ _ _ _ HJ0.o (hg0.touch _);have HH0:=hid hW0;clear hW0 c0 k0;have hn0:Jxr L ((0:Nat):Int)=0:=Qzy (Nat.zero_le _) (fun i hi h=>by omega) (fun h=>by omega)
 have tI:∀ s A B,X94 n L J W.heap.size (W.heap.size+1) p1 (.func (.yield l) #[] #[]) s A->XF4 (fun k=>W0.heap.size<=k/\k<W0.heap.size+2+0) A B->X94 n L J W.heap.size (W.heap.size+1) p1 (.func (.yield l) #[] #[]) s B:=fun s A B h t=>
  ⟨h.st,h.ps,by obtain ⟨j,hj,e⟩:=h.j;exact ⟨j,hJ _ _ _ hj (t.mono (fun k _ h=>by omega)),e⟩,(t.cell (ZQf h.y) (by show ¬ (W0.heap.size<=W.heap.size/\_);omega) 0).trans h.y,(t.cell (ZQf h.v) (by show ¬ (W0.heap.size<=W.heap.size+1/\_);omega) 0).trans h.v⟩
 refine JYJ (K:=0) (s0:=(VC5 n L,0)) rfl (by omega) (gf:=257) (lb:=#[.pointer (some ⟨W.heap.size+1,0,none⟩)]) rfl trivial (enters_of Tryz.func257 (by kernel_rfl) rfl)
  (ZNp _ (W.heap.size+1) p1 b1 n (VC5 n L) _).toU (fun _=>rfl)
  (X94 n L J W.heap.size (W.heap.size+1) p1 (.func (.yield l) #[] #[])) (fun c A=>c=.ret/\Jx A) tI (fun c A B h t=>⟨h.1,hJx _ _ h.2 (t.mono (fun k _ h=>by omega))⟩)
  (fun s A h=>by
   obtain ⟨j,hj,-⟩:=h.j;have hi:=HII.o _ _ hj
   exact ⟨by rw [h.st];exact hi.1.v1,by rw [h.st,JQA],hi.2.1,h.v,h.ps⟩)
  ⟨rfl,Nat.zero_le _,⟨0,hJ00,hn0⟩,bY,bV⟩ ?round ?done ?stop
 case round=>
  intro lp s x W3 hsz3 hI3 hgv;gi_wp2;refine ⟨Gr.refl _,fun W4 ht4 hI4=>?_⟩;obtain ⟨hst,hps,⟨j,hj,hnx⟩,hy,hv⟩:=hI4;obtain ⟨hx,hlt⟩:=hgv;have hi4:=HII.o _ _ hj;rw [hst] at hx hlt
  have hjl:j<L.length:=by
   rcases Nat.lt_or_ge j L.length with h | h
   ·exact h
   ·have:=YTx hgood (a:=(s.2:Int)) (by rw [hnx];omega);omega
  have hxj:x=L[j].1:=by
   have:=(Jia hgood (a:=(s.2:Int)) (by rw [hnx];exact hjl)).1;rw [hx,this];congr 2
  subst hxj;have hJd:J j W4.drew:=hJ _ _ _ hj ((Gr.refl W4).drew.touch _);have hsz4:W.heap.size+4<=W4.drew.heap.size:=by have:=ht4.size;show W.heap.size+4<=W4.heap.size;omega
  obtain ⟨fn,tmps,assign,body,hyy,hR⟩:=ZVe (m':=2) (l2:=lp) (hY j L[j] W4.drew hJd hsz4 (List.getElem?_eq_getElem hjl));have HZ:=hid (VRE (hi4.1.gr (Gr.refl W4).drew) ((Gr.refl W4).drew.tab hi4.2.1.lt hi4.2.1) hjl);have cbx:=hi4.2.2.1;have hbxs:=hsz0;have HS:=hid (And.intro hst (And.intro hnx hjl));clear hst hnx hj hi4 hx hlt hI3;dsimp only [VYF] at hyy
  have hR2:=hR.mono (R':=fun e W'=>∃ bb:Bool,e=.returned (.bool bb)/\((bb=true/\J (j+1) W')\/(bb=false/\Jx W'))/\XF4 (fun k=>k<W.heap.size\/W.heap.size+4<=k) W4.drew W') (by
   rintro e W' ⟨⟨he,s',rfl,hs'⟩ | ⟨he,hx⟩,ht⟩
   ·exact ⟨true,he,.inl ⟨rfl,hs'⟩,ht⟩
   ·exact ⟨false,he,.inr ⟨rfl,hx⟩,ht⟩)
  clear hR;gi_wp2;obtain ⟨Sx,hSx⟩:∃ S:World->Prop,S=fun A=>A.cell? ⟨W.heap.size,0,none⟩=some (.func (.yield l) #[] #[]):=⟨_,rfl⟩;have x1:∀ p:ZJV Sx,p.w.cell? ⟨W.heap.size,0,none⟩=some (.func (.yield l) #[] #[]):=fun p=>ZJV.get hSx p;have hS0:Sx W4.drew:=by rw [hSx];exact hy
  have HSx:=hid hSx;clear hSx;have inst:Inhabited (ZJV Sx):=⟨⟨_,hS0⟩⟩;refine V0Y Sx 7 [([0,1,3],2),([],4),([],5)] [6] (fun _=>trivial) (by kernel_rfl) (by kernel_rfl) hS0 ?_;refine QgQ ?_;simp only [XZy,List.getElem?_cons_zero,List.getElem?_cons_succ]
  repeat (go_big_quiet_step (fail))
  refine wpQuiet_nil ?_;gi_wp2;refine ⟨.inr (ZJV.of hS0),?_⟩;refine QgQ ?_;simp only [XZy,List.getElem?_cons_zero,List.getElem?_cons_succ];refine wpQuiet_nil ?_;gi_wp2_with (refine ⟨trivial,?_⟩;gi_at_call 212;refine (CallsIn.inRound lp (callsIn_wide.2 HZ.o)).mono ?_;rintro e w' ⟨rfl,rfl⟩);refine ⟨.inr (ZJV.of hS0),?_⟩;refine QgQ ?_;simp only [XZy,List.getElem?_cons_zero,List.getElem?_cons_succ];refine wpQuiet_nil ?_;gi_wp2;refine hR2.mono ?_;rintro e W5 ⟨bb,rfl,hor,ht5⟩;have hy5:=(ht5.cell (ZQf hy) (by show ¬ (W.heap.size<W.heap.size\/W.heap.size+4<=W.heap.size);omega) 0).trans hy;have hv5:=(ht5.cell (ZQf hv) (by show ¬ (W.heap.size+1<W.heap.size\/W.heap.size+4<=W.heap.size+1);omega) 0).trans hv;gi_wp2;refine ⟨.inr (ZJV.of (by rw [HSx.o];exact hy5)),?_⟩;refine X0q ?_;simp only [XZy,List.getElem?_cons_zero,List.getElem?_cons_succ]
  repeat (go_big_quiet_step (fail))
  refine wpQuiet_nil ?_;refine NoPanic.normal ?_;have T5:=hid (((Gr.refl W4).drew.touch (fun k=>k<W0.heap.size\/W0.heap.size+(2+0)<=k)).trans (ht5.mono (fun k _ h=>by omega)));have HSZ:=hid (hgood.sz _ (List.getElem_mem hjl));clear x1 hS0 HSx inst hR2 ht5;clear Sx;cases bb with
  | true=>
   have hJ5:J (j+1) W5:=by
    rcases hor with ⟨_,h⟩ | ⟨h,_⟩
    ·exact h
    ·cases h
   have HJ5:=hid hJ5;clear hor hJ5;gi_wp2;exact ⟨T5.o,(VC5 n L,L[j].1+1),rfl,rfl,by have:=HSZ.o;show L[j].1+1<=n;omega,⟨j+1,HJ5.o,by have:=ZjB hgood hjl;push_cast;exact this⟩,hy5,hv5⟩
  | false=>
   have hJ5:Jx W5:=by
    rcases hor with ⟨h,_⟩ | ⟨_,h⟩
    ·cases h
    ·exact h
   have HJ5:=hid hJ5;clear hor hJ5;gi_wp2;exact ⟨T5.o,rfl,HJ5.o⟩
 case done=>
  rintro D s W3 hD hfin hI3 hK;obtain ⟨hst,hps,⟨j,hj,hnx⟩,hy,hv⟩:=hI3
  have hjl:¬ j<L.length:=fun h=>by
   have:=Jia hgood (a:=(s.2:Int)) (by rw [hnx];exact h);unfold VEN at hfin;rw [hst] at hfin;exact hfin this.2
  have hje:j=L.length:=by have:=XH0 L (s.2:Int);omega
  have HE:=hid (And.intro hje hj);have HK:=hid hK;have HD:=hid hD;clear hst hps hnx hy hv hfin hje hj hK hD hjl;gi_wp2;refine ⟨by simp,.inl ⟨_,_,rfl,run_takeDeferred HK.o,?_⟩⟩;refine ⟨.tuple #[],results_none rfl _ _ _,⟨_,rfl⟩,.inl ⟨j,HE.o.1,hJ _ _ _ HE.o.2 ((Vx3 W3 D _).mono (fun k _ h=>by have:=HD.o;omega))⟩⟩
 case stop=>
  rintro D c W3 hD ⟨rfl,hx⟩ hK;have HE:=hid hx;have HK:=hid hK;have HD:=hid hD;clear hx hK hD;gi_wp2;refine ⟨by simp,.inl ⟨_,_,rfl,run_takeDeferred HK.o,?_⟩⟩;refine ⟨.tuple #[],results_none rfl _ _ _,⟨_,rfl⟩,.inr (hJx _ _ HE.o ((Vx3 W3 D _).mono (fun k _ h=>by have:=HD.o;omega)))⟩
end
end
end
section
section
section
open Go.RowKit Word
structure MkC where
 k:Nat
 z:Sp
 m:Nat
 p1:Nat
 b1:Nat
 p2:Nat
 b2:Nat
 n:Nat
 g:Nat
 R:Nat
 wk:Nat
 B:Nat
def MkC.T (c:MkC) (G:Nat->Prop) (i:Nat):Prop:=i=c.k\/YBz c.m c.b1 c.b2 i\/G i
structure X2M (c:MkC) (SV G SW:Nat->Prop):Prop where
 sv':∀ i,SV i->i<c.B/\¬ c.T G i
 sw':∀ i,SW i->i<c.B/\¬ c.T G i
 tab':1<c.B/\¬ c.T G 1
 p1':c.p1<c.B/\¬ c.T G c.p1
 p2':c.p2<c.B/\¬ c.T G c.p2
 k1:¬ YBz c.m c.b1 c.b2 c.k
 k2:¬ G c.k
 kB:c.k<c.B
 mg:∀ i,YBz c.m c.b1 c.b2 i->¬ G i
 mB:∀ i,YBz c.m c.b1 c.b2 i->i<c.B
 sd':∀ i,c.z.D i->i<c.B/\¬ c.T G i
section
variable {c:MkC} {SV G SW:Nat->Prop}
theorem X2M.sv (h:X2M c SV G SW):∀ i,SV i->¬ c.T G i:=fun i hi=>(h.sv' i hi).2
theorem X2M.sw (h:X2M c SV G SW):∀ i,SW i->¬ c.T G i:=fun i hi=>(h.sw' i hi).2
theorem X2M.sd (h:X2M c SV G SW):∀ i,c.z.D i->¬ c.T G i:=fun i hi=>(h.sd' i hi).2
theorem MkC.vm (hz:c.z.Ok) (hs:X2M c SV G SW) {v:Vm} {T':Nat->Prop} {w w':World} (h:c.z.I v SV w) (t:XF4 T' w w') (hT:∀ i,T' i->c.T G i):c.z.I v SV w':=hz.fr h t (fun k _ hk=>⟨fun h=>hs.sv k h (hT k hk),fun h=>hs.sd k h (hT k hk)⟩) (fun _ h=>h)
theorem X2M.tab (h:X2M c SV G SW):¬ c.T G 1:=h.tab'.2
theorem X2M.p1 (h:X2M c SV G SW):¬ c.T G c.p1:=h.p1'.2
theorem X2M.p2 (h:X2M c SV G SW):¬ c.T G c.p2:=h.p2'.2
theorem X2M.plus (h:X2M c SV G SW) {w:World} (hw:c.B<=w.heap.size):X2M c SV (plus G w) SW:=by
 have key:∀ i,i<c.B/\¬ c.T G i->i<c.B/\¬ c.T (Go.Proofs.YtmjoodkiiekjcaaGreatDoor.plus G w) i:=fun i hi=>⟨hi.1,fun ht=>by
  rcases ht with h1 | h1 | h1 | h1
  ·exact hi.2 (.inl h1)
  ·exact hi.2 (.inr (.inl h1))
  ·exact hi.2 (.inr (.inr h1))
  ·have:=hi.1;omega⟩
 exact ⟨fun i hi=>key i (h.sv' i hi),fun i hi=>key i (h.sw' i hi),key _ h.tab',key _ h.p1',key _ h.p2',h.k1,fun h1=>h1.elim h.k2 (fun h2=>by have:=h.kB;omega),h.kB,fun i hi h1=>h1.elim (h.mg i hi) (fun h2=>by have:=h.mB i hi;omega),h.mB,fun i hi=>key i (h.sd' i hi)⟩
end
def J1W (c:MkC) (L:List Ob) (r vi:Int):List Value:=[c.z.v,.pointer (some ⟨c.m,0,none⟩),.pointer (some ⟨c.g,0,none⟩),.pointer (some ⟨c.wk,0,none⟩),.int .i64 (L.length:Nat),.int .i64 (Qd4 L:Nat),.int .i64 r,.int .i64 vi]
structure ZxD (w:World) (SV G SW:Nat->Prop) (c:MkC) (v:Vm) (s:MkS) (r vi:Int):Prop where
 vm:c.z.I v SV w
 ext:Ext w c.m c.p1 c.b1 c.p2 c.b2 c.n s.L
 stk:QH2 w G c.g s.st c.R s.lost
 wk:ZIR w SW c.wk c.z.v []
 row:Rec w c.k 193 (J1W c s.L r vi)
 tab:VRW w
 sep:X2M c SV G SW
 bB:c.B<=w.heap.size
 zk:c.z.Ok/\¬ c.z.M
theorem ZxD.gr {w w':World} {SV G SW:Nat->Prop} {c:MkC} {v:Vm} {s:MkS} {r vi:Int} (h:ZxD w SV G SW c v s r vi) (g:Gr w w'):ZxD w' SV G SW c v s r vi:=
 ⟨h.zk.1.gr h.vm g,h.ext.gr g,h.stk.gr g,h.wk.gr g,h.row.gr g,g.tab h.tab.lt h.tab,h.sep,Nat.le_trans h.bB g.size,h.zk⟩
theorem ZxD.set {w:World} {SV G SW:Nat->Prop} {c:MkC} {v:Vm} {s:MkS} {r vi:Int} (h:ZxD w SV G SW c v s r vi) {j:Nat} {u:Value} {r' vi':Int} (hj:(J1W c s.L r vi).set j u=J1W c s.L r' vi'):ZxD (w.setCell ⟨c.k,j,none⟩ u) SV G SW c v s r' vi':=by
 have t:XF4 (fun i=>i=c.k) w (w.setCell ⟨c.k,j,none⟩ u):=(XF4.refl (fun i=>i=c.k) w).setCell (a:=⟨c.k,j,none⟩) (fun _=>rfl) u;have hs:=h.sep;refine ⟨MkC.vm h.zk.1 hs h.vm t (fun i e=>.inl e),?_,h.stk.touch t (fun i hi _ e=>hs.k2 (e ▸ hi)),h.wk.touch t (fun i hi _ e=>hs.sw i hi (.inl e)),hj ▸ h.row.set j u,t.tab h.tab.lt (fun e=>hs.tab (.inl e)) h.tab,hs,Nat.le_trans h.bB t.size,h.zk⟩;exact h.ext.touch t (fun e=>hs.k1 (e ▸ .inl rfl)) (fun e=>hs.p1 (.inl e)) (fun e=>hs.k1 (e ▸ .inr (.inl rfl))) (fun e=>hs.p2 (.inl e)) (fun e=>hs.k1 (e ▸ .inr (.inr rfl)))
theorem YeZ {w:World} {c:MkC} {G:Nat->Prop} (j:Nat) (u:Value):XF4 (c.T G) w (w.setCell ⟨c.k,j,none⟩ u):=(XF4.refl _ w).setCell (a:=⟨c.k,j,none⟩) (fun _=>.inl rfl) u
def Z92 (w:World) (SV G SW:Nat->Prop) (c:MkC) (v:Vm) (P:MkS->Int->Int->Prop) (N:Prop) (e:Ending) (w':World):Prop:=
 XF4 (c.T G) w w'/\((e=.returned (.tuple #[])/\∃ s r vi,ZxD w' SV (plus G w) SW c v s r vi/\P s r vi)\/(e=.panicked [{ v:=VSi 25 0,recovered:=false }]/\N/\∃ s r vi,ZxD w' SV (plus G w) SW c v s r vi))
section
variable {w w':World} {SV G SW:Nat->Prop} {c:MkC} {v:Vm} {P:MkS->Int->Int->Prop} {N:Prop} {s:MkS} {r vi:Int}
theorem ZxD.sub {G':Nat->Prop} (h:ZxD w SV G SW c v s r vi) (hg:∀ i,G i->G' i) (hs:X2M c SV G' SW):ZxD w SV G' SW c v s r vi:=⟨h.vm,h.ext,h.stk.mono hg,h.wk,h.row,h.tab,hs,h.bB,h.zk⟩
theorem ZxD.up (h:ZxD w' SV G SW c v s r vi) (hw:c.B<=w.heap.size):ZxD w' SV (plus G w) SW c v s r vi:=h.sub (fun _ h=>.inl h) (h.sep.plus hw)
theorem ZxD.back {w0:World} (h:ZxD w' SV (plus (plus G w0) w) SW c v s r vi) (hz:w0.heap.size<=w.heap.size) (hs:X2M c SV G SW) (hw:c.B<=w0.heap.size):ZxD w' SV (plus G w0) SW c v s r vi:=
 h.sub (fun _ h=>h.elim id (fun h=>.inr (Nat.le_trans hz h))) (hs.plus hw)
theorem QsC {a b d:World} (h:XF4 (c.T G) a b) (k:XF4 (c.T (plus G a)) b d):XF4 (c.T G) a d:=
 h.trans' k (fun i hi ht=>by
  rcases ht with h1 | h1 | h1 | h1
  ·exact .inl h1
  ·exact .inr (.inl h1)
  ·exact .inr (.inr h1)
  ·omega)
theorem Z92.ok (t:XF4 (c.T G) w w') (h:ZxD w' SV (plus G w) SW c v s r vi) (p:P s r vi):Z92 w SV G SW c v P N (.returned (.tuple #[])) w':=⟨t,.inl ⟨rfl,s,r,vi,h,p⟩⟩
theorem Z92.no (t:XF4 (c.T G) w w') (h:ZxD w' SV (plus G w) SW c v s r vi) (n:N):Z92 w SV G SW c v P N (.panicked [{ v:=VSi 25 0,recovered:=false }]) w':=⟨t,.inr ⟨rfl,n,s,r,vi,h⟩⟩
end
theorem VEk (L:List Ob) (o:Ob):Qd4 (VZz L o)=Qd4 L+o.2:=by
 induction L with
 | nil=>simp [VZz,Qd4]
 | cons q t ih=>
  unfold VZz
  split
  ·simp only [Qd4];omega
  ·simp only [Qd4,ih];omega
theorem Jqz {n:Nat} {L:List Ob} (h:Q4l n L) {a:Int} (ha:Hs L a):ZH8 L a<L.length/\obS L (ZH8 L a)=a:=by
 obtain ⟨o,ho,rfl⟩:=ha;obtain ⟨j,hj,rfl⟩:=List.getElem_of_mem ho;have hz:=(h.sz _ ho).1;rw [XxN h hj (Int.le_refl _) (by omega)];exact ⟨hj,(YpZ hj).1⟩
theorem Z8n {L:List Ob} {a:Int} (hn:¬ Hs L a) (hf:ZH8 L a<L.length):obS L (ZH8 L a)≠a:=by
 rw [(YpZ hf).1];exact fun e=>hn ⟨_,List.getElem_mem hf,e⟩
theorem QH2.set2 {w:World} {G:Nat->Prop} {g R k i j:Nat} {l:List Int} {b:Bool} {u u':Value} (h:QH2 w G g l R b) (hk:¬ G k):QH2 ((w.setCell ⟨k,i,none⟩ u).setCell ⟨k,j,none⟩ u') G g l R b:=
 (h.touch ((XF4.refl (fun x=>x=k) w).setCell (a:=⟨k,i,none⟩) (fun _=>rfl) u) (fun _ hx _ e=>hk (e ▸ hx))).touch ((XF4.refl (fun x=>x=k) _).setCell (a:=⟨k,j,none⟩) (fun _=>rfl) u') (fun _ hx _ e=>hk (e ▸ hx))
theorem VNW {c:MkC} {L:List Ob} {r vi a z:Int} (he:ZbB L c.n a z=0):((J1W c L r vi).set 4 (.int .i64 ((L.length:Nat)+1))).set 5 (.int .i64 ((Qd4 L:Nat)+z))=J1W c (VI0 L c.n a z) r vi:=by
 have hz:=(YLm he).1;have h1:=ZoS he;have h2:Qd4 (VI0 L c.n a z)=Qd4 L+z.toNat:=by unfold VI0;rw [if_pos he,VEk]
 unfold J1W;rw [h1,h2]
 show [_,_,_,_,_,_,_,_]=[_,_,_,_,_,_,_,_]
 have e1:((L.length:Nat):Int)+1=((L.length+1:Nat):Int):=by omega
 have e2:((Qd4 L:Nat):Int)+z=((Qd4 L+z.toNat:Nat):Int):=by omega
 rw [e1,e2]
theorem ZxD.pushed {w w4 w5:World} {SV G SW:Nat->Prop} {c:MkC} {v:Vm} {s:MkS} {r vi:Int} (h:ZxD w SV G SW c v s r vi) {L':List Ob} {st':List Int} {lost':Bool} {u u':Value} (t4:XF4 (YBz c.m c.b1 c.b2) w w4) (x4:Ext w4 c.m c.p1 c.b1 c.p2 c.b2 c.n L')
  (t5:XF4 G ((w4.setCell ⟨c.k,4,none⟩ u).setCell ⟨c.k,5,none⟩ u') w5) (s5:QH2 w5 (plus G ((w4.setCell ⟨c.k,4,none⟩ u).setCell ⟨c.k,5,none⟩ u')) c.g st' c.R lost') (hm:((J1W c s.L r vi).set 4 u).set 5 u'=J1W c L' r vi):
  ZxD w5 SV (plus G w) SW c v ⟨L',st',lost'⟩ r vi/\XF4 (c.T G) w w5:=by
 have hs:=h.sep
 have tk:XF4 (fun i=>i=c.k) w4 ((w4.setCell ⟨c.k,4,none⟩ u).setCell ⟨c.k,5,none⟩ u'):=
  ((XF4.refl (fun i=>i=c.k) w4).setCell (a:=⟨c.k,4,none⟩) (fun _=>rfl) u).setCell (a:=⟨c.k,5,none⟩) (fun _=>rfl) u'
 have hz:w.heap.size<=((w4.setCell ⟨c.k,4,none⟩ u).setCell ⟨c.k,5,none⟩ u').heap.size:=Nat.le_trans t4.size tk.size;have hk5:¬ G c.k:=hs.k2
 refine ⟨⟨MkC.vm h.zk.1 hs (MkC.vm h.zk.1 hs (MkC.vm h.zk.1 hs h.vm t4 (fun i e=>.inr (.inl e))) tk (fun i e=>.inl e)) t5 (fun i e=>.inr (.inr e)),?_,s5.mono (fun i hi=>hi.imp id (fun h'=>Nat.le_trans hz h')),((h.wk.touch t4 (fun i hi _ e=>hs.sw i hi (.inr (.inl e)))).touch tk (fun i hi _ e=>hs.sw i hi (.inl e))).touch t5 (fun i hi _ e=>hs.sw i hi (.inr (.inr e))),
   (hm ▸ ((h.row.touch t4 hs.k1).set 4 u).set 5 u').touch t5 hk5,?_,hs.plus h.bB,Nat.le_trans h.bB (Nat.le_trans hz t5.size),h.zk⟩,?_⟩
 ·have e1:=x4.touch tk (fun e=>hs.k1 (e ▸ .inl rfl)) (fun e=>hs.p1 (.inl e)) (fun e=>hs.k1 (e ▸ .inr (.inl rfl))) (fun e=>hs.p2 (.inl e)) (fun e=>hs.k1 (e ▸ .inr (.inr rfl)));exact e1.touch t5 (hs.mg _ (.inl rfl)) (fun e=>hs.p1 (.inr (.inr e))) (hs.mg _ (.inr (.inl rfl))) (fun e=>hs.p2 (.inr (.inr e))) (hs.mg _ (.inr (.inr rfl)))
 ·have a1:=t4.tab h.tab.lt (fun e=>hs.tab (.inr (.inl e))) h.tab;have a2:=tk.tab a1.lt (fun e=>hs.tab (.inl e)) a1;exact t5.tab a2.lt (fun e=>hs.tab (.inr (.inr e))) a2
 ·exact ((t4.mono (fun i _ hi=>.inr (.inl hi))).trans (tk.mono (fun i _ hi=>.inl hi))).trans (t5.mono (fun i _ hi=>.inr (.inr hi)))
section
variable {w:World} {SV G SW:Nat->Prop} {c:MkC} {v:Vm} {s:MkS} {r vi:Int} {X:Int->Prop} {rs:List Int}
theorem Xot (w:World) (k:Nat):Calls Tryz.prog 241 #[.pointer (some ⟨k,0,none⟩),.bool true] w fun e w'=>e=.returned (.tuple #[])/\w=w':=by
 go_enter Tryz.func241,Tryz.ntmps241;go_wp2;refine bodyPost_end (results_none rfl _ _ _) rfl ?_;exact ⟨rfl,rfl⟩
theorem YeK (h:ZxD w SV G SW c v s r vi):Calls Tryz.prog 241 #[.pointer (some ⟨c.k,0,none⟩),.bool false] w fun e w'=>e=.panicked [{ v:=VSi 25 0,recovered:=false }]/\w=w':=by
 have c3:=h.row.cell (j:=3) rfl;have HF:=hid (JcB h.zk.1.nn h.wk 25 0);clear h;go_enter Tryz.func241,Tryz.ntmps241;go_wp2_with (go_at_call 234;refine HF.o.mono ?_;rintro e w1 ⟨rfl,rfl⟩);exact ⟨rfl,rfl,rfl⟩
def Sp.Rd (z:Sp) (v:Vm) (a:Int):Prop:=(0<a->z.P a)/\∀ i:Int,v.plE a i 1=0->z.P (a+1+i)
def XLt (s:MkS) (v:Vm) (rs:List Int) (c:MkC) (X:Int->Prop) (a r vi:Int) (s':MkS) (r' vi':Int):Prop:=YK6 v rs c.n c.R X s'/\QxY s s'/\(a≠0->Hs s'.L a)/\r'=r/\vi'=vi
set_option maxHeartbeats 3200000 in
theorem VVL (h:ZxD w SV G SW c v s r vi) (hp:∀ a,Rch v rs a->c.z.Rd v a) (hi:YK6 v rs c.n c.R X s) {a:Int} (ha:a≠0->Rch v rs a):Calls Tryz.prog 185 #[.pointer (some ⟨c.k,0,none⟩),.int .i64 a] w (Z92 w SV G SW c v (XLt s v rs c X a r vi) (¬ Xd6 v rs c.n)):=by
 have H:=hid h;have HI:=hid hi;by_cases h0:a=0
 ·subst h0;clear h hi ha hp;go_enter Tryz.func185,Tryz.ntmps185;go_wp2;refine bodyPost_end (results_none rfl _ _ _) rfl ?_;exact Z92.ok (XF4.refl _ _) (H.o.up H.o.bB) ⟨HI.o,QxY.refl _,fun h=>absurd rfl h,rfl,rfl⟩
 ·have hR:=ha h0;have HR:=hid hR;have d0:(a==0)=false:=by simpa using h0
  have c0:=h.row.cell (j:=0) rfl;have c1:=h.row.cell (j:=1) rfl;unfold Sp.v at c0;have HFD:=hid (Q6S h.ext h.tab a);unfold YEC at HFD;have hgd:=hi.mkd.good;by_cases hs:Hs s.L a
  ·obtain ⟨f1,f2⟩:=Jqz hgd hs;rw [f2,decide_eq_true f1] at HFD;have HS:=hid hs;clear h hi ha hp h0 hR hs hgd f1 f2;go_enter Tryz.func185,Tryz.ntmps185;go_wp2_with (go_at_call 240;refine HFD.o.mono ?_;rintro e w1 ⟨rfl,rfl⟩);refine bodyPost_end (results_none rfl _ _ _) rfl ?_;exact Z92.ok (XF4.refl _ _) (H.o.up H.o.bB) ⟨HI.o,QxY.refl _,fun _=>HS.o,rfl,rfl⟩
  ·have HFN:=hid (fun hf=>Z8n hs hf);have HNS:=hid hs;obtain ⟨st,hst⟩:∃ st,st=obS s.L (ZH8 s.L a):=⟨_,rfl⟩;obtain ⟨sz,hsz⟩:∃ sz,sz=obZ s.L (ZH8 s.L a):=⟨_,rfl⟩;obtain ⟨fb,hfb⟩:∃ fb,fb=decide (ZH8 s.L a<s.L.length):=⟨_,rfl⟩;rw [<-hst,<-hsz,<-hfb] at HFD;rw [<-hst] at HFN;have HFB:=hid hfb
   have hft:fb=false\/(fb=true/\(st==a)=false):=by
    cases hb:fb with
    | false=>exact .inl rfl
    | true=>exact .inr ⟨rfl,by have:=HFN.o (of_decide_eq_true (HFB.o.symm.trans hb));simpa using this⟩
   have HRD:=hid (fun W (g:Gr w W)=>(JYm h.zk.1 (h.zk.1.gr h.vm g) a (hp a hR).1).mono fun _ _ hh=>And.intro hh.1 (hh.2.ro h.zk.2));unfold Sp.v at HRD;have hln:s.L.length<=1048576:=Nat.le_trans hgd.len h.ext.nb.2;have hsn:Qd4 s.L<=1048576:=Nat.le_trans (XY5 hgd) h.ext.nb.2;by_cases hE:v.rdE a=0
   ·have HE:=hid hE;obtain ⟨-,-,p,f,k,hh,hsm⟩:=J7F hE;have hpos:=QXB hE;have HSZ:=hid (fun W=>ZUg ⟨p,f,k⟩ W);have ho:v.osz a=Z3o ⟨p,f,k⟩:=by unfold Vm.osz;rw [hh]
    rw [<-ho] at HSZ;rw [hE,hh] at HRD;unfold X79 at HRD HSZ;obtain ⟨z,hz⟩:∃ z,z=v.osz a:=⟨_,rfl⟩;rw [<-hz] at HSZ hpos;have HZ:=hid hz;have HAD:=hid (fun W (g:Gr w W)=>Zc1 (h.ext.gr g) (g.tab h.tab.lt h.tab) a z);unfold Vag at HAD;have hsep:=h.sep;have HT1:=hid (fun (W W':World) (g:Gr w W) (t:XF4 (YBz c.m c.b1 c.b2) W W') (x:Ext W' c.m c.p1 c.b1 c.p2 c.b2 c.n s.L)=>(⟨MkC.vm h.zk.1 hsep (h.zk.1.gr h.vm g) t (fun i e=>.inr (.inl e)),x,(h.stk.gr g).touch t (fun i hi _ e=>hsep.mg i e hi),(h.wk.gr g).touch t (fun i hi _ e=>hsep.sw i hi (.inr (.inl e))),(h.row.gr g).touch t hsep.k1,t.tab (g.tab h.tab.lt h.tab).lt (fun e=>hsep.tab (.inr (.inl e))) (g.tab h.tab.lt h.tab),hsep,Nat.le_trans h.bB (Nat.le_trans g.size t.size),h.zk⟩:ZxD W' SV G SW c v s r vi));by_cases hA:ZbB s.L c.n a z=0
    ·have HA:=hid hA;rw [hA] at HAD;have HMV:=hid (VNW (c:=c) (r:=r) (vi:=vi) hA);have hk2:=h.sep.k2;have HK2:=hid hk2;have HPU:=hid (hi.push hR hE (by rw [<-hz];exact hA));rw [<-hz] at HPU;have hz1:1<=z:=hpos.2.1;have hz2:z<=256:=hpos.2.2;obtain ⟨LN,hLN⟩:∃ LN:Nat,LN=s.L.length:=⟨_,rfl⟩;obtain ⟨SN,hSN⟩:∃ SN:Nat,SN=Qd4 s.L:=⟨_,rfl⟩;rw [<-hLN] at hln HMV;rw [<-hSN] at hsn HMV;have HLN:=hid (And.intro hLN hSN);clear h hi ha hp h0 hR hs hgd hst hsz hfb hE HFN HFB hh hsm ho hz hA hsep hk2 hpos hLN hSN;rcases hft with rfl | ⟨rfl,d3⟩
     all_goals
      go_enter Tryz.func185,Tryz.ntmps185
      go_wp2_with (first
       | (go_at_call 240;refine HFD.o.mono ?_;rintro e w1 ⟨rfl,rfl⟩)
       | (go_at_call 100;refine (HRD.o _ (Gr.refl _)).mono ?_;rintro e w1 ⟨rfl,hg1⟩;have HG1:=hid (hg1.alloc (.cells #[.int .i64 p,.int .i64 f,.int .i64 k] 33));clear hg1)
       | (go_at_call 241;(with_reducible refine (Xot _ _).mono ?_);rintro e w2 ⟨rfl,rfl⟩)
       | (go_at_call 90;refine (HSZ.o _).mono ?_;rintro e w3 ⟨rfl,hg3⟩;have HG3:=hid (HG1.o.trans hg3);have kk1:=(H.o.gr (HG1.o.trans hg3)).row.cell (j:=1) rfl;clear hg3)
       | (go_at_call 208;refine (HAD.o _ HG3.o).mono ?_;rintro e w4 ⟨rfl,ht4,hx4⟩;have HX4:=hid hx4;have HT4:=hid ht4;have HM3:=hid (H.o.gr HG3.o);have HR4:=hid (HM3.o.row.touch ht4 HM3.o.sep.k1);have y2:=HR4.o.cell (j:=2) rfl;have y4:=HR4.o.cell (j:=4) rfl;have y5:=HR4.o.cell (j:=5) rfl;have yf:=HR4.o.free;have HS4:=hid (HM3.o.stk.touch ht4 (fun i hi _ e=>HM3.o.sep.mg i e hi));rw [<-HLN.o.1] at y4;rw [<-HLN.o.2] at y5;clear ht4 hx4)
       | (go_at_call 242;refine (Y4L (HS4.o.set2 HK2.o) a).mono ?_;intro e w5 hp;have hp':(∃ b,e=.returned (.bool b)):=by { rcases hp with ⟨_,rfl,_⟩ | ⟨_,rfl,_⟩ <;> exact ⟨_,rfl⟩ };have HP:=hid hp;obtain ⟨pb,rfl⟩:=hp';clear hp))
      refine bodyPost_end (results_none rfl _ _ _) rfl ?_;have hmv:=HMV.o;rw [HLN.o.1,HLN.o.2] at hmv
      have key:∀ st' lost',s.push c.R (VI0 s.L c.n a z) a=⟨VI0 s.L c.n a z,st',lost'⟩->XF4 G ((w4.setCell ⟨c.k,4,none⟩ (.int .i64 ((s.L.length:Nat)+1))).setCell ⟨c.k,5,none⟩ (.int .i64 ((Qd4 s.L:Nat)+z))) w5/\QH2 w5 (plus G ((w4.setCell ⟨c.k,4,none⟩ (.int .i64 ((s.L.length:Nat)+1))).setCell ⟨c.k,5,none⟩ (.int .i64 ((Qd4 s.L:Nat)+z)))) c.g st' c.R lost'->Z92 w SV G SW c v (XLt s v rs c X a r vi) (¬ Xd6 v rs c.n) (.returned (.tuple #[])) w5:=fun st' lost' hpe ⟨ht5,hs5⟩=>by
       obtain ⟨q1,q2,q3⟩:=HPU.o;rw [hpe] at q1 q2 q3;obtain ⟨m5,t5⟩:=HM3.o.pushed HT4.o HX4.o ht5 hs5 hmv;exact Z92.ok ((HG3.o.touch _).trans t5) (m5.sub (fun i hi=>hi.imp id (fun h'=>Nat.le_trans HG3.o.size h')) (H.o.sep.plus H.o.bB)) ⟨q1,q2,fun _=>q3,rfl,rfl⟩
      rcases HP.o with ⟨hf,-,ht5,hs5⟩ | ⟨hf,-,ht5,hs5⟩
      ·refine key s.st true (if_neg (by omega)) ⟨?_,?_⟩
       ·rw [HLN.o.1,HLN.o.2] at ht5;exact ht5
       ·rw [HLN.o.1,HLN.o.2] at hs5;exact hs5
      ·refine key (s.st++[a]) s.lost (if_pos hf) ⟨?_,?_⟩
       ·rw [HLN.o.1,HLN.o.2] at ht5;exact ht5
       ·rw [HLN.o.1,HLN.o.2] at hs5;exact hs5
    ·obtain ⟨y,hy⟩:∃ y,y=ZbB s.L c.n a z:=⟨_,rfl⟩;have d2:(y==0)=false:=by rw [hy];simpa using hA
     have HAE:=hid hA;have HY:=hid hy;clear h hi ha hp h0 hR hs hgd hst hsz hfb hE HFN HFB hh hsm ho hz hA hy hsep;rcases hft with rfl | ⟨rfl,d3⟩
     all_goals
      go_enter Tryz.func185,Tryz.ntmps185
      go_wp2_with (first
       | (go_at_call 240;refine HFD.o.mono ?_;rintro e w1 ⟨rfl,rfl⟩)
       | (go_at_call 100;refine (HRD.o _ (Gr.refl _)).mono ?_;rintro e w1 ⟨rfl,hg1⟩;have HG1:=hid (hg1.alloc (.cells #[.int .i64 p,.int .i64 f,.int .i64 k] 33));clear hg1)
       | (go_at_call 241;(with_reducible refine (YeK HM4.o).mono ?_);rintro e w2 ⟨rfl,rfl⟩)
       | (go_at_call 241;(with_reducible refine (Xot _ _).mono ?_);rintro e w2 ⟨rfl,rfl⟩)
       | (go_at_call 90;refine (HSZ.o _).mono ?_;rintro e w3 ⟨rfl,hg3⟩;have HG3:=hid (HG1.o.trans hg3);have kk1:=(H.o.gr (HG1.o.trans hg3)).row.cell (j:=1) rfl;clear hg3)
       | (go_at_call 208;refine (HAD.o _ HG3.o).mono ?_;rintro e w4 ⟨rfl,ht4,hx4⟩;rw [<-HY.o];have HT4:=hid ((HG3.o.touch (c.T G)).trans (ht4.mono (fun i _ hi=>.inr (.inl hi))));have HM4:=hid (HT1.o _ _ HG3.o ht4 (by rw [show VI0 s.L c.n a z=s.L from if_neg HAE.o] at hx4;exact hx4));clear ht4 hx4))
      exact ⟨rfl,Z92.no HT4.o (HM4.o.up H.o.bB) (HI.o.mkd.fail HR.o HNS.o (by rw [<-HZ.o];exact HAE.o))⟩
   ·have HE:=hid hE;obtain ⟨y,hy⟩:∃ y,y=v.rdE a:=⟨_,rfl⟩;have d2:(y==0)=false:=by rw [hy];simpa using hE
    rw [<-hy] at HRD;unfold X79 at HRD;clear h hi ha hp h0 hR hs hgd hst hsz hfb hE hy HFN HFB;rcases hft with rfl | ⟨rfl,d3⟩
    all_goals
     go_enter Tryz.func185,Tryz.ntmps185
     go_wp2_with (first
      | (go_at_call 240;refine HFD.o.mono ?_;rintro e w1 ⟨rfl,rfl⟩)
      | (go_at_call 100;refine (HRD.o _ (Gr.refl _)).mono ?_;rintro e w1 ⟨rfl,hg1⟩;have HG1:=hid hg1;clear hg1)
      | (go_at_call 241;refine (YeK (H.o.gr (HG1.o.alloc _))).mono ?_;rintro e w2 ⟨rfl,rfl⟩))
     exact ⟨rfl,Z92.no ((HG1.o.alloc _).touch _) ((H.o.gr (HG1.o.alloc _)).up H.o.bB) (ZFY HR.o HE.o)⟩
def Yr9 (s:MkS) (v:Vm) (rs:List Int) (c:MkC) (X:Int->Prop) (a r:Int) (s':MkS) (r' _vi':Int):Prop:=YK6 v rs c.n c.R X s'/\QxY s s'/\Cl v s'.L a/\r'=r
set_option maxHeartbeats 3200000 in
theorem ZUP (h:ZxD w SV G SW c v s r vi) (hp:∀ a,Rch v rs a->c.z.Rd v a) (hi:YK6 v rs c.n c.R X s) {a:Int} (ha:Hs s.L a):Calls Tryz.prog 190 #[.pointer (some ⟨c.k,0,none⟩),.int .i64 a] w (Z92 w SV G SW c v (Yr9 s v rs c X a r) (¬ Xd6 v rs c.n)):=by
 have H:=hid h;have HI:=hid hi;obtain ⟨hR,hE⟩:=hi.mkd.hs ha;obtain ⟨-,-,p,f,k,hh,hsm⟩:=J7F hE;have HR:=hid (And.intro hR (And.intro hE hh));have HPR:=hid (hp a hR);have HRD:=hid (fun W (g:Gr w W)=>(JYm h.zk.1 (h.zk.1.gr h.vm g) a (hp a hR).1).mono fun _ _ hh=>And.intro hh.1 (hh.2.ro h.zk.2));have HP:=hid hp;rw [hE,hh] at HRD;unfold Sp.v X79 at HRD;have c0:=h.row.cell (j:=0) rfl;unfold Sp.v at c0;have HN:=hid (Rec.new w 33 [.int .i64 p,.int .i64 f,.int .i64 k]);clear h hi ha hp hR hE hh;go_enter Tryz.func190,Tryz.ntmps190
 go_wp2_with (first
  | (go_at_call 100;refine (HRD.o _ (Gr.refl _)).mono ?_;rintro e w1 ⟨rfl,hg1⟩;have HG1:=hid (hg1.alloc (.cells #[.int .i64 p,.int .i64 f,.int .i64 k] 33));clear hg1)
  | (go_at_call 241;(with_reducible refine (Xot _ _).mono ?_);rintro e w2 ⟨rfl,rfl⟩))
 go_loopw [24] (fun s24 wr=>∃ (j:Nat) (s':MkS) (r' vi':Int),j<=p/\Hid (ZxD wr SV (plus G w) SW c v s' r' vi')/\Hid (XF4 (c.T G) w wr)/\Hid (YK6 v rs c.n c.R X s'/\QxY s s'/\ClN v s'.L a j/\r'=r)/\s24=.int .i64 j) (fun s24 _=>p-(intOf s24).toNat)
 case atStart=>exact ⟨0,s,r,vi,by omega,⟨(H.o.gr HG1.o).up H.o.bB⟩,⟨HG1.o.touch _⟩,⟨HI.o,QxY.refl _,fun i hi=>by omega,rfl⟩,rfl⟩
 case round=>
  obtain ⟨j,s',r',vi',hj,HM,HT,HJ,rfl⟩:=hrel;have k0:=HM.o.row.cell (j:=0) rfl;have k7:=HM.o.row.cell (j:=7) rfl;have kf:=HM.o.row.free 7;unfold Sp.v at k0;clear c0;by_cases hlast:j=p
  ·subst hlast;go_wp2;refine bodyPost_end (results_none rfl _ _ _) rfl ?_;obtain ⟨q1,q2,q3,q4⟩:=HJ.o;exact Z92.ok (HT.o.trans (YeZ 7 _)) (HM.o.set (r':=r') (vi':=wrap64 (vi' + 1)) rfl) ⟨q1,q2,q3.cl (by rw [HR.o.2.2];exact Int.le_refl _),q4⟩
  ·have hjl:(j:Int)<(p:Int):=by omega
   have HPT:=hid ((Zn7 HM.o.zk.1 HM.o.vm a (j:Int) HPR.o.1 (HPR.o.2 _)).mono fun _ _ hh=>And.intro hh.1 (hh.2.ro HM.o.zk.2));unfold Sp.v at HPT;have HRP:Hid (v.ptE a j=0->((v.ptV a j:Nat):Int)≠0->Rch v rs (v.ptV a j:Nat)):=⟨fun h1 h2=>HR.o.1.step ⟨HR.o.2.1,j,by rw [HR.o.2.2];exact hjl,h1,by omega,rfl⟩⟩;have HJL:=hid (And.intro hj hlast);clear hj hlast;by_cases hpt:v.ptE a j=0
   ·have HP0:=hid hpt;rw [hpt] at HPT;obtain ⟨x,hx⟩:∃ x,x=v.ptV a j:=⟨_,rfl⟩;rw [<-hx] at HPT HRP;have HXX:=hid hx;clear hpt hx
    go_wp2_with (first
     | (go_at_call 111;refine HPT.o.mono ?_;rintro e w2 ⟨rfl,hg2⟩;have HM2:=hid (HM.o.gr hg2);have HT2:=hid (HT.o.trans (hg2.touch _));clear hg2)
     | (go_at_call 241;(with_reducible refine (Xot _ _).mono ?_);rintro e w3 ⟨rfl,rfl⟩)
     | (go_at_call 185;refine (VVL HM2.o HP.o HJ.o.1 (HRP.o HP0.o)).mono ?_;rintro e w4 ⟨ht4,(⟨rfl,s4,r4,vi4,hm4,hp4⟩ | ⟨rfl,hp4,s4,r4,vi4,hm4⟩)⟩ <;> (have HT4:=hid (QsC HT2.o ht4);have HM4:=hid (hm4.back HT2.o.size H.o.sep H.o.bB);have HP4:=hid hp4;clear ht4 hm4 hp4)))
    ·go_round
     case rel=>
      obtain ⟨q1,q2,q3,q4⟩:=HJ.o;obtain ⟨p1,p2,p3,p4,p5⟩:=HP4.o;refine ⟨j+1,s4,r4,vi4,by have:=HJL.o;omega,HM4,HT4,⟨p1,q2.trans p2,(q3.mono p2.sub).succ HP0.o (fun h0=>?_),p4.trans q4⟩,by go_num⟩;rw [<-HXX.o] at h0 ⊢;exact p3 (by omega)
     case measure=>have:=HJL.o;simp [intOf];omega
    ·exact ⟨rfl,Z92.no HT4.o HM4.o HP4.o⟩
   ·have HP0:=hid hpt;obtain ⟨y,hy⟩:∃ y,y=v.ptE a j:=⟨_,rfl⟩;have d2:(y==0)=false:=by rw [hy];simpa using hpt
    rw [<-hy] at HPT;clear hpt hy
    go_wp2_with (first
     | (go_at_call 111;refine HPT.o.mono ?_;rintro e w2 ⟨rfl,hg2⟩;have HM2:=hid (HM.o.gr hg2);have HT2:=hid (HT.o.trans (hg2.touch _));clear hg2)
     | (go_at_call 241;(with_reducible refine (YeK HM2.o).mono ?_);rintro e w3 ⟨rfl,rfl⟩))
    exact ⟨rfl,Z92.no HT2.o HM2.o (J7J HR.o.1 (by rw [HR.o.2.2];exact hjl) HP0.o)⟩
end
end
end
section
section
open Go.RowKit Go.Shelf Word
attribute [local go_sem] Oper.semAt_some
def QpM (L:List Ob) (j:Nat):List Value:=zs ((L.take j).map fun o=>(o.1:Int))
theorem QZB {L:List Ob} {j:Nat} (h:j<L.length):QpM L (j+1)=QpM L j++[.int .i64 (L[j].1:Nat)]:=by
 unfold QpM zs;rw [List.take_succ_eq_append_getElem h,List.map_append,List.map_append];rfl
theorem QrH {w:World} {b b' E size:Nat} {v:Value} {n:Nat} {xs:List Value} (h:w.ownsRow b E size v n xs) (hb:b'<=b):w.ownsRow b' E size v n xs:=by
 obtain ⟨h1,h2⟩:=h;refine ⟨h1,h2.imp id ?_⟩;rintro ⟨g,cap,cur,e1,e2,e3⟩;exact ⟨g,cap,cur,e1,Nat.le_trans hb e2,e3⟩
structure StI (W0:World) (B:Nat) (L:List Ob) (j:Nat) (A:World):Prop where
 t:XF4 (fun i=>i=B\/W0.heap.size<=i) W0 A
 jl:j<=L.length
 f0:A.frozen? ⟨B,0,none⟩=false
 row:∃ vL,A.cell? ⟨B,0,none⟩=some vL/\A.ownsRow (W0.heap.size+6) 3 1 vL j (QpM L j)
def JLP (w:World) (L:List Ob) (e:Ending) (w':World):Prop:=∃ vL,e=.returned vL/\Gr w w'/\w'.ownsRow w.heap.size 3 1 vL L.length (QpM L L.length)
set_option maxHeartbeats 3200000 in
theorem Yde {w:World} {k m p1 b1 p2 b2 n:Nat} {L:List Ob} (hE:Ext w m p1 b1 p2 b2 n L) (hT:VRW w) (c1:w.cell? ⟨k,1,none⟩=some (.pointer (some ⟨m,0,none⟩))):
  Calls Tryz.prog 189 #[.pointer (some ⟨k,0,none⟩)] w (JLP w L):=by
 have HE:=hid hE;have HT:=hid hT;have hkl:=ZQf c1;clear hE hT;refine (callsIn_wide (n:=5)).1 ?_;refine callsIn_of_wp_marks Tryz.func189 rfl trivial ?_ rfl;simp only [Tryz.ntmps189,List.size_toArray,List.length_cons,List.length_nil,Nat.reduceAdd,Nat.reduceSub,Array.replicate_succ,Array.replicate_zero,List.push_toArray,List.append_toArray,List.nil_append,List.cons_append];gi_wp2_with (refine ⟨trivial,?_⟩;gi_at_call 142;refine (callsIn_wide.2 (JMu (some ⟨m,0,none⟩))).mono ?_;rintro e w1 ⟨rfl,rfl⟩);obtain ⟨W2,hW2⟩:∃ W2,W2=w.alloc (.cells #[.slice none 0 0] 48):=⟨_,rfl⟩;have hb1:Boxed W2 w.heap.size 48 (.slice none 0 0):=by rw [hW2];exact Boxed.new w _ _
 have hg2:Gr w W2:=by rw [hW2];exact (Gr.refl w).alloc _
 have hs2:W2.heap.size=w.heap.size+1:=by rw [hW2];simp
 rw [<-hW2];obtain ⟨W0,hW0⟩:∃ W0,W0=W2.alloc (.cells #[.pointer (some ⟨m,0,none⟩)] 100):=⟨_,rfl⟩;have hg0:Gr w W0:=by rw [hW0];exact hg2.alloc _
 have hsz:W0.heap.size=w.heap.size+2:=by rw [hW0];simp;omega
 have k1:Boxed W0 w.heap.size 48 (.slice none 0 0):=by rw [hW0];exact hb1.alloc _
 have k4:W0.cell? ⟨w.heap.size+1,0,none⟩=some (.pointer (some ⟨m,0,none⟩)):=by
  rw [hW0];have:=(Boxed.new W2 100 (.pointer (some ⟨m,0,none⟩))).cell
  rwa [hs2] at this
 rw [<-hW0];have hEw:=HE.o;have o1:=hEw.hm;have o2:=hEw.v1.hp;have o3:=hEw.v1.hb;have o4:=hEw.v2.hp;have o5:=hEw.v2.hb;have o6:=HT.o.lt;have hnb:=hEw.nb;have hgood:=hEw.good;have hlen:=hgood.len;clear hW2 hW0 hg2 hs2 hb1 hEw;obtain ⟨ii,hii,hi0,hi1,hi2⟩:=info_parts J0c
 have tI:∀ j A B,StI W0 w.heap.size L j A->XF4 (fun i=>W0.heap.size<=i/\i<W0.heap.size+2+4) A B->StI W0 w.heap.size L j B:=fun j A B h t=>by
  have ht:=h.t.size;obtain ⟨vL,hc,ho⟩:=h.row;exact ⟨h.t.trans (t.mono (fun i _ h=>.inr h.1)),h.jl,(t.frozen (by omega) (by show ¬ (W0.heap.size<=w.heap.size/\_);omega) 0).trans h.f0,vL,(t.cell (by omega) (by show ¬ (W0.heap.size<=w.heap.size/\_);omega) 0).trans hc,Zs2 ho t (fun g hg h=>by have:=(Vvr ho hg).1;omega)⟩
 refine JYJ (K:=4) (s0:=0) rfl (by omega) (gf:=210) (lb:=#[.pointer (some ⟨w.heap.size+1,0,none⟩)]) rfl trivial (enters_of Tryz.func210 (by kernel_rfl) rfl)
  (Yd3 _ (w.heap.size+1) m p1 b1 p2 b2 n L _) (fun _=>rfl)
  (StI W0 w.heap.size L) (fun _ _=>False) tI (fun _ _ _ h _=>h)
  (fun j A h=>⟨(HE.o.gr hg0).touch h.t (by omega) (by omega) (by omega) (by omega) (by omega),(hg0.tab o6 HT.o).touch' h.t (by omega),(h.t.cell (by omega) (by omega) 0).trans k4,h.jl⟩)
  ⟨XF4.refl _ _,Nat.zero_le _,k1.frozen,_,k1.cell,Vm9 _ _ _ _⟩ ?round ?done ?stop
 case round=>
  intro lp j x W3 hsz3 hI3 hgv;dsimp only [VYF];gi_wp2;refine ⟨Gr.refl _,fun W4 ht4 hI4=>?_⟩
  have hjl:j<L.length:=by
   rcases Nat.lt_or_ge j L.length with h | h
   ·exact h
   ·unfold YdH at hgv;rw [List.getElem?_eq_none h] at hgv;cases hgv
  obtain rfl:x=L[j]:=by unfold YdH at hgv;rw [List.getElem?_eq_getElem hjl] at hgv;exact (Option.some.inj hgv).symm
  have hsu:=QZB hjl;obtain ⟨y,hy⟩:∃ y,y=L[j].1:=⟨_,rfl⟩;rw [<-hy] at hsu ⊢;obtain ⟨vL,hc,ho⟩:=hI4.row;have hf0:=hI4.f0;have hsz4:W0.heap.size+6<=W4.heap.size:=by have:=ht4.size;omega
  have HI4:=hid hI4;have HO:=hid ho;have HSU:=hid hsu;clear hI3 hI4 hsu hy ho hgv ht4;gi_wp2_with (gi_at_builtin;refine wpListIn_append_own _ rfl _ _ 48 rfl (W0.heap.size+6) 3 ii _ 1 8 Tryz.underlying48 hii hi0 hi1 hi2 rfl (by decide) _ _ _ rfl (HO.o.alloc _) ⟨W4.heap.size,0,none⟩ 1 1 [.int .i64 (y:Nat)] rfl rfl (cell_one_new _ _ _) (by simp [Value.oneCell']) (by unfold maxLen;omega) (by omega) (by simp;omega) ?_;intro v' w5 hown' hgrow _;obtain ⟨A5,c5,rfl,-,-⟩:=ZfN hown';have t5:XF4 (fun i=>W0.heap.size+6<=i) W4 w5:=((((Gr.refl W4).alloc _).touch _)).trans (VxQ hgrow _ (fun i e _=>(Vvr HO.o e).1));have hc5:=(t5.cell (b:=w.heap.size) (by omega) (by omega) 0).trans hc;have hf5:=(t5.frozen (b:=w.heap.size) (by omega) (by omega) 0).trans hf0;have HO5:=hid hown';have HT5:=hid t5;clear hown' hgrow t5);have tt:XF4 (fun i=>i=w.heap.size\/W0.heap.size+6<=i) W4 (w5.setCell ⟨w.heap.size,0,none⟩ (.slice A5 (j+1) c5)):=(HT5.o.mono (fun i _ h=>.inr h)).setCell (a:=⟨w.heap.size,0,none⟩) (fun _=>.inl rfl) _;refine ⟨tt.mono (fun i _ h=>by omega),j+1,rfl,⟨HI4.o.t.trans (tt.mono (fun i _ h=>h.imp id (fun h=>by omega))),hjl,by rw [World.frozen?_setCell];exact hf5,_,World.cell?_setCell_same' w5 ⟨w.heap.size,0,none⟩ _ (by rw [hc5];rfl),?_⟩⟩;rw [HSU.o];exact VDR HO5.o _ (fun g hg=>by have:=(Vvr HO5.o hg).1;omega)
 case done=>
  rintro D j W3 hD rfl hI3 hK;obtain ⟨vL,hc,ho⟩:=hI3.row;have HO:=hid ho;have HK:=hid hK;have HD:=hid hD;have HI3:=hid hI3;have hs3:=hI3.t.size;clear ho hK hD hI3;gi_wp2;refine ⟨by simp,.inl ⟨_,_,rfl,run_takeDeferred HK.o,?_⟩⟩;refine ⟨_,results_tmp rfl _ _ _,vL,rfl,(((hg0.touch (fun _=>False)).trans' HI3.o.t (fun i hi h=>by omega)).trans' (Vx3 W3 D _) (fun i hi h=>by have:=HD.o;omega)).gr,?_⟩;exact QrH (Zs2 HO.o (Vx3 W3 D _) (fun g hg h=>by have:=(Vvr HO.o hg).1;have:=HD.o;omega)) (by omega)
 case stop=>
  rintro D c W3 hD h hK;exact h.elim
end
end
section
section
open Go.RowKit Word
def XBr (s:MkS) (r vi:Int):Prop:=s.L=[]->r=1/\vi=0
theorem ZxD.popped {w w':World} {SV G SW:Nat->Prop} {c:MkC} {v:Vm} {L:List Ob} {st st':List Int} {lost lost':Bool} {r vi:Int} (h:ZxD w SV G SW c v ⟨L,st,lost⟩ r vi) (t:XF4 G w w') (s':QH2 w' G c.g st' c.R lost'):ZxD w' SV G SW c v ⟨L,st',lost'⟩ r vi:=by
 have hs:=h.sep;have hk5:¬ G c.k:=hs.k2;exact ⟨MkC.vm h.zk.1 hs h.vm t (fun i e=>.inr (.inr e)),h.ext.touch t (hs.mg _ (.inl rfl)) (fun e=>hs.p1 (.inr (.inr e))) (hs.mg _ (.inr (.inl rfl))) (fun e=>hs.p2 (.inr (.inr e))) (hs.mg _ (.inr (.inr rfl))),s',h.wk.touch t (fun i hi _ e=>hs.sw i hi (.inr (.inr e))),h.row.touch t hk5,t.tab h.tab.lt (fun e=>hs.tab (.inr (.inr e))) h.tab,hs,Nat.le_trans h.bB t.size,h.zk⟩
def J5X (st st':List Int) (a:Int) (b:Bool):Prop:=(b=true/\st=st'++[a])\/(b=false/\st=[]/\st'=[])
def VSm (w:World) (SV G SW:Nat->Prop) (c:MkC) (v:Vm) (s:MkS) (r vi:Int) (e:Ending) (w':World):Prop:=∃ a b st',e=.returned (.tuple #[.int .i64 a,.bool b])/\XF4 (c.T G) w w'/\ZxD w' SV G SW c v ⟨s.L,st',s.lost⟩ r vi/\J5X s.st st' a b
section
variable {w:World} {SV G SW:Nat->Prop} {c:MkC} {v:Vm} {s:MkS} {r vi:Int} {X:Int->Prop} {rs:List Int}
theorem VPs (h:ZxD w SV G SW c v s r vi):Calls Tryz.prog 243 #[.pointer (some ⟨c.g,0,none⟩)] w (VSm w SV G SW c v s r vi):=by
 refine (ZtN h.stk).mono ?_;rintro e w' (⟨h0,rfl,rfl⟩ | ⟨l',a,h0,rfl,ht,hs⟩)
 ·refine ⟨0,false,[],rfl,XF4.refl _ _,?_,.inr ⟨rfl,h0,rfl⟩⟩;rw [<-h0];exact h
 ·exact ⟨a,true,l',rfl,ht.mono (fun i _ hi=>.inr (.inr hi)),ZxD.popped (L:=s.L) (st:=s.st) (lost:=s.lost) h ht hs,.inl ⟨rfl,h0⟩⟩
def DrS (v:Vm) (rs:List Int) (c:MkC) (X:Int->Prop) (s:MkS) (a:Int) (b:Bool) (k:Nat):Prop:=
 ((b=false/\s.st=[]/\YK6 v rs c.n c.R X s)\/(b=true/\Hs s.L a/\YK6 v rs c.n c.R (fun x=>X x\/x=a) s))/\2*c.n+s.st.length+(if b then 1 else 0)<=2*s.L.length+k
theorem DrS.of {s:MkS} (h:YK6 v rs c.n c.R X s) {st':List Int} {a:Int} {b:Bool} (hp:J5X s.st st' a b) {k:Nat} (hk:2*c.n+s.st.length<=2*s.L.length+k):DrS v rs c X ⟨s.L,st',s.lost⟩ a b k:=by
 rcases hp with ⟨rfl,h1⟩ | ⟨rfl,h1,rfl⟩
 ·have h':YK6 v rs c.n c.R X ⟨s.L,st'++[a],s.lost⟩:=by rw [<-h1];exact h
  refine ⟨.inr ⟨rfl,h'.pop.2,h'.pop.1⟩,?_⟩;rw [h1] at hk;simp at hk ⊢;omega
 ·refine ⟨.inl ⟨rfl,rfl,by rw [<-h1];exact h⟩,?_⟩;rw [h1] at hk;simpa using hk
def VA5 (s:MkS) (v:Vm) (rs:List Int) (c:MkC) (X:Int->Prop) (r vi:Int) (s':MkS) (r' vi':Int):Prop:=YK6 v rs c.n c.R X s'/\QxY s s'/\s'.st=[]/\(XBr s r vi->XBr s' r' vi')
theorem JY8 {s t:MkS} {st':List Int} {a:Int} {b:Bool} (h:QxY s t) (hp:J5X t.st st' a b):QxY s ⟨t.L,st',t.lost⟩:=by
 refine ⟨h.sub,h.len,h.los,?_⟩;have:=h.mea;rcases hp with ⟨-,h1⟩ | ⟨-,h1,rfl⟩
 ·rw [h1] at this;simp at this;show 2*s.L.length+st'.length<=2*t.L.length+s.st.length;omega
 ·rw [h1] at this;exact this
theorem QHb {L:List Ob} {a:Int} (h:Hs L a):L≠[]:=by
 rintro rfl;obtain ⟨o,ho,-⟩:=h;cases ho
set_option maxHeartbeats 3200000 in
theorem VAa (h:ZxD w SV G SW c v s r vi) (hp:∀ a,Rch v rs a->c.z.Rd v a) (hi:YK6 v rs c.n c.R X s):Calls Tryz.prog 186 #[.pointer (some ⟨c.k,0,none⟩)] w (Z92 w SV G SW c v (VA5 s v rs c X r vi) (¬ Xd6 v rs c.n)):=by
 have H:=hid h;have HI:=hid hi;have c2:=h.row.cell (j:=2) rfl;have HP:=hid hp;clear h hi hp;go_enter Tryz.func186,Tryz.ntmps186;go_wp2_with (go_at_call 243;refine (VPs H.o).mono ?_;rintro e w1 ⟨a0,b0,st0,rfl,ht1,hm1,hp1⟩;have HT1:=hid ht1;have HM1:=hid (hm1.up (w:=w) H.o.bB);have HP1:=hid hp1;clear ht1 hm1 hp1)
 go_loopg [2,3] (2*c.n+s.st.length) (fun k s2 s3 wr=>∃ (a:Int) (b:Bool) (s':MkS) (r' vi':Int),s2=.int .i64 a/\s3=.bool b/\Hid (ZxD wr SV (plus G w) SW c v s' r' vi')/\Hid (XF4 (c.T G) w wr)/\Hid (QxY s s'/\(XBr s r vi->XBr s' r' vi')/\DrS v rs c X s' a b k))
 case atStart=>
  refine ⟨a0,b0,_,r,vi,rfl,rfl,HM1,HT1,⟨JY8 (QxY.refl _) HP1.o,fun h=>h,DrS.of HI.o HP1.o (by omega)⟩⟩
 case round=>
  obtain ⟨a,b,s',r',vi',rfl,rfl,HM,HT,HJ⟩:=hrel;clear c2;have k2:=HM.o.row.cell (j:=2) rfl;cases b with
  | false=>
   go_wp2;refine bodyPost_end (results_none rfl _ _ _) rfl ?_;obtain ⟨q1,q2,q3,-⟩:=HJ.o;rcases q3 with ⟨-,h1,h2⟩ | ⟨h1,-⟩
   ·exact Z92.ok HT.o HM.o ⟨h2,q1,h1,q2⟩
   ·cases h1
  | true=>
   have HA:Hid (Hs s'.L a/\YK6 v rs c.n c.R (fun x=>X x\/x=a) s'/\2*c.n+s'.st.length+1<=2*s'.L.length+gk):=⟨by
    obtain ⟨q1,q2,q3,q4⟩:=HJ.o;rcases q3 with ⟨h1,-⟩ | ⟨-,h1,h2⟩
    ·cases h1
    ·exact ⟨h1,h2,q4⟩⟩
   go_wp2_with (first
    | (go_at_call 190;refine (ZUP HM.o HP.o HA.o.2.1 HA.o.1).mono ?_;rintro e w4 ⟨ht4,(⟨rfl,s4,r4,vi4,hm4,hp4⟩ | ⟨rfl,hp4,s4,r4,vi4,hm4⟩)⟩ <;> (have HT4:=hid (QsC HT.o ht4);have HM4:=hid (hm4.back HT.o.size H.o.sep H.o.bB);have HP4:=hid hp4;have k4:=hm4.row.cell (j:=2) rfl;clear ht4 hm4 hp4))
    | (go_at_call 243;refine (VPs HM4.o).mono ?_;rintro e w5 ⟨a5,b5,st5,rfl,ht5,hm5,hp5⟩;have HT5:=hid (QsC HT4.o ht5);have HM5:=hid hm5;have HP5:=hid hp5;clear ht5 hm5 hp5))
   ·have hgk:1<=gk:=by
     have:=HA.o.2.2;have:=HA.o.2.1.mkd.good.len;omega
    go_roundg (gk-1)
    case measure=>omega
    case rel=>
     obtain ⟨q1,q2,-⟩:=HJ.o;obtain ⟨p1,p2,p3,p4⟩:=HP4.o;have hme:=HA.o.2.2;have hm4:=p2.mea;refine ⟨a5,b5,_,r4,vi4,rfl,rfl,HM5,HT5,⟨JY8 (q1.trans p2) HP5.o,fun _ h0=>absurd h0 (QHb (p2.sub a HA.o.1)),DrS.of (p1.done p3 (fun x hx=>hx)) HP5.o (by omega)⟩⟩
   ·exact ⟨rfl,Z92.no HT4.o HM4.o HP4.o⟩
end
end
end
section
section
open Go.RowKit Word
theorem ZxD.cut {w:World} {SV G SW:Nat->Prop} {c:MkC} {v:Vm} {s:MkS} {r vi:Int} (h:ZxD w SV G SW c v s r vi):ZxD w SV (ZOk G w) SW c v s r vi:=by
 have hs:=h.sep;have key:∀ i,i<c.B/\¬ c.T G i->i<c.B/\¬ c.T (ZOk G w) i:=fun i hi=>⟨hi.1,fun ht=>hi.2 (ht.imp id (fun h=>h.imp id (fun h=>h.1)))⟩
 exact ⟨h.vm,h.ext,h.stk.cut,h.wk,h.row,h.tab,⟨fun i hi=>key i (hs.sv' i hi),fun i hi=>key i (hs.sw' i hi),key _ hs.tab',key _ hs.p1',key _ hs.p2',hs.k1,fun h=>hs.k2 h.1,hs.kB,fun i hi h=>hs.mg i hi h.1,hs.mB,fun i hi=>key i (hs.sd' i hi)⟩,h.bB,h.zk⟩
def QZw (L:List Ob) (j:Nat) (a:Int):Prop:=∃ o∈L.drop j,(o.1:Int)=a
theorem JmM {L:List Ob} {a:Int} (h:Hs L a):QZw L 0 a:=h
theorem J6E {L:List Ob} {j:Nat} (h:j<L.length) {a:Int} (ha:QZw L j a):QZw L (j+1) a\/a=(L[j].1:Int):=by
 obtain ⟨o,ho,rfl⟩:=ha;rw [List.drop_eq_getElem_cons h] at ho;rcases List.mem_cons.1 ho with rfl | ho
 ·exact .inr rfl
 ·exact .inl ⟨o,ho,rfl⟩
theorem Jdx {L:List Ob} (a:Int):¬ QZw L L.length a:=by
 rintro ⟨o,ho,-⟩;rw [List.drop_length] at ho;cases ho
theorem YK6.found {v:Vm} {rs:List Int} {n R:Nat} {X:Int->Prop} {s:MkS} (h:YK6 v rs n R X s):YK6 v rs n R (QZw s.L 0) ⟨s.L,s.st,false⟩:=⟨h.mkd,h.st,h.r,fun _ ha=>.inr (.inr (.inr (JmM ha)))⟩
section
variable {w:World} {SV G SW:Nat->Prop} {c:MkC} {v:Vm} {rs:List Int}
def s0:MkS:=⟨[],[],false⟩
def JrO (v:Vm) (rs:List Int) (c:MkC) (j:Nat) (s:MkS) (r vi:Int):Prop:=YK6 v rs c.n c.R (fun _=>False) s/\s.st=[]/\(∀ x∈rs.take j,x≠0->Hs s.L x)/\XBr s r vi/\(s.lost=true->s.L≠[])
def Vcn (v:Vm) (rs:List Int) (c:MkC) (s:MkS) (r vi:Int):Prop:=Zx6 v rs c.n s.L/\XBr s r vi
set_option maxHeartbeats 6400000 in
theorem YXl (h:ZxD w SV G SW c v s0 0 0) (hp:∀ a,Rch v rs a->c.z.Rd v a) {A:Option Addr} {cp:Nat} (hA:YxD (c.T G) w A rs) (hlen:rs.length<=maxLen):
  Calls Tryz.prog 126 #[.pointer (some ⟨c.k,0,none⟩),.slice A rs.length cp] w (Z92 w SV G SW c v (Vcn v rs c) (¬ Xd6 v rs c.n)):=by
 have H:=hid h;have HA:=hid hA;have HP:=hid hp;have c6:=h.row.cell (j:=6) rfl;have kf:=h.row.free 6;obtain ⟨N,hN⟩:∃ N,N=rs.length:=⟨_,rfl⟩;rw [<-hN] at hlen ⊢;have HN:=hid hN;unfold maxLen at hlen;clear h hA hN hp;go_enter Tryz.func126,Tryz.ntmps126;go_wp2;have HM1:Hid (ZxD (w.setCell ⟨c.k,6,none⟩ (.int .i64 1)) SV (plus G w) SW c v s0 1 0):=⟨(H.o.set (r':=1) (vi':=0) rfl).up H.o.bB⟩;have HT1:Hid (XF4 (c.T G) w (w.setCell ⟨c.k,6,none⟩ (.int .i64 1))):=⟨YeZ 6 _⟩;obtain ⟨w1,hw1⟩:∃ w1,w1=w.setCell ⟨c.k,6,none⟩ (.int .i64 1):=⟨_,rfl⟩;rw [<-hw1] at HM1 HT1 ⊢;clear c6 kf hw1
 go_loopw [14] (fun s14 wr=>∃ (j:Nat) (s:MkS) (r vi:Int),j<=N/\Hid (ZxD wr SV (plus G w) SW c v s r vi)/\Hid (XF4 (c.T G) w wr)/\Hid (JrO v rs c j s r vi)/\s14=.int .i64 j) (fun s14 _=>N-(intOf s14).toNat)
 case atStart=>exact ⟨0,s0,1,0,Nat.zero_le _,HM1,HT1,⟨⟨Mk.nil _ _ _,(fun _ h=>by cases h),Nat.zero_le _,(fun a ha=>absurd rfl (QHb ha))⟩,rfl,(fun x hx=>by cases hx),(fun _=>⟨rfl,rfl⟩),(fun h=>by cases h)⟩,rfl⟩
 case round=>
  obtain ⟨j,s,r,vi,hj,HM,HT,HJ,rfl⟩:=hrel;by_cases hlast:j=N
  ·subst hlast;have HJ2:Hid (JrO v rs c rs.length s r vi):=⟨by have:=HJ.o;rwa [HN.o] at this⟩;clear HJ hj;go_wp2
   go_loopg [] (c.n+1) (fun k wr=>∃ (s:MkS) (r vi:Int),Hid (ZxD wr SV (plus G w) SW c v s r vi)/\Hid (XF4 (c.T G) w wr)/\Hid (JrO v rs c rs.length s r vi)/\Hid (s.lost=true->c.n+1<=s.L.length+k))
   case atStart=>exact ⟨s,r,vi,HM,HT,HJ2,⟨fun _=>by omega⟩⟩
   case round=>
    clear HM HT HJ2;clear s r vi;obtain ⟨wo,rfl⟩:∃ wo:World,wo=wr:=⟨_,rfl⟩;obtain ⟨s,r,vi,HM,HT,HJ,HK⟩:=hrel;have k2:=HM.o.row.cell (j:=2) rfl;obtain ⟨L,st,lost⟩:=s;have HLO:=hid (XPh HM.o.stk);cases lost with
    | false=>
     go_wp2_with (go_at_call 187;refine HLO.o.mono ?_;rintro e w2 ⟨rfl,rfl⟩);refine bodyPost_end (results_none rfl _ _ _) rfl ?_;obtain ⟨q1,q2,q3,q4,q5⟩:=HJ.o;exact Z92.ok HT.o HM.o ⟨q1.marks (fun _ h=>h) q2 rfl (fun x hx h0=>q3 x (by rw [List.take_length];exact hx) h0),q4⟩
    | true=>
     have hst:st=[]:=HJ.o.2.1;subst hst;have HMC:=hid HM.o.cut;obtain ⟨G1,hG1⟩:∃ G1,G1=ZOk (plus G w) wo:=⟨_,rfl⟩;rw [<-hG1] at HMC;have HG1:Hid (∀ i,G1 i->plus G w i/\i<wo.heap.size):=⟨fun i hi=>by rw [hG1] at hi;exact hi⟩;have hne:=HJ.o.2.2.2.2 rfl;have hgd:=HJ.o.1.mkd.good;have hln:L.length<=1048576:=Nat.le_trans hgd.len HM.o.ext.nb.2;obtain ⟨LN,hLN⟩:∃ LN,LN=L.length:=⟨_,rfl⟩;have HLN:=hid hLN;rw [<-hLN] at hln;clear hG1 hgd hLN
     go_wp2_with (first
      | (go_at_call 187;refine HLO.o.mono ?_;rintro e w2 ⟨rfl,rfl⟩)
      | (go_at_call 188;refine (Qf8 HMC.o.stk).mono ?_;rintro e w2 ⟨rfl,ht2,hs2⟩;have HM2:=hid (ZxD.popped (L:=L) (st:=[]) (lost:=true) HMC.o ht2 hs2);have k6:=HM2.o.row.cell (j:=6) rfl;have k1:=HM2.o.row.cell (j:=1) rfl;have kf:=HM2.o.row.free 6;have HT2:=hid ht2;clear ht2 hs2)
      | (go_at_call 189;have HMS:=hid (fun x:Int=>HM2.o.set (j:=6) (u:=.int .i64 x) (r':=x) (vi':=vi) rfl);refine (Yde (HMS.o _).ext (HMS.o _).tab ((HMS.o _).row.cell (j:=1) rfl)).mono ?_;rintro e w3 ⟨vL,rfl,hg3,ho3⟩;have HM3:=hid ((HMS.o _).gr hg3);have HG3:=hid hg3;obtain ⟨A3,cc3,rfl,h31,h32⟩:=ZfN ho3;have HO3:=hid ho3;rw [<-HLN.o] at HO3;rw [<-HLN.o] at h31;clear hg3 ho3))
     have hz2:wo.heap.size<=w2.heap.size:=HT2.o.size;have hz3:w2.heap.size<=w3.heap.size:=by simpa using HG3.o.size
     have hzw:w.heap.size<=wo.heap.size:=HT.o.size;have hBw:c.B<=w.heap.size:=H.o.bB
     have HGN:Hid (∀ g,(Value.slice A3 LN cc3).ownBlock=some g->¬ c.T (plus G1 w3) g):=⟨fun g hg ht=>by
      obtain ⟨a1,a2⟩:=Vvr HO3.o hg;have a1:w2.heap.size<=g:=by simpa using a1
      rcases ht with h1 | h1 | h1 | h1
      ·have:=H.o.sep.kB;omega
      ·have:=H.o.sep.mB g h1;omega
      ·have:=(HG1.o g h1).2;omega
      ·omega⟩
     have HS1:Hid (X2M c SV G1 SW):=⟨HM3.o.sep⟩;have HTT:Hid (XF4 (c.T G1) wo w3):=⟨((HT2.o.mono (fun i _ h=>.inr (.inr h))).trans (YeZ 6 _)).trans (HG3.o.touch _)⟩;clear k1 k2 k6 kf;rw [<-HLN.o]
     go_loopw [46] (fun s46 wy=>∃ (j:Nat) (s':MkS) (r' vi':Int),j<=LN/\Hid (ZxD wy SV (plus G1 w3) SW c v s' r' vi')/\Hid (XF4 (c.T G1) w3 wy)/\Hid (wy.ownsRow 0 3 1 (.slice A3 LN cc3) LN (QpM L LN))/\Hid (YK6 v rs c.n c.R (QZw L j) s'/\QxY ⟨L,[],false⟩ s'/\s'.st=[])/\s46=.int .i64 j) (fun s46 _=>LN-(intOf s46).toNat)
     case atStart=>
      exact ⟨0,⟨L,[],false⟩,_,vi,Nat.zero_le _,⟨HM3.o.up (w:=w3) HM3.o.bB⟩,⟨XF4.refl _ _⟩,⟨QrH HO3.o (Nat.zero_le _)⟩,⟨HJ.o.1.found,QxY.refl _,rfl⟩,rfl⟩
     case round=>
      obtain ⟨j,s',r',vi',hj,HMy,HTy,HOy,HJy,rfl⟩:=hrel;by_cases hlast:j=LN
      ·subst hlast;go_wp2
       have hgk:1<=gk:=by
        have:=HK.o (by simp);have h2:=HJ.o.1.mkd.good.len;have h2:L.length<=c.n:=h2;have h3:c.n+1<=L.length+gk:=this;omega
       go_roundg (gk-1)
       case measure=>omega
       case rel=>
        obtain ⟨q1,q2,q3⟩:=HJy.o;have hla:=q2.len;have hla:L.length<=s'.L.length:=hla;have hT1:XF4 (c.T (plus G w)) wo wr:=(HTT.o.trans HTy.o).mono (fun i _ h=>h.imp id (fun h=>h.imp id (fun h=>(HG1.o i h).1)));have hL':s'.L≠[]:=fun e=>by have h1:=hla;rw [e] at h1;exact hne (List.eq_nil_of_length_eq_zero (Nat.le_zero.1 h1))
        refine ⟨s',r',vi',⟨HMy.o.sub (fun i h=>h.elim (fun h=>(HG1.o i h).1) (fun h=>.inr (by omega))) (H.o.sep.plus H.o.bB)⟩,⟨QsC HT.o hT1⟩,⟨q1.weak (fun a h=>absurd h (by rw [HLN.o];exact Jdx a)),q3,fun x hx h0=>q2.sub _ (HJ.o.2.2.1 x hx h0),fun h=>absurd h hL',fun _=>hL'⟩,⟨fun hl=>?_⟩⟩;have h5:=HK.o (by simp);have h5:c.n+1<=L.length+gk:=h5;rcases q2.los hl with h | h
        ·cases h
        ·have h:L.length<s'.L.length:=h;omega
      ·have hjn:j<L.length:=by have:=HLN.o;omega
       have hjl:(j:Int)<(LN:Int):=by omega
       obtain ⟨g,cc',ea,-,-,-,-⟩:=YTP HOy.o (by omega);simp only [Value.slice.injEq] at ea;obtain ⟨rfl,-,rfl⟩:=ea;obtain ⟨a,ha⟩:∃ a:Int,a=(L[j].1:Nat):=⟨_,rfl⟩;have kc:=ZBn HOy.o (j:=j) (u:=.int .i64 a) (by rw [ha];unfold QpM zs;rw [HLN.o,List.take_length];simp [hjn]);have HHS:Hid (Hs L a/\a=(L[j].1:Nat)):=⟨⟨L[j],List.getElem_mem hjn,ha.symm⟩,ha⟩;have HJL:=hid (And.intro hj (And.intro hlast hjn));have HBK:Hid (∀ (W:World) (t:MkS) (x y:Int),ZxD W SV (plus G1 w3) SW c v t x y->XF4 (c.T G1) w3 W->ZxD W SV (plus G w) SW c v t x y/\XF4 (c.T G) w W):=⟨fun W t x y hm ht=>⟨hm.sub (fun i h=>h.elim (fun h=>(HG1.o i h).1) (fun h=>.inr (by omega))) (H.o.sep.plus H.o.bB),QsC HT.o ((HTT.o.trans ht).mono (fun i _ h=>h.imp id (fun h=>h.imp id (fun h=>(HG1.o i h).1))))⟩⟩;clear hj hlast ha
       go_wp2_with (first
        | (go_at_call 190;refine (ZUP HMy.o HP.o HJy.o.1 (HJy.o.2.1.sub a HHS.o.1)).mono ?_;rintro e w4 ⟨ht4,(⟨rfl,s4,r4,vi4,hm4,hp4⟩ | ⟨rfl,hp4,s4,r4,vi4,hm4⟩)⟩ <;> (have HO4:=hid (Zs2 HOy.o ht4 HGN.o);have HT4:=hid (QsC HTy.o ht4);have HM4:=hid (hm4.back HTy.o.size HS1.o HM3.o.bB);have HP4:=hid hp4;clear ht4 hm4 hp4))
        | (go_at_call 186;refine (VAa HM4.o HP.o (HP4.o.1.done HP4.o.2.2.1 (Y:=QZw L (j+1)) (fun x hx=>by rw [HHS.o.2];exact J6E HJL.o.2.2 hx))).mono ?_;rintro e w5 ⟨ht5,(⟨rfl,s5,r5,vi5,hm5,hp5⟩ | ⟨rfl,hp5,s5,r5,vi5,hm5⟩)⟩ <;> (have HO5:=hid (Zs2 HO4.o ht5 HGN.o);have HT5:=hid (QsC HT4.o ht5);have HM5:=hid (hm5.back HT4.o.size HS1.o HM3.o.bB);have HP5:=hid hp5;clear ht5 hm5 hp5)))
       ·go_round
        case rel=>
         obtain ⟨p1,p2,p3,p4⟩:=HP4.o;obtain ⟨t1,t2,t3,t4⟩:=HP5.o;refine ⟨j+1,s5,r5,vi5,by have:=HJL.o;omega,HM5,HT5,HO5,⟨t1,(HJy.o.2.1.trans p2).trans t2,t3⟩,by go_num⟩
        case measure=>have:=HJL.o;simp [intOf];omega
       ·exact ⟨rfl,Z92.no (HBK.o _ _ _ _ HM5.o HT5.o).2 (HBK.o _ _ _ _ HM5.o HT5.o).1 HP5.o⟩
       ·exact ⟨rfl,Z92.no (HBK.o _ _ _ _ HM4.o HT4.o).2 (HBK.o _ _ _ _ HM4.o HT4.o).1 HP4.o⟩
  ·have hjl:(j:Int)<(N:Int):=by omega
   have hjn:j<rs.length:=by have:=HN.o;omega
   obtain ⟨b,o,rfl,hb,hbT,e0⟩:=HA.o j hjn;have i0:=(HT.o.cell hb hbT (o+j)).trans e0;obtain ⟨a,ha⟩:∃ a,a=rs[j]:=⟨_,rfl⟩;rw [<-ha] at i0 e0;have HRA:Hid (a≠0->Rch v rs a):=⟨fun h0=>Rch.root (by rw [ha];exact List.getElem_mem hjn) h0⟩
   have HTK:Hid (∀ x,x∈rs.take (j+1)->x∈rs.take j\/x=a):=⟨fun x hx=>by
    rw [List.take_succ_eq_append_getElem hjn] at hx
    exact (List.mem_append.1 hx).imp id (fun h=>by rw [ha];exact List.mem_singleton.1 h)⟩
   have HJL:=hid (And.intro hj hlast);clear hj hlast hjn ha e0 hbT
   go_wp2_with (first
    | (go_at_call 185;refine (VVL HM.o HP.o HJ.o.1 HRA.o).mono ?_;rintro e w4 ⟨ht4,(⟨rfl,s4,r4,vi4,hm4,hp4⟩ | ⟨rfl,hp4,s4,r4,vi4,hm4⟩)⟩ <;> (have HT4:=hid (QsC HT.o ht4);have HM4:=hid (hm4.back HT.o.size H.o.sep H.o.bB);have HP4:=hid hp4;clear ht4 hm4 hp4))
    | (go_at_call 186;refine (VAa HM4.o HP.o HP4.o.1).mono ?_;rintro e w5 ⟨ht5,(⟨rfl,s5,r5,vi5,hm5,hp5⟩ | ⟨rfl,hp5,s5,r5,vi5,hm5⟩)⟩ <;> (have HT5:=hid (QsC HT4.o ht5);have HM5:=hid (hm5.back HT4.o.size H.o.sep H.o.bB);have HP5:=hid hp5;clear ht5 hm5 hp5)))
   ·go_round
    case rel=>
     obtain ⟨q1,q2,q3,q4,q5⟩:=HJ.o;obtain ⟨p1,p2,p3,rfl,rfl⟩:=HP4.o;obtain ⟨t1,t2,t3,t4⟩:=HP5.o;have hla:=p2.trans t2;refine ⟨j+1,s5,r5,vi5,by have:=HJL.o;omega,HM5,HT5,⟨t1,t3,fun x hx h0=>?_,t4 (fun h=>q4 ?_),fun hl=>?_⟩,by go_num⟩
     ·rcases HTK.o x hx with h | rfl
      ·exact hla.sub _ (q3 x h h0)
      ·exact t2.sub _ (p3 h0)
     ·have:=p2.len;rw [h] at this;exact List.eq_nil_of_length_eq_zero (by simpa using this)
     ·have h5:=hla.len;rcases hla.los hl with h | h
      ·exact fun e=>q5 h (List.eq_nil_of_length_eq_zero (by rw [e] at h5;simpa using h5))
      ·intro e;rw [e] at h;simp at h
    case measure=>have:=HJL.o;simp [intOf];omega
   ·exact ⟨rfl,Z92.no HT5.o HM5.o HP5.o⟩
   ·exact ⟨rfl,Z92.no HT4.o HM4.o HP4.o⟩
end
end
end
section
section
open Go.RowKit Word
theorem VUu (args:Array Value) (W:World):(callFunc 125 args).run Tryz.prog W=.ok (.enter 125 args) W:=by kernel_rfl
def XZT (z:Sp) (m g:Nat) (wk:Value) (L:List Ob) (r vi:Int):List Value:=[z.v,.pointer (some ⟨m,0,none⟩),.pointer (some ⟨g,0,none⟩),wk,.int .i64 (L.length:Nat),.int .i64 (Qd4 L:Nat),.int .i64 r,.int .i64 vi]
section
variable {w:World} {SV G SW:Nat->Prop} {c:MkC} {v:Vm} {rs:List Int}
set_option maxHeartbeats 1600000 in
theorem QNt {b12 b5 cp:Nat} {A:Option Addr} (hrow:Rec w c.k 193 (XZT c.z c.m c.g (.pointer none) [] 0 0)) (hp:∀ a,Rch v rs a->c.z.Rd v a) (h:ZxD (w.setCell ⟨c.k,3,none⟩ (.pointer (some ⟨c.wk,0,none⟩))) SV G SW c v s0 0 0)
  (c12:w.cell? ⟨b12,0,none⟩=some (.pointer (some ⟨c.k,0,none⟩))) (c5:w.cell? ⟨b5,0,none⟩=some (.slice A rs.length cp)) (n12:b12≠c.k) (n5:b5≠c.k) (hA:YxD (c.T G) w A rs) (hlen:rs.length<=maxLen):
  Calls Tryz.prog 125 #[.pointer (some ⟨c.wk,0,none⟩),.pointer (some ⟨b12,0,none⟩),.pointer (some ⟨b5,0,none⟩)] w (Z92 w SV G SW c v (Vcn v rs c) (¬ Xd6 v rs c.n)):=by
 have k3:=hrow.cell (j:=3) rfl;have kf:=hrow.free 3;have hsz:(w.setCell ⟨c.k,3,none⟩ (.pointer (some ⟨c.wk,0,none⟩))).heap.size=w.heap.size:=World.size_setCell ..;have hA':=hA.touch (YeZ (w:=w) (c:=c) (G:=G) 3 (.pointer (some ⟨c.wk,0,none⟩))) (fun _ _ h=>h);have HRUN:=hid (YXl (cp:=cp) h hp hA' hlen)
 have HBK:Hid (∀ e w',Z92 (w.setCell ⟨c.k,3,none⟩ (.pointer (some ⟨c.wk,0,none⟩))) SV G SW c v (Vcn v rs c) (¬ Xd6 v rs c.n) e w'->Z92 w SV G SW c v (Vcn v rs c) (¬ Xd6 v rs c.n) e w'):=⟨fun e w' he=>by
  obtain ⟨ht,he⟩:=he;unfold plus at he;rw [hsz] at he
  exact ⟨(YeZ 3 _).trans ht,he⟩⟩
 have tk:=(XF4.refl (fun i=>i=c.k) w).setCell (a:=⟨c.k,3,none⟩) (fun _=>rfl) (.pointer (some ⟨c.wk,0,none⟩));have x5:=(tk.cell (ZQf c5) n5 0).trans c5;have x12:=(tk.cell (ZQf c12) n12 0).trans c12;clear hrow h hA hA' hsz hlen tk hp;go_enter Tryz.func125,Tryz.ntmps125;go_wp2_with (go_at_call 126;refine HRUN.o.mono ?_;intro e w1 he;have he:=HBK.o _ _ he;rcases he with ⟨ht1,(⟨rfl,h1⟩ | ⟨rfl,h1⟩)⟩)
 ·refine bodyPost_end (results_none rfl _ _ _) rfl ?_;exact ⟨ht1,.inl ⟨rfl,h1⟩⟩
 ·obtain ⟨-,h2⟩:=h1;exact ⟨rfl,ht1,.inr ⟨rfl,trivial,h2⟩⟩
end
structure Y3k (w:World) (SV:Nat->Prop) (z:Sp) (k m p1 b1 p2 b2 n g:Nat) (v:Vm) (L:List Ob) (r vi:Int):Prop where
 zk:z.Ok
 vm:z.I v SV w
 ext:Ext w m p1 b1 p2 b2 n L
 tab:VRW w
 row:∃ wk,Rec w k 193 (XZT z m g wk L r vi)
theorem Y3k.touch {S:Nat->Prop} {w w':World} {SV:Nat->Prop} {z:Sp} {k m p1 b1 p2 b2 n g:Nat} {v:Vm} {L:List Ob} {r vi:Int} (h:Y3k w SV z k m p1 b1 p2 b2 n g v L r vi) (t:XF4 S w w') (hv:∀ i,SV i->¬ S i) (hm:∀ i,YBz m b1 b2 i->¬ S i) (h1:¬ S p1) (h2:¬ S p2) (ht:¬ S 1) (hk:¬ S k) (hd:∀ i,z.D i->¬ S i):Y3k w' SV z k m p1 b1 p2 b2 n g v L r vi:=
 ⟨h.zk,h.zk.fr h.vm t (fun i _ hi=>⟨fun h=>hv i h hi,fun h=>hd i h hi⟩) (fun _ h=>h),h.ext.touch t (hm _ (.inl rfl)) h1 (hm _ (.inr (.inl rfl))) h2 (hm _ (.inr (.inr rfl))),t.tab h.tab.lt ht h.tab,by obtain ⟨wk,hr⟩:=h.row;exact ⟨wk,hr.touch t hk⟩⟩
def XT9 (w:World) (SV SG:Nat->Prop) (z:Sp) (k m p1 b1 p2 b2 n g:Nat) (v:Vm) (rs:List Int) (e:Ending) (w':World):Prop:=
 XF4 (fun i=>i=k\/YBz m b1 b2 i\/SG i\/SV i) w w'/\∃ x y L r vi,e=.returned (.agg #[.int .i64 x,.int .i64 y])/\Y3k w' SV z k m p1 b1 p2 b2 n g v L r vi ∧
  ((x=0/\Zx6 v rs n L/\(L=[]->r=1/\vi=0))\/(x=25/\¬ Xd6 v rs n))
theorem Q3I {w:World} {SV SG:Nat->Prop} {z:Sp} {k m p1 b1 p2 b2 n g R b12 b5 cp:Nat} {v:Vm} {rs:List Int} {A:Option Addr} (hz:z.Ok/\¬ z.M) (hfail:Xd6 v rs n\/∃ q,z=spM q) (hp:∀ a,Rch v rs a->z.Rd v a) (hD:∀ i,z.D i->i<w.heap.size/\¬ (i=k\/YBz m b1 b2 i\/SG i)) (hV:z.I v SV w) (hE:Ext w m p1 b1 p2 b2 n []) (hS:QH2 w SG g [] R false) (hR:Rec w k 193 (XZT z m g (.pointer none) [] 0 0)) (hT:VRW w)
  (c12:w.cell? ⟨b12,0,none⟩=some (.pointer (some ⟨k,0,none⟩))) (c5:w.cell? ⟨b5,0,none⟩=some (.slice A rs.length cp)) (n12:b12≠k) (n5:b5≠k) (hA:YxD (fun i=>i=k\/YBz m b1 b2 i\/SG i) w A rs) (hlen:rs.length<=maxLen)
  (hSV:∀ i,SV i->i<w.heap.size/\¬ (i=k\/YBz m b1 b2 i\/SG i)) (hSG:∀ i,SG i->i<w.heap.size) (hp1:¬ (p1=k\/YBz m b1 b2 p1\/SG p1)) (hp2:¬ (p2=k\/YBz m b1 b2 p2\/SG p2)) (htb:¬ (1=k\/YBz m b1 b2 1\/SG 1))
  (hv1:¬ SV p1) (hv2:¬ SV p2) (hvt:¬ SV 1) (hkm:¬ YBz m b1 b2 k) (hkg:¬ SG k) (hmg:∀ i,YBz m b1 b2 i->¬ SG i):
  Calls Tryz.prog 124 #[z.v,.func (.func 125) #[] #[.pointer (some ⟨b12,0,none⟩),.pointer (some ⟨b5,0,none⟩)]] w (XT9 w SV SG z k m p1 b1 p2 b2 n g v rs):=by
 have hsz:(XEJ w z.v).heap.size=w.heap.size+2:=by unfold XEJ;rw [World.size_alloc,World.size_alloc]
 obtain ⟨q0,hq0⟩:∃ q0,∀ q,z=spM q->q0=q:=by
  by_cases h:∃ q,z=spM q
  ·obtain ⟨q,rfl⟩:=h;exact ⟨q,fun q' h=>by have:=congrArg Sp.rv h;simp [spM] at this;exact this⟩
  ·exact ⟨0,fun q h'=>absurd ⟨q,h'⟩ h⟩
 obtain ⟨W0,hW0⟩:∃ W0,W0=Vlc (XEJ w z.v) (w.heap.size+1):=⟨_,rfl⟩;have hsz0:W0.heap.size=w.heap.size+5:=by rw [hW0];unfold Vlc;rw [World.size_alloc,World.size_alloc,World.size_alloc,hsz]
 have g1:Gr w (XEJ w z.v):=((Gr.refl w).alloc _).alloc _;have g2:Gr (XEJ w z.v) W0:=by rw [hW0];exact (((Gr.refl _).alloc _).alloc _).alloc _
 have g0:Gr w W0:=g1.trans g2;have hkl:=hR.lt
 have hml:∀ i,YBz m b1 b2 i->i<w.heap.size:=fun i hi=>by
  rcases hi with rfl | rfl | rfl
  ·exact hE.hm
  ·exact hE.v1.hb
  ·exact hE.v2.hb
 have hp1l:p1<w.heap.size:=hE.v1.hp;have hp2l:p2<w.heap.size:=hE.v2.hp;have htl:=hT.lt;obtain ⟨c,hc⟩:∃ c:MkC,c=⟨k,z,m,p1,b1,p2,b2,n,g,R,w.heap.size+1,w.heap.size+5⟩:=⟨_,rfl⟩
 have hTl:∀ i,c.T SG i->i<w.heap.size:=fun i hi=>by
  rw [hc] at hi;rcases hi with rfl | hi | hi
  ·exact hkl
  ·exact hml i hi
  ·exact hSG i hi
 have hsep:X2M c SV SG (fun i=>i=w.heap.size+1):=by
  have hTl':=hTl;rw [hc] at hTl' ⊢;exact ⟨fun i hi=>⟨by have:=(hSV i hi).1;show i<w.heap.size+5;omega,(hSV i hi).2⟩,fun i hi=>⟨by show i<w.heap.size+5;omega,fun h=>by have:=hTl' i h;omega⟩,⟨by show _<w.heap.size+5;omega,htb⟩,⟨by show p1<w.heap.size+5;omega,hp1⟩,⟨by show p2<w.heap.size+5;omega,hp2⟩,hkm,hkg,by show k<w.heap.size+5;omega,hmg,fun i hi=>by have:=hml i hi;show i<w.heap.size+5;omega,fun i hi=>⟨by have:=(hD i hi).1;show i<w.heap.size+5;omega,(hD i hi).2⟩⟩
 have hm0:ZxD (W0.setCell ⟨c.k,3,none⟩ (.pointer (some ⟨c.wk,0,none⟩))) SV SG (fun i=>i=w.heap.size+1) c v s0 0 0:=by
  have tk:XF4 (fun i=>i=c.k) W0 (W0.setCell ⟨c.k,3,none⟩ (.pointer (some ⟨c.wk,0,none⟩))):=(XF4.refl (fun i=>i=c.k) _).setCell (a:=⟨c.k,3,none⟩) (fun _=>rfl) _;have hw:=(VS8 w z.v).gr g2;rw [hc] at tk hsep ⊢;refine ⟨hz.1.fr (hz.1.gr hV g0) tk (fun i _ e=>⟨fun h=>(hSV i h).2 (.inl e),fun h=>(hD i h).2 (.inl e)⟩) (fun _ h=>h),(hE.gr g0).touch tk (fun e=>hkm (.inl e.symm)) (fun e=>hp1 (.inl e)) (fun e=>hkm (.inr (.inl e.symm))) (fun e=>hp2 (.inl e)) (fun e=>hkm (.inr (.inr e.symm))),(hS.gr g0).touch tk (fun i hi _ e=>hkg (by subst e;exact hi)),hw.touch tk (fun i hi _ e=>by have e:i=k:=e;omega),(hR.gr g0).set 3 (.pointer (some ⟨w.heap.size+1,0,none⟩)),tk.tab (g0.tab hT.lt hT).lt (fun e=>htb (.inl e)) (g0.tab hT.lt hT),hsep,?_,hz⟩
  show w.heap.size+5<=_
  rw [World.size_setCell,hsz0];exact Nat.le_refl _
 have hbody:=QNt (w:=W0) (b12:=b12) (b5:=b5) (cp:=cp) (A:=A) (rs:=rs) (by rw [hc];exact hR.gr g0) (by rw [hc];exact hp) hm0 (by rw [hc];exact (g0.cell (ZQf c12) 0).trans c12) ((g0.cell (ZQf c5) 0).trans c5) (by rw [hc];exact n12) (by rw [hc];exact n5)
  (by rw [hc];exact hA.gr g0) hlen
 have hbody':Calls Tryz.prog 125 (#[.pointer (some ⟨w.heap.size+1,0,none⟩)]++#[.pointer (some ⟨b12,0,none⟩),.pointer (some ⟨b5,0,none⟩)]) W0
   (YRv q0 (w.heap.size+1) (w.heap.size+3) (c.T SG) W0 (fun w1=>∃ s r vi,ZxD w1 SV (plus SG W0) (fun i=>i=w.heap.size+1) c v s r vi/\Vcn v rs c s r vi)
    (fun why _ v' l S S2 w1=>why=25/\v'=v/\l=[]/\S=(fun i=>i=w.heap.size+1)/\S2=SV/\¬ Xd6 v rs c.n/\∃ s r vi,ZxD w1 SV (plus SG W0) (fun i=>i=w.heap.size+1) c v s r vi)):=by
  have hb:=hbody;rw [show c.wk=w.heap.size+1 by rw [hc]] at hb;refine hb.mono ?_;rintro e w1 ⟨ht,(⟨rfl,s,r,vi,hm,hp⟩ | ⟨rfl,hn,s,r,vi,hm⟩)⟩
  ·exact ⟨ht,.inl ⟨rfl,s,r,vi,hm,hp⟩⟩
  ·obtain ⟨q,hq⟩:=hfail.resolve_left (by have:=hn;rwa [show c.n=n by rw [hc]] at this);obtain rfl:=hq0 q hq;have hwk:=hm.wk;have hvm:=hm.vm;rw [show c.wk=w.heap.size+1 by rw [hc],show c.z=spM q0 by rw [hc];exact hq] at hwk;rw [show c.z=spM q0 by rw [hc];exact hq] at hvm;exact ⟨ht,.inr ⟨25,0,v,[],_,_,rfl,hwk,hvm,fun i hi h=>by have:=(hSV i h).1;omega,by omega,fun h=>by have:=(hSV _ h).1;omega,rfl,rfl,rfl,rfl,rfl,hn,s,r,vi,hm⟩⟩
 have hrun:=Zfg (w:=w) (sp:=z.v) (q:=q0) (F:=125) (caps:=#[.pointer (some ⟨b12,0,none⟩),.pointer (some ⟨b5,0,none⟩)]) ⟨_,_,rfl⟩ VUu (by rw [<-hW0];exact hbody')
  (fun i h1 h2 h=>by have:=hTl i h;omega) (fun h=>by have:=hTl _ h;omega) (fun why a' v' l S' S2 w1 h=>by
   obtain ⟨-,-,-,rfl,rfl,-⟩:=h
   exact ⟨by omega,fun h=>by have:=(hSV _ h).1;omega⟩)
 refine hrun.mono ?_;rintro e w' ⟨w2,fx,fy,⟨w1,ht1,hp⟩,rfl,rfl⟩;rw [<-hW0] at ht1;rw [hsz] at hp;subst hc;have T1:XF4 (fun i=>i=k\/YBz m b1 b2 i\/SG i\/SV i) w w1:=(g0.touch _).trans' ht1 (fun i hi h=>h.imp id (fun h=>h.imp id .inl));have hRA:∀ s r vi,ZxD w1 SV (plus SG W0) (fun i=>i=w.heap.size+1) ⟨k,z,m,p1,b1,p2,b2,n,g,R,w.heap.size+1,w.heap.size+5⟩ v s r vi->Y3k w1 SV z k m p1 b1 p2 b2 n g v s.L r vi:=fun s r vi hm=>⟨hz.1,hm.vm,hm.ext,hm.tab,_,hm.row⟩
 have hbig:∀ (W1 W2:World) (L:List Ob) (r vi:Int),Y3k W1 SV z k m p1 b1 p2 b2 n g v L r vi->XF4 (fun i=>w.heap.size<=i) W1 W2->Y3k W2 SV z k m p1 b1 p2 b2 n g v L r vi:=fun W1 W2 L r vi h t=>
  h.touch t (fun i hi h=>by have:=(hSV i hi).1;omega) (fun i hi h=>by have:=hml i hi;omega) (by omega) (by omega) (by omega) (by omega) (fun i hi h=>by have:=(hD i hi).1;omega)
 have hTS:∀ (W:World) (z1 z2:Value),XF4 (fun i=>w.heap.size<=i) W ((W.setCell ⟨w.heap.size,0,none⟩ z1).setCell ⟨w.heap.size,1,none⟩ z2):=fun W z1 z2=>
  ((XF4.refl (fun i=>w.heap.size<=i) W).setCell (a:=⟨w.heap.size,0,none⟩) (fun _=>Nat.le_refl _) z1).setCell (a:=⟨w.heap.size,1,none⟩) (fun _=>Nat.le_refl _) z2
 rcases hp with ⟨⟨s,r,vi,hm,hp1',hp2'⟩,he,rfl⟩ | ⟨why,a',v',l,S',S2,⟨rfl,rfl,rfl,rfl,rfl,hn,s,r,vi,hm⟩,he,hcc⟩
 ·simp only [Ending.returned.injEq,Value.agg.injEq] at he;have hfx:fx=0/\fy=0:=by simpa using he
  obtain ⟨rfl,rfl⟩:=hfx;have hT2:=((XF4.refl (fun i=>w.heap.size<=i) w1).setCell (a:=⟨w.heap.size+2+1,0,none⟩) (fun _=>by show w.heap.size<=w.heap.size+2+1;omega) (.int .i64 0)).setCell (a:=⟨w.heap.size+2+1,1,none⟩) (fun _=>by show w.heap.size<=w.heap.size+2+1;omega) (.int .i64 0);have hT3:=hT2.trans (hTS _ (.int .i64 0) (.int .i64 0));exact ⟨T1.trans' hT3 (fun i hi h=>by omega),0,0,s.L,r,vi,rfl,hbig _ _ _ _ _ (hRA s r vi hm) hT3,.inl ⟨rfl,hp1',hp2'⟩⟩
 ·simp only [Ending.returned.injEq,Value.agg.injEq] at he;have hfx:fx=25/\fy=a':=by simpa using he
  obtain ⟨rfl,rfl⟩:=hfx;obtain ⟨q1,q2,q3,q4⟩:=hcc;obtain ⟨q,hq⟩:=hfail.resolve_left hn;obtain rfl:=hq0 q hq;subst hq
  have hlt:∀ i,i<w.heap.size->¬ S2 i->¬ (i=w.heap.size+1\/S2 i\/i=w.heap.size+2+1):=fun i hi hs h=>by
   rcases h with h | h | h
   ·omega
   ·exact hs h
   ·omega
  have hr1:=hRA s r vi hm
  have hr2:Y3k w2 S2 (spM q0) k m p1 b1 p2 b2 n g v' s.L r vi:=⟨hz.1,q2,hr1.ext.touch q1 (hlt _ (hml _ (.inl rfl)) (fun h=>(hSV _ h).2 (.inr (.inl (.inl rfl))))) (hlt _ hp1l hv1) (hlt _ (hml _ (.inr (.inl rfl))) (fun h=>(hSV _ h).2 (.inr (.inl (.inr (.inl rfl)))))) (hlt _ hp2l hv2) (hlt _ (hml _ (.inr (.inr rfl))) (fun h=>(hSV _ h).2 (.inr (.inl (.inr (.inr rfl)))))),
   q1.tab hr1.tab.lt (hlt _ htl hvt) hr1.tab,by obtain ⟨wk,hr⟩:=hr1.row;exact ⟨wk,hr.touch q1 (hlt _ hkl (fun h=>(hSV _ h).2 (.inl rfl)))⟩⟩
  refine ⟨(T1.trans' q1 (fun i hi h=>?_)).trans' (hTS _ _ _) (fun i hi h=>by omega),25,fy,s.L,r,vi,rfl,hbig _ _ _ _ _ hr2 (hTS _ _ _),.inr ⟨rfl,hn⟩⟩;rcases h with h | h | h
  ·omega
  ·exact .inr (.inr (.inr h))
  ·omega
end
end
section
section
open Go.RowKit Word
def QUw (a b c d:Int):Value:=.agg #[.int .i64 a,.int .i64 b,.int .i64 c,.int .i64 d]
theorem V7d (W:World) (blk off:Nat) (p q r s:Value) (h0:W.cell? ⟨blk,off,none⟩=some p) (h1:W.cell? ⟨blk,off+1,none⟩=some q) (h2:W.cell? ⟨blk,off+2,none⟩=some r) (h3:W.cell? ⟨blk,off+3,none⟩=some s):(loadVar 105 ⟨blk,off,none⟩).run Tryz.prog W=.ok (.agg #[p,q,r,s]) W:=by
 have a1:(isAgg 105).run Tryz.prog W=.ok true W:=by kernel_rfl
 have a2:(sizeOf 105).run Tryz.prog W=.ok 4 W:=by kernel_rfl
 simp [loadVar,Sem.run_bind,a1,a2,Result.andThen,loadCells,go_sem,h0,h1,h2,h3]
def VA2 (w:World) (SV:Nat->Prop) (z:Sp) (m p1 b1 p2 b2 n:Nat) (v:Vm) (rs:List Int) (room:Int) (e:Ending) (w':World):Prop:=
 ((room<1\/4096<room)/\e=.returned (.tuple #[QUw 0 0 0 0,.int .i64 5])/\Gr w w') ∨
 (1<=room/\room<=4096/\XF4 (fun i=>YBz m b1 b2 i\/SV i) w w'/\z.I v SV w' ∧
  ((∃ L r vi,e=.returned (.tuple #[QUw (L.length:Nat) (Qd4 L:Nat) r vi,.int .i64 0])/\Ext w' m p1 b1 p2 b2 n L/\Zx6 v rs n L/\(L=[]->r=1/\vi=0)) ∨
   (e=.returned (.tuple #[QUw 0 0 0 0,.int .i64 25])/\Ext w' m p1 b1 p2 b2 n []/\¬ Xd6 v rs n)))
section
variable {w:World} {SV:Nat->Prop} {z:Sp} {q m p1 b1 p2 b2 n:Nat} {v:Vm} {rs:List Int} {L0:List Ob} {A:Option Addr} {cp:Nat}
theorem VOf (w:World) (o:Obj) (T:Nat) (xs:List Value):Rec ((w.alloc o).alloc (.cells xs.toArray T)) (w.heap.size+1) T xs:=by
 have:=Rec.new (w.alloc o) T xs;rw [World.size_alloc] at this;exact this
theorem JVs (w:World) (o o':Obj) (T:Nat) (xs:List Value):Rec ((w.alloc o).alloc (.cells xs.toArray T)) (w.heap.size+1) T xs/\Rec (((w.alloc (.cells xs.toArray T)).alloc o')) w.heap.size T xs:=by
 have:=Rec.new (w.alloc o) T xs;rw [World.size_alloc] at this;exact ⟨this,(Rec.new w T xs).gr ((Gr.refl _).alloc _)⟩
theorem YH8 (W:World) (b:Nat) (z0 z1 z2 z3:Value):XF4 (fun i=>i=b) W ((((W.setCell ⟨b,0,none⟩ z0).setCell ⟨b,1,none⟩ z1).setCell ⟨b,2,none⟩ z2).setCell ⟨b,3,none⟩ z3):=
 ((((XF4.refl (fun i=>i=b) W).setCell (a:=⟨b,0,none⟩) (fun _=>rfl) z0).setCell (a:=⟨b,1,none⟩) (fun _=>rfl) z1).setCell (a:=⟨b,2,none⟩) (fun _=>rfl) z2).setCell (a:=⟨b,3,none⟩) (fun _=>rfl) z3
theorem ZDS {W:World} {S:Nat->Prop} {z0 z1 z2 z3:Value} (h:XF4 S w W):XF4 S w ((((W.setCell ⟨w.heap.size+1,0,none⟩ z0).setCell ⟨w.heap.size+1,1,none⟩ z1).setCell ⟨w.heap.size+1,2,none⟩ z2).setCell ⟨w.heap.size+1,3,none⟩ z3):=by
 have hx:∀ j:Nat,(⟨w.heap.size+1,j,none⟩:Addr).block<w.heap.size->S (⟨w.heap.size+1,j,none⟩:Addr).block:=fun j h=>absurd h (by show ¬ (w.heap.size+1<w.heap.size);omega);exact (((h.setCell (hx 0) z0).setCell (hx 1) z1).setCell (hx 2) z2).setCell (hx 3) z3
set_option maxHeartbeats 3200000 in
theorem Xbg (hz:z.Ok/\¬ z.M) (hfail:Xd6 v rs n\/∃ q,z=spM q) (hp:∀ a,Rch v rs a->z.Rd v a) (hD:∀ i,z.D i->i<w.heap.size/\¬ YBz m b1 b2 i) (hV:z.I v SV w) (hE:Ext w m p1 b1 p2 b2 n L0) (hT:VRW w) (hA:YxD (YBz m b1 b2) w A rs) (hlen:rs.length<=maxLen)
  (hvm:∀ i,SV i->¬ YBz m b1 b2 i) (hv1:¬ SV p1) (hv2:¬ SV p2) (hvt:¬ SV 1) (htm:¬ YBz m b1 b2 1) (room:Int):
  Calls Tryz.prog 53 #[z.v,.slice A rs.length cp,.pointer (some ⟨m,0,none⟩),.int .i64 room] w (VA2 w SV z m p1 b1 p2 b2 n v rs room):=by
 have HE:=hid hE;have HV:=hid (hz.1.ct hV);have HZ:=hid hz;have HF:=hid hfail;have HP:=hid hp;have HD:=hid hD;have HT:=hid hT;have HA:=hid hA;have hn1:=hE.nb.1;have dn:((n:Int)==0)=false:=by simp;omega
 have hml:∀ i,YBz m b1 b2 i->i<w.heap.size:=fun i hi=>by
  rcases hi with rfl | rfl | rfl
  ·exact hE.hm
  ·exact hE.v1.hb
  ·exact hE.v2.hb
 have hp1l:p1<w.heap.size:=hE.v1.hp;have hp2l:p2<w.heap.size:=hE.v2.hp;have htl:=hT.lt
 have hm1:¬ YBz m b1 b2 p1:=fun h=>by
  rcases h with h | h | h
  ·exact hE.am.1 h.symm
  ·exact hE.v1.ne h
  ·exact hE.ab.1 h
 have hm2:¬ YBz m b1 b2 p2:=fun h=>by
  rcases h with h | h | h
  ·exact hE.am.2.2.1 h.symm
  ·exact hE.ab.2.1 h
  ·exact hE.v2.ne h
 have HML:=hid hml;obtain ⟨N,hN⟩:∃ N,N=rs.length:=⟨_,rfl⟩;have HN:=hid hN;rw [<-hN] at hlen ⊢;have h5:=(JVs w (.cells #[.slice A N cp] 48) (.cells #[.int .i64 0,.int .i64 0,.int .i64 0,.int .i64 0] 105) 48 [.slice A N cp]).2;have h8:=(JVs w (.cells #[.slice A N cp] 48) (.cells #[] 48) 105 [.int .i64 0,.int .i64 0,.int .i64 0,.int .i64 0]).1;have HR5:=hid h5;have HR8:=hid h8;have hga:Gr w ((w.alloc (.cells #[.slice A N cp] 48)).alloc (.cells #[.int .i64 0,.int .i64 0,.int .i64 0,.int .i64 0] 105)):=((Gr.refl w).alloc _).alloc _;have hsa:((w.alloc (.cells #[.slice A N cp] 48)).alloc (.cells #[.int .i64 0,.int .i64 0,.int .i64 0,.int .i64 0] 105)).heap.size=w.heap.size+2:=by rw [World.size_alloc,World.size_alloc]
 obtain ⟨wa,hwa⟩:∃ wa,wa=((w.alloc (.cells #[.slice A N cp] 48)).alloc (.cells #[.int .i64 0,.int .i64 0,.int .i64 0,.int .i64 0] 105)):=⟨_,rfl⟩;rw [show (w.alloc (.cells ([.slice A N cp]:List Value).toArray 48)).alloc (.cells #[.int .i64 0,.int .i64 0,.int .i64 0,.int .i64 0] 105)=wa from hwa.symm] at HR5;rw [show (w.alloc (.cells #[.slice A N cp] 48)).alloc (.cells ([.int .i64 0,.int .i64 0,.int .i64 0,.int .i64 0]:List Value).toArray 105)=wa from hwa.symm] at HR8;rw [<-hwa] at hga hsa;have HGA:=hid hga;have HWA:=hid hwa;have HEA:=hid (HE.o.gr hga);have HB0:Hid (∀ i,ZOk SV w i->i<w.heap.size/\¬ YBz m b1 b2 i):=⟨fun i hi=>⟨hi.2,hvm i hi.1⟩⟩;have HSEP:=hid (And.intro hv1 (And.intro hv2 (And.intro hvt (And.intro htm (And.intro hm1 hm2)))));clear hV hz hfail hp hD hE hT hA h5 h8 hwa hga hvm hv1 hv2 hvt htm hm1 hm2 hml hN;by_cases hroom:room<1\/4096<room
 ·have HSN:Hid (∀ W,Calls Tryz.prog 122 #[.int .i64 room] W fun e w'=>e=.returned (.tuple #[.pointer none,.int .i64 5])/\W=w'):=⟨fun W=>(VgV room W).mono fun e w' h=>by
   rcases h with ⟨-,h1,h2⟩ | ⟨h1,h2,-⟩
   ·exact ⟨h1,h2⟩
   ·omega⟩
  have HRM:=hid hroom;unfold Sp.v;clear hroom hsa;go_enter Tryz.func53,Tryz.ntmps53;go_upto_region 1 with (fail);rw [<-HWA.o];have y0:=HR8.o.cell (j:=0) rfl;have y1:=HR8.o.cell (j:=1) rfl;have y2:=HR8.o.cell (j:=2) rfl;have y3:=HR8.o.cell (j:=3) rfl;have yf:=HR8.o.free
  go_wp2_with (first
   | (go_at_call 121;refine (VSs HEA.o).mono ?_;rintro e w1 ⟨rfl,rfl⟩)
   | (go_at_call 122;refine (HSN.o _).mono ?_;rintro e w1 ⟨rfl,rfl⟩))
  have R:=((((HR8.o.set 0 (.int .i64 0)).set 1 (.int .i64 0)).set 2 (.int .i64 0)).set 3 (.int .i64 0));have hl:=V7d _ _ 0 _ _ _ _ (R.cell (j:=0) rfl) (R.cell (j:=1) rfl) (R.cell (j:=2) rfl) (R.cell (j:=3) rfl);refine bodyPost_ret (v:=.tuple #[.agg #[.int .i64 0,.int .i64 0,.int .i64 0,.int .i64 0],.int .i64 5]) ?_ rfl (.inl ⟨HRM.o,rfl,?_⟩)
  ·rw [results_cell_tmp rfl];simp [asAddr,Result.andThen,hl]
  ·exact (ZDS (HGA.o.touch _)).gr
 ·have hroom':1<=room/\room<=4096:=by omega
  have HSN:Hid (∀ W,Calls Tryz.prog 122 #[.int .i64 room] W fun e w'=>e=.returned (.tuple #[.pointer (some ⟨W.heap.size,0,none⟩),.int .i64 0])/\Gr W w'/\QH2 w' (fun k=>W.heap.size<=k) W.heap.size [] room.toNat false):=⟨fun W=>(VgV room W).mono fun e w' h=>by
   rcases h with ⟨h1,-⟩ | ⟨-,-,h1,h2,h3⟩
   ·omega
   ·exact ⟨h1,h2,h3⟩⟩
  have HRM:=hid hroom';unfold Sp.v;clear hroom;go_enter Tryz.func53,Tryz.ntmps53;go_upto_region 1 with (fail);rw [<-HWA.o];obtain ⟨gs,hgs⟩:∃ gs,gs=wa.heap.size:=⟨_,rfl⟩;have HGS:=hid hgs
  go_upto_region 8 with (first
   | (go_at_call 121;refine (VSs HEA.o).mono ?_;rintro e w1 ⟨rfl,rfl⟩)
   | (go_at_call 122;refine (HSN.o _).mono ?_;rintro e ws ⟨rfl,hgs1,hst1⟩;have HGS1:=hid hgs1;have HST1:=hid hst1.cut;clear hgs1 hst1)
   | (go_at_call 123;refine (Zca (HEA.o.gr HGS1.o)).mono ?_;rintro e w3 ⟨rfl,ht3,hx3⟩;have HT3:=hid ht3;have HX3:=hid hx3;clear ht3 hx3))
  have HST2:Hid (QH2 ws (ZOk (fun k=>w.heap.size+2<=k) ws) (w.heap.size+2) [] room.toNat false):=⟨by have:=HST1.o;rw [hsa] at this;exact this⟩;have hzs:=HGS1.o.size;have hz3:=HT3.o.size;have hk3:w.heap.size+2<=w3.heap.size:=by omega
  have hlo:∀ i,YBz m b1 b2 i->i<w.heap.size:=HML.o;obtain ⟨hv1,hv2,hvt,htm,hm1,hm2⟩:=HSEP.o;have g2:Gr w3 ((w3.alloc (.cells #[.iface z.T z.rv,.pointer (some ⟨m,0,none⟩),.pointer (some ⟨w.heap.size+2,0,none⟩),.pointer none,.int .i64 0,.int .i64 0,.int .i64 0,.int .i64 0] 193)).alloc (.cells #[.pointer (some ⟨w3.heap.size,0,none⟩)] 190)):=((Gr.refl w3).alloc _).alloc _;have hsz4:((w3.alloc (.cells #[.iface z.T z.rv,.pointer (some ⟨m,0,none⟩),.pointer (some ⟨w.heap.size+2,0,none⟩),.pointer none,.int .i64 0,.int .i64 0,.int .i64 0,.int .i64 0] 193)).alloc (.cells #[.pointer (some ⟨w3.heap.size,0,none⟩)] 190)).heap.size=w3.heap.size+2:=by rw [World.size_alloc,World.size_alloc]
  have r12:=VOf w3 (.cells #[.iface z.T z.rv,.pointer (some ⟨m,0,none⟩),.pointer (some ⟨w.heap.size+2,0,none⟩),.pointer none,.int .i64 0,.int .i64 0,.int .i64 0,.int .i64 0] 193) 190 [.pointer (some ⟨w3.heap.size,0,none⟩)];have rk:=(Rec.new w3 193 [.iface z.T z.rv,.pointer (some ⟨m,0,none⟩),.pointer (some ⟨w.heap.size+2,0,none⟩),.pointer none,.int .i64 0,.int .i64 0,.int .i64 0,.int .i64 0]).gr ((Gr.refl _).alloc (.cells #[.pointer (some ⟨w3.heap.size,0,none⟩)] 190));obtain ⟨W,hW⟩:∃ W,W=((w3.alloc (.cells #[.iface z.T z.rv,.pointer (some ⟨m,0,none⟩),.pointer (some ⟨w.heap.size+2,0,none⟩),.pointer none,.int .i64 0,.int .i64 0,.int .i64 0,.int .i64 0] 193)).alloc (.cells #[.pointer (some ⟨w3.heap.size,0,none⟩)] 190)):=⟨_,rfl⟩;rw [<-hW] at g2 hsz4 ⊢;rw [show (w3.alloc (.cells #[.iface z.T z.rv,.pointer (some ⟨m,0,none⟩),.pointer (some ⟨w.heap.size+2,0,none⟩),.pointer none,.int .i64 0,.int .i64 0,.int .i64 0,.int .i64 0] 193)).alloc (.cells ([.pointer (some ⟨w3.heap.size,0,none⟩)]:List Value).toArray 190)=W from hW.symm] at r12;rw [show (w3.alloc (.cells ([.iface z.T z.rv,.pointer (some ⟨m,0,none⟩),.pointer (some ⟨w.heap.size+2,0,none⟩),.pointer none,.int .i64 0,.int .i64 0,.int .i64 0,.int .i64 0]:List Value).toArray 193)).alloc (.cells #[.pointer (some ⟨w3.heap.size,0,none⟩)] 190)=W from hW.symm] at rk;have tW:XF4 (YBz m b1 b2) w W:=((HGA.o.trans HGS1.o).touch _ |>.trans HT3.o).trans (g2.touch _)
  have hnot:∀ i,i<w.heap.size->¬ YBz m b1 b2 i->¬ (i=w3.heap.size\/YBz m b1 b2 i\/ZOk (fun k=>w.heap.size+2<=k) ws i):=fun i hi hn h=>by
   rcases h with h | h | h
   ·omega
   ·exact hn h
   ·have:=h.1;omega
  have hrunm:=Q3I (w:=W) (SV:=ZOk SV w) (SG:=ZOk (fun k=>w.heap.size+2<=k) ws) (z:=z) (k:=w3.heap.size) (m:=m) (g:=w.heap.size+2) (R:=room.toNat) (b12:=w3.heap.size+1) (b5:=w.heap.size) (cp:=cp) (v:=v) (rs:=rs) (A:=A)
   HZ.o HF.o HP.o (fun i hi=>⟨by have:=(HD.o i hi).1;omega,hnot i (HD.o i hi).1 (HD.o i hi).2⟩) (HZ.o.1.fr HV.o tW (fun i _ h=>⟨fun hi=>(HB0.o i hi).2 h,fun hi=>(HD.o i hi).2 h⟩) (fun _ h=>h)) (HX3.o.gr g2) ((HST2.o.touch HT3.o (fun i hi _ h=>by have:=hlo i h;have:=hi.1;omega)).gr g2) rk (tW.tab HT.o.lt htm HT.o)
   (r12.cell (j:=0) rfl) (by rw [<-HN.o];exact (((HR5.o.gr HGS1.o).touch HT3.o (fun h=>by have:=hlo _ h;omega)).gr g2).cell (j:=0) rfl) (by omega) (by omega)
   ((HA.o.mono (T':=fun i=>i=w3.heap.size\/YBz m b1 b2 i\/ZOk (fun k=>w.heap.size+2<=k) ws i) (fun b hb h=>by
    rcases h with h | h | h
    ·omega
    ·exact h
    ·have:=h.1;omega)).touch tW (fun _ _ h=>.inr (.inl h))) (by rw [<-HN.o];exact hlen)
   (fun i hi=>⟨by have:=hi.2;omega,fun h=>by
    rcases h with h | h | h
    ·have:=hi.2;omega
    ·exact (HB0.o i hi).2 h
    ·have:=hi.2;have:=h.1;omega⟩) (fun i hi=>by have:=hi.2;omega) (hnot _ hp1l hm1) (hnot _ hp2l hm2) (hnot _ htl htm) (fun h=>hv1 h.1) (fun h=>hv2 h.1) (fun h=>hvt h.1) (fun h=>by have:=hlo _ h;omega) (fun h=>by have:=h.2;omega) (fun i hi h=>by have:=hlo i hi;have:=h.1;omega)
  have HRUN:=hid hrunm;have HTW:=hid tW;have HR12:=hid r12;have HR8W:=hid (((HR8.o.gr HGS1.o).touch HT3.o (fun h=>by have:=hlo _ h;omega)).gr g2);have HZ3:=hid (And.intro hk3 (And.intro hsz4 hzs))
  have hT5:Hid (∀ i,w.heap.size<=i->i<w.heap.size+2\/i=w3.heap.size+1->¬ (i=w3.heap.size\/YBz m b1 b2 i\/ZOk (fun k=>w.heap.size+2<=k) ws i\/ZOk SV w i)):=⟨fun i h1 h2 h=>by
   rcases h with h | h | h | h
   ·omega
   ·have:=hlo i h;omega
   ·have:=h.1;have:=h.2;omega
   ·have:=h.2;omega⟩
  unfold Sp.v at HRUN;clear hrunm tW r12 rk hW g2 hnot hsz4 hlo hm1 hm2 hv1 hv2 hvt htm hgs HGS;have hcf:=VUu;have hmf:∀ (fn:Fn) (first cap:Array Value) (w:World),(Instr.makeFunc fn first cap).run Tryz.prog w=.ok (.func fn first cap) w:=fun _ _ _ _=>rfl
  go_wp2_with (first
   | (go_at_call 124;refine HRUN.o.mono ?_;rintro e w5 ⟨ht5,x,y,L,r,vi,rfl,hra,(⟨rfl,hmk,hnil⟩ | ⟨rfl,hns⟩)⟩ <;> (have HT5:=hid ht5;have HRA:=hid hra;have R12:=HR12.o.touch ht5 (hT5.o _ (by have:=HZ3.o.1;omega) (.inr rfl));have R8:=HR8W.o.touch ht5 (hT5.o _ (by omega) (.inl (by omega)));have x12:=R12.cell (j:=0) rfl;have l12:=R12.lt;have l8:=R8.lt;have e0:=R8.cell (j:=0) rfl;have e1:=R8.cell (j:=1) rfl;have e2:=R8.cell (j:=2) rfl;have e3:=R8.cell (j:=3) rfl;have ef:=R8.free;obtain ⟨wk,hrow⟩:=hra.row;have k4:=hrow.cell (j:=4) rfl;have k5:=hrow.cell (j:=5) rfl;have k6:=hrow.cell (j:=6) rfl;have k7:=hrow.cell (j:=7) rfl;have lk:=hrow.lt;have HR8Z:=hid R8;clear ht5 hra R12 R8 hrow))
   | (go_at_call 123;refine (Zca (HRA.o.ext.gr ((Gr.refl _).alloc _))).mono ?_;rintro e w6 ⟨rfl,ht6,hx6⟩;have R86:=(HR8Z.o.gr ((Gr.refl _).alloc (.cells #[.int .i64 25,.int .i64 y] 195))).touch ht6 (fun h=>by have:=HML.o _ h;omega);have f0:=R86.cell (j:=0) rfl;have f1:=R86.cell (j:=1) rfl;have f2:=R86.cell (j:=2) rfl;have f3:=R86.cell (j:=3) rfl;have ff:=R86.free;have HR86:=hid R86;have HT6:=hid ht6;have HX6:=hid hx6;clear ht6 hx6 R86))
  ·have hg5:=fun W=>(Gr.refl W).alloc (.cells #[.int .i64 0,.int .i64 y] 195);have R:=(((((HR8Z.o).set 0 (.int .i64 (L.length:Nat))).set 1 (.int .i64 (Qd4 L:Nat))).set 2 (.int .i64 r)).set 3 (.int .i64 vi)).gr (hg5 _);have hl:=V7d _ _ 0 _ _ _ _ (R.cell (j:=0) rfl) (R.cell (j:=1) rfl) (R.cell (j:=2) rfl) (R.cell (j:=3) rfl);have tf:=YH8 w5 (w.heap.size+1) (.int .i64 (L.length:Nat)) (.int .i64 (Qd4 L:Nat)) (.int .i64 r) (.int .i64 vi)
   have hT:XF4 (fun i=>YBz m b1 b2 i\/SV i) w w5:=(HTW.o.mono (fun i _ h=>.inl h)).trans' HT5.o (fun i hi h=>by
    rcases h with h | h | h | h
    ·have:=HZ3.o.1;omega
    ·exact .inl h
    ·have:=h.1;omega
    ·exact .inr h.1)
   have hT2:=(hT.trans' tf (fun i hi h=>by omega)).trans ((hg5 _).touch _);refine bodyPost_ret (v:=.tuple #[.agg #[.int .i64 (L.length:Nat),.int .i64 (Qd4 L:Nat),.int .i64 r,.int .i64 vi],.int .i64 0]) ?_ rfl (.inr ⟨HRM.o.1,HRM.o.2,hT2,?_,.inl ⟨L,r,vi,rfl,?_,hmk,hnil⟩⟩)
   ·rw [results_cell_tmp rfl];simp [asAddr,Result.andThen,hl]
   ·exact HZ.o.1.mono (HZ.o.1.gr (HZ.o.1.fr HRA.o.vm tf (fun i _ h=>⟨fun hi=>by have:=hi.2;omega,fun hi=>by have:=(HD.o i hi).1;omega⟩) (fun _ h=>h)) (hg5 _)) (fun i hi=>hi.1)
   ·have hne:∀ i,i<w.heap.size->i≠w.heap.size+1:=fun i h=>by omega
    exact (HRA.o.ext.touch tf (hne _ (HML.o _ (.inl rfl))) (hne _ hp1l) (hne _ (HML.o _ (.inr (.inl rfl)))) (hne _ hp2l) (hne _ (HML.o _ (.inr (.inr rfl))))).gr (hg5 _)
  ·have hg5:=(Gr.refl w5).alloc (.cells #[.int .i64 25,.int .i64 y] 195);have R:=(((((HR86.o).set 0 (.int .i64 0)).set 1 (.int .i64 0)).set 2 (.int .i64 0)).set 3 (.int .i64 0));have hl:=V7d _ _ 0 _ _ _ _ (R.cell (j:=0) rfl) (R.cell (j:=1) rfl) (R.cell (j:=2) rfl) (R.cell (j:=3) rfl);have tf:=YH8 w6 (w.heap.size+1) (.int .i64 0) (.int .i64 0) (.int .i64 0) (.int .i64 0)
   have hT:XF4 (fun i=>YBz m b1 b2 i\/SV i) w w5:=(HTW.o.mono (fun i _ h=>.inl h)).trans' HT5.o (fun i hi h=>by
    rcases h with h | h | h | h
    ·have:=HZ3.o.1;omega
    ·exact .inl h
    ·have:=h.1;omega
    ·exact .inr h.1)
   have hT2:=((hT.trans (hg5.touch _)).trans (HT6.o.mono (fun i _ h=>.inl h))).trans' tf (fun i hi h=>by omega);refine bodyPost_ret (v:=.tuple #[.agg #[.int .i64 0,.int .i64 0,.int .i64 0,.int .i64 0],.int .i64 25]) ?_ rfl (.inr ⟨HRM.o.1,HRM.o.2,hT2,?_,.inr ⟨rfl,?_,hns⟩⟩)
   ·rw [results_cell_tmp rfl];simp [asAddr,Result.andThen,hl]
   ·exact HZ.o.1.mono (HZ.o.1.fr (HZ.o.1.fr (HZ.o.1.gr HRA.o.vm hg5) HT6.o (fun i _ h=>⟨fun hi=>(HB0.o i hi).2 h,fun hi=>(HD.o i hi).2 h⟩) (fun _ h=>h)) tf (fun i _ h=>⟨fun hi=>by have:=hi.2;omega,fun hi=>by have:=(HD.o i hi).1;omega⟩) (fun _ h=>h)) (fun i hi=>hi.1)
   ·have hne:∀ i,i<w.heap.size->i≠w.heap.size+1:=fun i h=>by omega
    exact HX6.o.touch tf (hne _ (HML.o _ (.inl rfl))) (hne _ hp1l) (hne _ (HML.o _ (.inr (.inl rfl)))) (hne _ hp2l) (hne _ (HML.o _ (.inr (.inr rfl))))
def J6M (w:World) (SV:Nat->Prop) (q m p1 b1 p2 b2 n:Nat) (v:Vm) (rs:List Int) (room:Int) (e:Ending) (w':World):Prop:=
 ((room<1\/4096<room)/\e=.returned (.tuple #[QUw 0 0 0 0,.int .i64 5])/\Gr w w') ∨
 (1<=room/\room<=4096/\XF4 (fun i=>YBz m b1 b2 i\/SV i) w w'/\QXZ w' SV q v ∧
  ((∃ L r vi,e=.returned (.tuple #[QUw (L.length:Nat) (Qd4 L:Nat) r vi,.int .i64 0])/\Ext w' m p1 b1 p2 b2 n L/\Zx6 v rs n L/\(L=[]->r=1/\vi=0)) ∨
   (e=.returned (.tuple #[QUw 0 0 0 0,.int .i64 25])/\Ext w' m p1 b1 p2 b2 n []/\¬ Xd6 v rs n)))
theorem XKD (hV:QXZ w SV q v) (hE:Ext w m p1 b1 p2 b2 n L0) (hT:VRW w) (hA:YxD (YBz m b1 b2) w A rs) (hlen:rs.length<=maxLen)
  (hvm:∀ i,SV i->¬ YBz m b1 b2 i) (hv1:¬ SV p1) (hv2:¬ SV p2) (hvt:¬ SV 1) (htm:¬ YBz m b1 b2 1) (room:Int):
  Calls Tryz.prog 53 #[spV q,.slice A rs.length cp,.pointer (some ⟨m,0,none⟩),.int .i64 room] w (J6M w SV q m p1 b1 p2 b2 n v rs room):=
 Xbg (z:=spM q) ⟨YGi q,fun h=>h⟩ (.inr ⟨q,rfl⟩) (fun _ _=>⟨fun _=>trivial,fun _ _=>trivial⟩) (fun _ h=>h.elim) hV hE hT hA hlen hvm hv1 hv2 hvt htm room
end
end
end
end
section
section
open Go.RowKit Go.Shelf Word
attribute [local go_sem] Oper.semAt_some
structure JQF (v:Vm) (rs:List Int) (c:Cf):Prop where
 cf:VeB v.pl.pg v.n c
 sd:Xd6 v rs v.n
 inn:∀ L,Zx6 v rs v.n L->(∀ o∈L,c.fr<=o.1/\o.1+o.2<=c.tp)/\c.to+Qd4 L<=c.lm
def V1i (w:World) (S:Nat->Prop) (q:Nat) (v:Vm) (rs:List Int) (e:Ending) (w':World):Prop:=
 ∃ L,Zx6 v rs v.n L/\e=.returned (.tuple #[.int .i64 (Qd4 L:Nat),.int .i64 0])/\XF4 S w w'/\QXZ w' (ZOk S w) q v
structure JXY (w wx:World) (S:Nat->Prop) (q m p1 b1 p2 b2 b11:Nat) (v:Vm) (rs:List Int) (c:Cf) (L:List Ob) (r vi:Int):Prop where
 t:XF4 S w wx
 vm:QXZ wx (ZOk S w) q v
 ex:Ext wx m p1 b1 p2 b2 v.n L
 mks:Zx6 v rs v.n L
 st:Rec wx b11 105 [.int .i64 (L.length:Nat),.int .i64 (Qd4 L:Nat),.int .i64 r,.int .i64 vi]
 bx:Rec wx w.heap.size 116 [.int .i64 c.fr,.int .i64 c.tp,.int .i64 c.to,.int .i64 c.lm,.int .i64 c.bk,.int .i64 c.st,.int .i64 c.ah]
 r6:Rec wx (w.heap.size+1) 3 [.int .i64 0]
 r7:Rec wx (w.heap.size+2) 29 [.int .i64 0]
 lm:w.heap.size+3<=m
 l1:w.heap.size+3<=p1
 l2:w.heap.size+3<=b1
 l3:w.heap.size+3<=p2
 l4:w.heap.size+3<=b2
 l5:w.heap.size+3<=b11
section
variable {w:World} {S:Nat->Prop} {q r g:Nat} {v:Vm} {rs:List Int} {c:Cf}
set_option maxHeartbeats 3200000 in
theorem Qwc (hV:QXZ w S q v) (hR:V5d w r g rs) (hT:VRW w) (htS:¬ S 1) (hc:JQF v rs c):
  Calls Tryz.prog 132 #[.pointer (some ⟨q,0,none⟩),.pointer (some ⟨r,0,none⟩),cfV c] w (V1i w S q v rs):=by
 have HV:=hid hV.cut;have HR:=hid hR;have HT:=hid hT;have HTS:=hid htS;have HC:=hid hc;have htl:=hT.lt;have hcf:=hc.cf;have hn1:1<=v.n:=by have:=hcf.fr;have:=hcf.tp;have:=hcf.tn;have:=hV.ok.page.1;omega
 have hn2:=hV.ok.n2;have hne:rs.length≠0:=fun e=>hR.ne (List.eq_nil_of_length_eq_zero e);have hle:=hR.le;have HX:=hid (fun W=>XMw v.n hn1 (by omega) W);have HST:=hid (And.intro hcf.st.1 hcf.st.2);obtain ⟨n,hne0⟩:∃ n,n=rs.length:=⟨_,rfl⟩;have HN:=hid hne0;rw [<-hne0] at hne hle;have d0:((n:Int)==0)=false:=by simp;omega
 have g1:Gr w (((w.alloc (.cells #[.int .i64 c.fr,.int .i64 c.tp,.int .i64 c.to,.int .i64 c.lm,.int .i64 c.bk,.int .i64 c.st,.int .i64 c.ah] 116)).alloc (.cells #[.int .i64 0] 3)).alloc (.cells #[.int .i64 0] 29)):=(((Gr.refl w).alloc _).alloc _).alloc _;have HG1:=hid g1;clear hV hR hT htS hc hcf hne0 g1;refine (callsIn_wide (n:=5)).1 ?_;refine callsIn_of_wp_marks Tryz.func132 rfl trivial ?_ rfl;simp only [Tryz.ntmps132,List.size_toArray,List.length_cons,List.length_nil,Nat.reduceAdd,Nat.reduceSub,Array.replicate_succ,Array.replicate_zero,List.push_toArray,List.append_toArray,List.nil_append,List.cons_append];unfold cfV;gi_upto_region 1 with (fail);obtain ⟨W0,hW0⟩:∃ W0,W0=(((w.alloc (.cells #[.int .i64 c.fr,.int .i64 c.tp,.int .i64 c.to,.int .i64 c.lm,.int .i64 c.bk,.int .i64 c.st,.int .i64 c.ah] 116)).alloc (.cells #[.int .i64 0] 3)).alloc (.cells #[.int .i64 0] 29)):=⟨_,rfl⟩;have hsz0:W0.heap.size=w.heap.size+3:=by rw [hW0];simp only [World.size_alloc]
 have hg0:Gr w W0:=by rw [hW0];exact HG1.o
 have rb:Rec W0 w.heap.size 116 [.int .i64 c.fr,.int .i64 c.tp,.int .i64 c.to,.int .i64 c.lm,.int .i64 c.bk,.int .i64 c.st,.int .i64 c.ah]:=by rw [hW0];exact (Rec.new w _ [.int .i64 c.fr,.int .i64 c.tp,.int .i64 c.to,.int .i64 c.lm,.int .i64 c.bk,.int .i64 c.st,.int .i64 c.ah]).gr (((Gr.refl _).alloc _).alloc _)
 have r6:Rec W0 (w.heap.size+1) 3 [.int .i64 0]:=by rw [hW0];exact (VOf w _ 3 [.int .i64 0]).gr ((Gr.refl _).alloc _)
 have r7:Rec W0 (w.heap.size+2) 29 [.int .i64 0]:=by
  rw [hW0];have:=VOf (w.alloc (.cells #[.int .i64 c.fr,.int .i64 c.tp,.int .i64 c.to,.int .i64 c.lm,.int .i64 c.bk,.int .i64 c.st,.int .i64 c.ah] 116)) (.cells #[.int .i64 0] 3) 29 [.int .i64 0];rw [World.size_alloc] at this;exact this
 rw [<-hW0];clear hW0 HG1;have HG0:=hid hg0;have HRB:=hid rb;have HR6:=hid r6;have HR7:=hid r7;have z0:=rb.cell (j:=0) rfl;have z1:=rb.cell (j:=1) rfl;have z2:=rb.cell (j:=2) rfl;have z3:=rb.cell (j:=3) rfl;have z4:=rb.cell (j:=4) rfl;have z5:=rb.cell (j:=5) rfl;have z6:=rb.cell (j:=6) rfl;have zl:=rb.lt;have HLEN:=hid (fun (W:World) (g:Gr w W)=>YeU (HR.o.gr g));rw [<-HN.o] at HLEN;have HCK:=hid (fun (W:World) (g:Gr w W)=>QzK (HV.o.gr g) HC.o.cf);unfold cfV at HCK;have HWD:=hid (fun (W:World) (g:Gr w W)=>Xwn (HV.o.gr g));clear rb r6 r7 hg0
 gi_upto_region 7 with (first
  | (refine ⟨trivial,?_⟩;gi_at_call 191;refine (callsIn_wide.2 (HLEN.o _ HG0.o)).mono ?_;rintro e w1 ⟨rfl,rfl⟩)
  | (refine ⟨trivial,?_⟩;gi_at_call 192;refine (callsIn_wide.2 (HCK.o _ HG0.o)).mono ?_;rintro e w1 ⟨rfl,hg1⟩;have HG2:=hid hg1;clear hg1)
  | (refine ⟨trivial,?_⟩;gi_at_call 52;refine (callsIn_wide.2 (HWD.o _ (HG0.o.trans HG2.o))).mono ?_;rintro e w2 ⟨rfl,rfl⟩)
  | (refine ⟨trivial,?_⟩;gi_at_call 51;refine (callsIn_wide.2 (HX.o _)).mono ?_;rintro e w3 ⟨m,p1,b1,p2,b2,rfl,hg3,he3,hb0,hb1,hb2,hb3,hb4⟩;have HG3:=hid (HG2.o.trans hg3);have HE3:=hid he3;have HB:=hid (And.intro (Nat.le_trans HG2.o.size hb0) (And.intro (Nat.le_trans HG2.o.size hb1) (And.intro (Nat.le_trans HG2.o.size hb2) (And.intro (Nat.le_trans HG2.o.size hb3) (Nat.le_trans HG2.o.size hb4)))));clear hg3 he3 hb0 hb1 hb2 hb3 hb4))
 gi_cut [11,12] from 15 (fun s11 s12 wx=>∃ (b11:Nat) (L:List Ob) (rv vi:Int),s11=.pointer (some ⟨b11,0,none⟩)/\s12=.int .i64 0/\Hid (JXY w wx S q m p1 b1 p2 b2 b11 v rs c L rv vi))
 case first=>
  have hBB:=HB.o;obtain ⟨hb0,hb1,hb2,hb3,hb4⟩:=hBB;rw [hsz0] at hb0 hb1 hb2 hb3 hb4;have hml:=HE3.o.hm;have hp1l:=HE3.o.v1.hp;have hb1l:=HE3.o.v1.hb;have hp2l:=HE3.o.v2.hp;have hb2l:=HE3.o.v2.hb
  have hmi:∀ i,YBz m b1 b2 i->w.heap.size+3<=i/\i<w3.heap.size:=fun i hi=>by
   rcases hi with rfl | rfl | rfl
   ·exact ⟨hb0,hml⟩
   ·exact ⟨hb2,hb1l⟩
   ·exact ⟨hb4,hb2l⟩
  have HMI:=hid hmi;have HALL:=hid (fun (W:World) (g:Gr w3 W)=>ZbJ (HR.o.gr ((HG0.o.trans HG3.o).trans g)));rw [<-HN.o] at HALL
  have HRUN:Hid (∀ (W:World) (g1 cp:Nat),Gr w3 W->w3.heap.size<=g1->W.ownsRow 0 3 1 (.slice (some ⟨g1,0,none⟩) n cp) n (zs rs)->Calls Tryz.prog 53 #[.iface 87 (.pointer (some ⟨q,0,none⟩)),.slice (some ⟨g1,0,none⟩) n cp,.pointer (some ⟨m,0,none⟩),.int .i64 c.st] W fun e w'=>
    ∃ (L:List Ob) (rv vi:Int),e=.returned (.tuple #[.agg #[.int .i64 (L.length:Nat),.int .i64 (Qd4 L:Nat),.int .i64 rv,.int .i64 vi],.int .i64 0])/\XF4 (fun i=>YBz m b1 b2 i\/ZOk S w i) W w'/\QXZ w' (ZOk S w) q v/\Ext w' m p1 b1 p2 b2 v.n L/\Zx6 v rs v.n L):=⟨fun W g1 cp hg hg1 ho=>by
   rw [HN.o] at ho ⊢;have hgw:=(HG0.o.trans HG3.o).trans hg;refine (XKD (HV.o.gr hgw) (HE3.o.gr hg) (hgw.tab HT.o.lt HT.o) (fun i hi=>?_) (by unfold maxLen;have:=HN.o;omega) (fun i hi h=>by have:=(hmi i h).1;have:=hi.2;omega) (fun h=>by have:=h.2;omega) (fun h=>by have:=h.2;omega) (fun h=>HTS.o h.1) (fun h=>by have:=(hmi _ h).1;omega) (c.st:Int)).mono ?_
   ·exact ⟨g1,0,rfl,(Vvr ho rfl).2,fun h=>by have:=(hmi _ h).2;omega,by rw [Nat.zero_add];exact ZBn ho (JbU hi)⟩
   ·rintro e w' (⟨h,-⟩ | ⟨-,-,ht,hv,(⟨L,r',vi,rfl,he,hm,-⟩ | ⟨-,-,hn⟩)⟩)
    ·have:=HST.o;omega
    ·exact ⟨L,r',vi,rfl,ht,hv,he,hm⟩
    ·exact absurd HC.o.sd hn⟩
  have FIN:Hid (∀ (W1 W2 W3:World) (b11:Nat) (L:List Ob) (rv vi:Int),Gr w3 W1->XF4 (fun i=>YBz m b1 b2 i\/ZOk S w i) W1 W2->QXZ W2 (ZOk S w) q v->Ext W2 m p1 b1 p2 b2 v.n L->Zx6 v rs v.n L->XF4 (fun i=>i=b11) W2 W3->w3.heap.size<=b11 →
    Rec W3 b11 105 [.int .i64 (L.length:Nat),.int .i64 (Qd4 L:Nat),.int .i64 rv,.int .i64 vi]->JXY w W3 S q m p1 b1 p2 b2 b11 v rs c L rv vi):=⟨fun W1 W2 W3 b11 L rv vi hg ht hv he hm ht3 hb hr=>by
   have hz3:=(HG0.o.trans HG3.o).size;have hz13:=HG3.o.size;have hgw:=(HG0.o.trans HG3.o).trans hg
   have hno:∀ i,i<w.heap.size+3->w.heap.size<=i->¬ (YBz m b1 b2 i\/ZOk S w i):=fun i h1 h2 h=>by
    rcases h with h | h
    ·have:=(hmi i h).1;omega
    ·have:=h.2;omega
   refine ⟨((hgw.touch _).trans (ht.mono (T:=fun i=>YBz m b1 b2 i\/S i) (fun i _ h=>h.imp id (fun h=>h.1)))).trans' (T:=fun i=>i=b11) ht3 (fun i hi h=>by omega) |>.mono (fun i hi h=>h.elim (fun h=>by have:=(hmi i h).1;omega) id),hv.touch ht3 (fun i hi _ h=>by have:=hi.2;omega),he.touch ht3 (by omega) (by omega) (by omega) (by omega) (by omega),hm,hr,?_,?_,?_,hb0,hb1,hb2,hb3,hb4,by omega⟩
   ·exact ((HRB.o.gr (HG3.o.trans hg)).touch ht (hno _ (by omega) (by omega))).touch ht3 (by omega)
   ·exact ((HR6.o.gr (HG3.o.trans hg)).touch ht (hno _ (by omega) (by omega))).touch ht3 (by omega)
   ·exact ((HR7.o.gr (HG3.o.trans hg)).touch ht (hno _ (by omega) (by omega))).touch ht3 (by omega)⟩
  have rb3:=HRB.o.gr HG3.o;have x5:=rb3.cell (j:=5) rfl;have x5l:=rb3.lt;have KS:Hid (∀ W',Gr w3 W'->W'.cell? ⟨w.heap.size,5,none⟩=some (.int .i64 c.st)):=⟨fun W' h=>(h.cell x5l 5).trans x5⟩
  have KT:Hid (∀ W1 W',Gr w3 W1->XF4 (fun i=>YBz m b1 b2 i\/ZOk S w i) W1 W'->W'.cell? ⟨w.heap.size,5,none⟩=some (.int .i64 c.st)):=⟨fun W1 W' h t=>(t.cell (Nat.lt_of_lt_of_le x5l h.size) (fun h=>by
   rcases h with h | h
   ·have:=(HMI.o _ h).1;omega
   ·have:=h.2;omega) 5).trans ((h.cell x5l 5).trans x5)⟩
  obtain ⟨Sx,hSx⟩:∃ Sx:World->Prop,Sx=fun W'=>W'.cell? ⟨w.heap.size,5,none⟩=some (.int .i64 c.st):=⟨_,rfl⟩;have y1:∀ p':ZJV Sx,p'.w.cell? ⟨w.heap.size,5,none⟩=some (.int .i64 c.st):=fun p=>ZJV.get hSx p;have hS0:Sx w3.drew:=by rw [hSx];exact x5
  have HSX:=hid hSx;have inst:Inhabited (ZJV Sx):=⟨⟨_,hS0⟩⟩;clear hSx x5 rb3 z0 z1 z2 z3 z4 z5 z6 zl hmi hb0 hb1 hb2 hb3 hb4 hml hp1l hb1l hp2l hb2l;refine Jav Sx (.two [0,1,2,4,5,6] 3 (.two [] 7 (.one [8,9,10] 11 (.one [] 12 (.fin [13]))) 11 (.one [] 7 (.one [8,9,10] 12 (.fin [13])))) 11 (.one [] 3 (.one [] 7 (.one [8,9,10] 12 (.fin [13]))))) JBz (by kernel_rfl) (by kernel_rfl) hS0 ?_;refine QtW ?_;simp only [XZy,List.getElem?_cons_zero,List.getElem?_cons_succ]
  repeat (go_big_quiet_step (fail))
  refine wpQuiet_nil ⟨?_,?_⟩
  ·gi_wp2_with (refine ⟨trivial,?_⟩;gi_at_call 54;refine (callsIn_wide.2 (HALL.o _ (Gr.refl w3).drew)).mono ?_;rintro e w4 ⟨g1,c1,rfl,hg4,hgl,ho4⟩;have HG4:=hid ((Gr.refl w3).drew.trans hg4);have HO4:=hid ho4;have HL4:=hid hgl;clear hg4 ho4 hgl);refine ⟨ZJV.of (by rw [HSX.o];exact KS.o _ HG4.o),?_⟩;refine QtW ?_;simp only [XZy,List.getElem?_cons_zero,List.getElem?_cons_succ];refine wpQuiet_nil ⟨?_,?_⟩
   ·gi_wp2_with (refine ⟨trivial,?_⟩;gi_at_call 53;refine (callsIn_wide.2 (HRUN.o _ g1 c1 HG4.o HL4.o HO4.o)).mono ?_;rintro e w5 ⟨L,rv,vi,rfl,ht5,hv5,he5,hm5⟩;have HT5:=hid ht5;have HV5:=hid hv5;have HE5:=hid he5;have HM5:=hid hm5;clear ht5 hv5 he5 hm5);refine ⟨ZJV.of (by rw [HSX.o];exact KT.o _ _ HG4.o HT5.o),?_⟩;refine VyF ?_;simp only [XZy,List.getElem?_cons_zero,List.getElem?_cons_succ]
    repeat (go_big_quiet_step (fail))
    refine wpQuiet_nil ?_;have u5:=KT.o _ _ HG4.o HT5.o;have u5l:=ZQf u5;gi_wp2;refine ⟨ZJV.of (by rw [HSX.o];exact (((Gr.refl w5).alloc _).cell u5l 5).trans u5),?_⟩;refine VyF ?_;simp only [XZy,List.getElem?_cons_zero,List.getElem?_cons_succ];refine wpQuiet_nil ?_;gi_wp2;refine ⟨ZJV.of (by rw [HSX.o];exact (((Gr.refl w5).alloc _).cell u5l 5).trans u5),?_⟩;refine YAC ?_;simp only [XZy,List.getElem?_cons_zero,List.getElem?_cons_succ]
    repeat (go_big_quiet_step (fail))
    refine wpQuiet_nil ?_;refine NoPanic.normal ?_;gi_wp2
    gi_meet
    exact ⟨_,L,rv,vi,rfl,rfl,⟨FIN.o _ _ _ _ L rv vi HG4.o HT5.o HV5.o HE5.o HM5.o (((Gr.refl w5).alloc _).touch _) (Nat.le_trans HG4.o.size HT5.o.size) (Rec.new w5 _ [.int .i64 (L.length:Nat),.int .i64 (Qd4 L:Nat),.int .i64 rv,.int .i64 vi])⟩⟩
   ·have x4:=KS.o _ HG4.o;have x4l:=ZQf x4;gi_wp2;refine ⟨ZJV.of (by rw [HSX.o];exact (((Gr.refl w4).alloc _).cell x4l 5).trans x4),?_⟩;refine VyF ?_;simp only [XZy,List.getElem?_cons_zero,List.getElem?_cons_succ];refine wpQuiet_nil ?_;have HRA:=hid (Rec.new w4 105 [.int .i64 0,.int .i64 0,.int .i64 0,.int .i64 0]);have HGA:=hid (HG4.o.alloc (.cells #[.int .i64 0,.int .i64 0,.int .i64 0,.int .i64 0] 105))
    have HNB:Hid (¬ (YBz m b1 b2 w4.heap.size\/ZOk S w w4.heap.size)):=⟨fun h=>by
     have:=HG4.o.size;rcases h with h | h
     ·have:=(HMI.o _ h).2;omega
     ·have:=h.2;have:=(HG0.o.trans HG3.o).size;omega⟩
    have HNW:Hid (¬ w.heap.size=w4.heap.size):=⟨by have:=HG4.o.size;omega⟩;have HOA:=hid (Y9I HO4.o ((Gr.refl w4).alloc (.cells #[.int .i64 0,.int .i64 0,.int .i64 0,.int .i64 0] 105)));have HBA:Hid (w3.heap.size<=w4.heap.size):=⟨HG4.o.size⟩;obtain ⟨bA,hbA⟩:∃ bA,bA=w4.heap.size:=⟨_,rfl⟩;obtain ⟨WA,hWA⟩:∃ WA,WA=w4.alloc (.cells #[.int .i64 0,.int .i64 0,.int .i64 0,.int .i64 0] 105):=⟨_,rfl⟩;rw [show w4.alloc (.cells ([.int .i64 0,.int .i64 0,.int .i64 0,.int .i64 0]:List Value).toArray 105)=WA from hWA.symm] at HRA;rw [<-hWA] at HGA HOA ⊢;rw [<-hbA] at HRA HNB HNW HBA ⊢;clear hbA hWA x4 x4l;gi_wp2_with (refine ⟨trivial,?_⟩;gi_at_call 53;refine (callsIn_wide.2 (HRUN.o _ g1 c1 HGA.o HL4.o HOA.o)).mono ?_;rintro e w5 ⟨L,rv,vi,rfl,ht5,hv5,he5,hm5⟩;have HT5:=hid ht5;have HV5:=hid hv5;have HE5:=hid he5;have HM5:=hid hm5;have HR5:=hid (HRA.o.touch ht5 (HNB.o));have q0:=HR5.o.cell (j:=0) rfl;have q1:=HR5.o.cell (j:=1) rfl;have q2:=HR5.o.cell (j:=2) rfl;have q3:=HR5.o.cell (j:=3) rfl;have qf:=HR5.o.free;have ql:=HR5.o.lt;clear ht5 hv5 he5 hm5);refine ⟨ZJV.of (by rw [HSX.o];exact KT.o _ _ HGA.o HT5.o),?_⟩;refine VyF ?_;simp only [XZy,List.getElem?_cons_zero,List.getElem?_cons_succ]
    repeat (go_big_quiet_step (fail))
    refine wpQuiet_nil ?_;gi_wp2;have R5:=(((HR5.o.set 0 (.int .i64 (L.length:Nat))).set 1 (.int .i64 (Qd4 L:Nat))).set 2 (.int .i64 rv)).set 3 (.int .i64 vi);have t5:=YH8 w5 bA (.int .i64 (L.length:Nat)) (.int .i64 (Qd4 L:Nat)) (.int .i64 rv) (.int .i64 vi);have KF:=(t5.cell (ZQf (KT.o _ _ HGA.o HT5.o)) HNW.o 5).trans (KT.o _ _ HGA.o HT5.o);refine ⟨ZJV.of (by rw [HSX.o];exact KF),?_⟩;refine YAC ?_;simp only [XZy,List.getElem?_cons_zero,List.getElem?_cons_succ]
    repeat (go_big_quiet_step (fail))
    refine wpQuiet_nil ?_;refine NoPanic.normal ?_;gi_wp2
    gi_meet
    exact ⟨_,L,rv,vi,rfl,rfl,⟨FIN.o _ _ _ _ L rv vi HGA.o HT5.o HV5.o HE5.o HM5.o t5 HBA.o R5⟩⟩
  ·gi_wp2;have x3:=KS.o _ (Gr.refl w3);have x3l:=ZQf x3;refine ⟨ZJV.of (by rw [HSX.o];exact KS.o _ ((Gr.refl w3).alloc _).drew),?_⟩;refine VyF ?_;simp only [XZy,List.getElem?_cons_zero,List.getElem?_cons_succ];refine wpQuiet_nil ?_;have HRA:=hid ((Rec.new w3 105 [.int .i64 0,.int .i64 0,.int .i64 0,.int .i64 0]).gr (Gr.refl _).drew);have HGA:=hid ((Gr.refl w3).alloc (.cells #[.int .i64 0,.int .i64 0,.int .i64 0,.int .i64 0] 105)).drew
   have HNB:Hid (¬ (YBz m b1 b2 w3.heap.size\/ZOk S w w3.heap.size)):=⟨fun h=>by
    rcases h with h | h
    ·have:=(HMI.o _ h).2;omega
    ·have:=h.2;have:=(HG0.o.trans HG3.o).size;omega⟩
   have HNW:Hid (¬ w.heap.size=w3.heap.size):=⟨by omega⟩;have HBA:Hid (w3.heap.size<=w3.heap.size):=⟨Nat.le_refl _⟩;obtain ⟨WA,hWA⟩:∃ WA,WA=(w3.alloc (.cells #[.int .i64 0,.int .i64 0,.int .i64 0,.int .i64 0] 105)).drew:=⟨_,rfl⟩;rw [show (w3.alloc (.cells ([.int .i64 0,.int .i64 0,.int .i64 0,.int .i64 0]:List Value).toArray 105)).drew=WA from hWA.symm] at HRA;rw [<-hWA] at HGA ⊢;clear hWA;obtain ⟨bA,hbA⟩:∃ bA,bA=w3.heap.size:=⟨_,rfl⟩;rw [<-hbA] at HRA HNB HNW;rw [show w3.heap.size<=w3.heap.size↔w3.heap.size<=bA by rw [hbA]] at HBA;rw [show w3.heap.size=bA from hbA.symm];clear hbA x3 x3l;gi_wp2_with (refine ⟨trivial,?_⟩;gi_at_call 54;refine (callsIn_wide.2 (HALL.o _ HGA.o)).mono ?_;rintro e w4 ⟨g1,c1,rfl,hg4,hgl,ho4⟩;have HG4:=hid (HGA.o.trans hg4);have HRA4:=hid (HRA.o.gr hg4);have HO4:=hid ho4;have HL4:=hid (Nat.le_trans HGA.o.size hgl);clear hg4 ho4 hgl);refine ⟨ZJV.of (by rw [HSX.o];exact KS.o _ HG4.o),?_⟩;refine VyF ?_;simp only [XZy,List.getElem?_cons_zero,List.getElem?_cons_succ];refine wpQuiet_nil ?_;gi_wp2_with (refine ⟨trivial,?_⟩;gi_at_call 53;refine (callsIn_wide.2 (HRUN.o _ g1 c1 HG4.o HL4.o HO4.o)).mono ?_;rintro e w5 ⟨L,rv,vi,rfl,ht5,hv5,he5,hm5⟩;have HT5:=hid ht5;have HV5:=hid hv5;have HE5:=hid he5;have HM5:=hid hm5;have HR5:=hid (HRA4.o.touch ht5 (HNB.o));have q0:=HR5.o.cell (j:=0) rfl;have q1:=HR5.o.cell (j:=1) rfl;have q2:=HR5.o.cell (j:=2) rfl;have q3:=HR5.o.cell (j:=3) rfl;have qf:=HR5.o.free;have ql:=HR5.o.lt;clear ht5 hv5 he5 hm5);refine ⟨ZJV.of (by rw [HSX.o];exact KT.o _ _ HG4.o HT5.o),?_⟩;refine VyF ?_;simp only [XZy,List.getElem?_cons_zero,List.getElem?_cons_succ]
   repeat (go_big_quiet_step (fail))
   refine wpQuiet_nil ?_;gi_wp2;have R5:=(((HR5.o.set 0 (.int .i64 (L.length:Nat))).set 1 (.int .i64 (Qd4 L:Nat))).set 2 (.int .i64 rv)).set 3 (.int .i64 vi);have t5:=YH8 w5 bA (.int .i64 (L.length:Nat)) (.int .i64 (Qd4 L:Nat)) (.int .i64 rv) (.int .i64 vi);have KF:=(t5.cell (ZQf (KT.o _ _ HG4.o HT5.o)) HNW.o 5).trans (KT.o _ _ HG4.o HT5.o);refine ⟨ZJV.of (by rw [HSX.o];exact KF),?_⟩;refine YAC ?_;simp only [XZy,List.getElem?_cons_zero,List.getElem?_cons_succ]
   repeat (go_big_quiet_step (fail))
   refine wpQuiet_nil ?_;refine NoPanic.normal ?_;gi_wp2
   gi_meet
   exact ⟨_,L,rv,vi,rfl,rfl,⟨FIN.o _ _ _ _ L rv vi HG4.o HT5.o HV5.o HE5.o HM5.o t5 HBA.o R5⟩⟩
 case rest=>
  obtain ⟨b11,L,rv,vi,rfl,rfl,HI⟩:=hcut;clear z0 z1 z2 z3 z4 z5 z6 zl;obtain ⟨hin,htot⟩:=HC.o.inn L HI.o.mks;have HIN:=hid hin;have HTOT:=hid htot;clear hin htot;gi_wp2_with (refine ⟨trivial,?_⟩;gi_at_call 142;refine (callsIn_wide.2 (JMu (some ⟨m,0,none⟩))).mono ?_;rintro e w1 ⟨rfl,rfl⟩);obtain ⟨W1,hW1⟩:∃ W1,W1=wc.alloc (.cells #[.pointer (some ⟨m,0,none⟩)] 100):=⟨_,rfl⟩;have hg1:Gr wc W1:=by rw [hW1];exact (Gr.refl wc).alloc _
  have hs1:W1.heap.size=wc.heap.size+1:=by rw [hW1,World.size_alloc]
  have k4:W1.cell? ⟨wc.heap.size,0,none⟩=some (.pointer (some ⟨m,0,none⟩)):=by
   rw [hW1];exact (Boxed.new wc 100 (.pointer (some ⟨m,0,none⟩))).cell
  rw [<-hW1];have hex:=HI.o.ex;have hml:=hex.hm;have hp1l:=hex.v1.hp;have hb1l:=hex.v1.hb;have hp2l:=hex.v2.hp;have hb2l:=hex.v2.hb;have hwz:=HI.o.t.size;have hTc:VRW wc:=HI.o.t.tab htl HTS.o HT.o;have HTC:=hid hTc;have htl2:=hTc.lt;have hrb:=HI.o.bx;have hrl:=hrb.lt;clear hW1 hTc hex;have tI:∀ (j:Nat) A B,(XF4 (fun i=>W1.heap.size<=i) W1 A/\j<=L.length)->XF4 (fun i=>W1.heap.size<=i/\i<W1.heap.size+2+4) A B->(XF4 (fun i=>W1.heap.size<=i) W1 B/\j<=L.length):=fun j A B h t=>⟨h.1.trans (t.mono (fun i _ h=>h.1)),h.2⟩
  refine JYJ (K:=4) (s0:=0) rfl (by omega) (gf:=210) (lb:=#[.pointer (some ⟨wc.heap.size,0,none⟩)]) rfl trivial (enters_of Tryz.func210 (by kernel_rfl) rfl)
   (Yd3 _ wc.heap.size m p1 b1 p2 b2 v.n L _) (fun _=>rfl)
   (fun (j:Nat) A=>XF4 (fun i=>W1.heap.size<=i) W1 A/\j<=L.length) (fun _ _=>False) tI (fun _ _ _ h _=>h)
   (fun j A h=>⟨(HI.o.ex.gr hg1).touch h.1 (by omega) (by omega) (by omega) (by omega) (by omega),(hg1.tab htl2 HTC.o).touch' h.1 (by omega),(h.1.cell (by omega) (by omega) 0).trans k4,h.2⟩)
   ⟨XF4.refl _ _,Nat.zero_le _⟩ ?round ?done ?stop
  case round=>
   intro lp j x W3 hsz3 hI3 hgv;dsimp only [VYF];gi_wp2;refine ⟨Gr.refl _,fun W4 ht4 hI4=>?_⟩
   have hjl:j<L.length:=by
    rcases Nat.lt_or_ge j L.length with h | h
    ·exact h
    ·unfold YdH at hgv;rw [List.getElem?_eq_none h] at hgv;cases hgv
   obtain rfl:x=L[j]:=by unfold YdH at hgv;rw [List.getElem?_eq_getElem hjl] at hgv;exact (Option.some.inj hgv).symm
   obtain ⟨i1,i2⟩:=HIN.o _ (List.getElem_mem hjl);have hrb4:=(hrb.gr hg1).touch hI4.1 (by omega);have c0:=hrb4.cell (j:=0) rfl;have c1:=hrb4.cell (j:=1) rfl;have cl:=hrb4.lt;have hsb:=(HI.o.ex.good.sz _ (List.getElem_mem hjl)).2;obtain ⟨sa,hsa⟩:∃ s,s=L[j].1:=⟨_,rfl⟩;obtain ⟨sz,hsz⟩:∃ s,s=L[j].2:=⟨_,rfl⟩;rw [<-hsa] at i1 i2 hsb ⊢;rw [<-hsz] at i2 hsb ⊢;have e0:decide ((sa:Int)<(c.fr:Int))=false:=decide_eq_false (by omega);have e1:decide ((c.tp:Int)<(sa:Int)+(sz:Int))=false:=decide_eq_false (by omega);have e2:decide (sa<c.fr)=false:=decide_eq_false (by omega);have HI4:=hid hI4;clear hI3 hI4 hgv ht4 hsa hsz;gi_wp2;exact ⟨XF4.refl _ _,j+1,rfl,HI4.o.1,hjl⟩
  case done=>
   rintro D j W3 hD rfl hI3 hK;have hs5l:=HI.o.l5;have hb11l:=HI.o.st.lt;have rs3:=(HI.o.st.gr hg1).touch hI3.1 (by omega);have rb3:=(hrb.gr hg1).touch hI3.1 (by omega);have ra3:=(HI.o.r6.gr hg1).touch hI3.1 (by have:=HI.o.r6.lt;omega);have rz3:=(HI.o.r7.gr hg1).touch hI3.1 (by have:=HI.o.r7.lt;omega);have a1:=rs3.cell (j:=1) rfl;have al:=rs3.lt;have c3:=rb3.cell (j:=3) rfl;have c2:=rb3.cell (j:=2) rfl;have cl:=rb3.lt;have q0:=ra3.cell (j:=0) rfl;have q1:=ra3.free 0;have ql:=ra3.lt;have p0:=rz3.cell (j:=0) rfl;have p1':=rz3.free 0;have pl:=rz3.lt;have htt:=HTOT.o;have hlm:=HC.o.cf.ln;have hvm:=HI.o.vm;obtain ⟨sz,hsz⟩:∃ s,s=Qd4 L:=⟨_,rfl⟩;have HSZ:=hid hsz;rw [<-hsz] at a1 htt;have e0:decide ((c.lm:Int)-(c.to:Int)<(sz:Int))=false:=decide_eq_false (by omega);have HK:=hid hK;have HD:=hid hD;have HI3:=hid hI3;have HRA:=hid ra3;have HRZ:=hid rz3;have hs3:=hI3.1.size;clear hK hD hI3 hsz rs3 rb3 ra3 rz3;gi_wp2
   have tg:XF4 (fun i=>i=w.heap.size+1\/i=w.heap.size+2) W3 ((W3.setCell ⟨w.heap.size+1,0,none⟩ (.int .i64 (sz:Int))).setCell ⟨w.heap.size+1+1,0,none⟩ (.int .i64 0)):=
    ((XF4.refl _ W3).setCell (a:=⟨w.heap.size+1,0,none⟩) (fun _=>.inl rfl) _).setCell (a:=⟨w.heap.size+1+1,0,none⟩) (fun _=>.inr rfl) _
   have b6:Rec ((W3.setCell ⟨w.heap.size+1,0,none⟩ (.int .i64 (sz:Int))).setCell ⟨w.heap.size+1+1,0,none⟩ (.int .i64 0)) (w.heap.size+1) 3 [.int .i64 (sz:Int)]:=
    (HRA.o.set 0 (.int .i64 (sz:Int))).touch ((XF4.refl (fun i=>i=w.heap.size+1+1) _).setCell (a:=⟨w.heap.size+1+1,0,none⟩) (fun _=>rfl) _) (by omega)
   have b7:Rec ((W3.setCell ⟨w.heap.size+1,0,none⟩ (.int .i64 (sz:Int))).setCell ⟨w.heap.size+1+1,0,none⟩ (.int .i64 0)) (w.heap.size+2) 29 [.int .i64 0]:=
    (HRZ.o.touch ((XF4.refl (fun i=>i=w.heap.size+1) W3).setCell (a:=⟨w.heap.size+1,0,none⟩) (fun _=>rfl) (.int .i64 (sz:Int))) (by omega)).set 0 (.int .i64 0)
   have hD:=HD.o;have hK':=(tg.block D (Array.getElem?_eq_some_iff.1 HK.o).1 (by omega)).trans HK.o;generalize ((W3.setCell ⟨w.heap.size+1,0,none⟩ (.int .i64 (sz:Int))).setCell ⟨w.heap.size+1+1,0,none⟩ (.int .i64 0))=W5 at *
   have k6:=b6.cell (j:=0) rfl;have k7:=b7.cell (j:=0) rfl;rw [show w.heap.size+2=w.heap.size+1+1 from rfl] at k7;refine ⟨by simp,.inl ⟨_,_,rfl,run_takeDeferred hK',?_⟩⟩;have h1':=cell_kept k6 (grownBy_putObj' _ D (.deferred none)) (fun r e=>by cases e;exact ⟨_,hK',rfl⟩);have h2':=cell_kept k7 (grownBy_putObj' _ D (.deferred none)) (fun r e=>by cases e;exact ⟨_,hK',rfl⟩);have tD:XF4 (fun i=>W1.heap.size<=i) W5 (W5.putObj D (.deferred none)):=Xau _ D _ (by omega);refine ⟨.tuple #[.int .i64 (sz:Int),.int .i64 0],?_,?_⟩
   ·simp [results,Tryz.f132,go_sem,h1',h2']
   ·refine ⟨L,HI.o.mks,by rw [HSZ.o],?_,?_⟩
    ·exact (((HI.o.t.trans (hg1.touch _)).trans' HI3.o.1 (fun i hi h=>by omega)).trans' tg (fun i hi h=>by omega)).trans' tD (fun i hi h=>by omega)
    ·exact (((hvm.gr hg1).touch HI3.o.1 (fun i hi _ h=>by have:=hi.2;omega)).touch tg (fun i hi _ h=>by have:=hi.2;omega)).touch tD (fun i hi _ h=>by have:=hi.2;omega)
  case stop=>
   rintro D c W3 hD h hK;exact h.elim
end
end
end
section
section
open Go.RowKit Word
theorem V75 {v v1:Vm} (h:ZAR v) {f t:Nat} (ht:t<=v.n) (hE:Jsl v f t=0) (hG:Ji4 v v1 (J5L v f t)) {a:Nat} (h1:f<=a) (h2:a<t):v1.ldE a=0:=by
 have hp:=h.page;have hF:J5L v f t=Jfy v ((f:Int)/v.pl.pg).toNat (XZs v f t):=by unfold J5L;rw [if_pos ⟨hE,by omega⟩]
 rw [hG.ldE h (by omega),hF];by_cases h0:v.pt.getD (a/v.pl.pg) 0=0
 ·rw [if_pos];rw [YYE];refine ⟨?_,h0⟩;have e1:((f:Int)/(v.pl.pg:Int)).toNat=f/v.pl.pg:=by rw [<-Int.natCast_ediv];exact Int.toNat_natCast _
  have e2:XZs v f t=(t-1)/v.pl.pg+1-f/v.pl.pg:=by
   unfold XZs;rw [show (t:Int)-1=((t-1:Nat):Int) by omega,<-Int.natCast_ediv,<-Int.natCast_ediv];have:f/v.pl.pg<=(t-1)/v.pl.pg:=Nat.div_le_div_right (by omega);omega
  have g1:f/v.pl.pg<=a/v.pl.pg:=Nat.div_le_div_right h1;have g2:a/v.pl.pg<=(t-1)/v.pl.pg:=Nat.div_le_div_right (by omega);rw [e1,e2];omega
 ·split
  ·rfl
  ·rw [h.ldE_of (by omega),if_neg h0]
theorem VGS {v:Vm} {f:Nat} (hf:f<=v.n):Jsl v f f=0/\J5L v f f=[]:=by
 have hE:Jsl v f f=0:=by unfold Jsl;rw [if_neg (by omega),if_pos (Int.le_refl _)]
 refine ⟨hE,?_⟩;unfold J5L;rw [if_neg (fun h=>by have:=h.2;omega)]
theorem Z25 {v v1:Vm} (h:ZAR v) {rs:List Int} {c:Cf} (hc:JQF v rs c) {L:List Ob} (hM:Zx6 v rs v.n L) (hE:Jsl v c.to ((c.to+Qd4 L:Nat):Int)=0) (hG:Ji4 v v1 (J5L v c.to ((c.to+Qd4 L:Nat):Int)))
  (hm:∀ a:Nat,c.fr<=a->a<c.tp->v.ldE a=0):ZrG v1 rs L c.to/\XKC v1 L:=by
 obtain ⟨hin,htot⟩:=hc.inn L hM;have hw:=hG.wider h;have hp:=h.page;have hcf:=hc.cf;have hln:=hcf.ln;have hto:=hcf.to;refine ⟨⟨hG.ok,?_,by omega,fun o ho=>?_,fun a h1 h2=>V75 h (by omega) hE hG h1 h2,by rw [hG.n];omega⟩,fun o ho m hmo=>?_⟩
 ·rw [hG.n];exact hw.marks hM
 ·have hi:=hin o ho;have hs:1<=o.2:=(hM.mkd.good.sz o ho).1
  have hsz:1<=Qd4 L:=by
   have:∀ l:List Ob,o∈l->o.2<=Qd4 l:=fun l=>by
    induction l with
    | nil=>intro h;cases h
    | cons b r ih=>
     intro h;simp only [Qd4];rcases List.mem_cons.1 h with rfl | h
     ·omega
     ·have:=ih h;omega
   have:=this L ho;omega
  have hup:c.tp<=upN c.tp v.pl.pg:=by
   unfold upN;have h1:=Nat.div_add_mod (c.tp+v.pl.pg-1) v.pl.pg;have h2:=Nat.mod_lt (c.tp+v.pl.pg-1) (show 0<v.pl.pg by omega);rw [Nat.mul_comm] at h1;omega
  have hap:=hcf.ap;by_cases h1:c.fr<c.lm
  ·left;have:¬ c.to<upN c.tp v.pl.pg:=fun h2=>hap ⟨by omega,by omega,h1,h2⟩;omega
  ·right;omega
 ·have hi:=hin o ho;have:=hm (o.1+m) (by omega) (by omega);exact (hw.le _ (by rw [show (o.1:Int)+m=((o.1+m:Nat):Int) by omega];exact this)).1
structure Qgx (v:Vm) (rs:List Int) (c:Cf) (L:List Ob) (v1 v2:Vm) (k kq:Nat):Prop where
 gr:Ji4 v v1 (J5L v c.to ((c.to+Qd4 L:Nat):Int))
 cx:ZrG v1 rs L c.to
 fo:XKC v1 L
 ke:k=(QnE v1 rs k).length
 st:CpS v1 rs L c.to (QnE v1 rs k) k 0 v2
 q1:∀ j,j<kq->(c.fr/v.pl.pg+j)*v.pl.pg<c.tp
 q2:c.tp<=(c.fr/v.pl.pg+kq)*v.pl.pg
theorem VQN (v:Vm) (rs:List Int) (k:Nat) {j:Nat} (h:j<=(QnE v rs k).length):(QnE v rs (k+1)).take j=(QnE v rs k).take j:=by
 obtain ⟨X,hX⟩:=VRh v rs k;rw [hX,List.take_append_of_le_length h]
theorem YnT {v:Vm} {rs:List Int} {k:Nat} (h:k<(QnE v rs k).length):QnE v rs (k+1)=X4e (QnE v rs k) (X7I v ((QnE v rs k).getD k 0)):=by
 show (if _ then _ else _)=_
 rw [if_pos h]
theorem XeB {v:Vm} {rs:List Int} {L:List Ob} {to:Nat} (c:ZrG v rs L to) {O X:List Int} (hR:∀ a∈O++X,Rch v rs a) {l:List Int} (hl:∀ a∈l,a=0\/a∈O):l.map (fun a=>YQE v (O++X) to a)=l.map (fun a=>YQE v O to a):=by
 apply List.map_congr_left;intro a ha;exact Vqd v X to (fun h=>by have:=(QXB (c.mks.sound.rd _ (hR 0 h))).1;omega) (hl a ha)
end
end
end Go.Proofs.YtmjoodkiiekjcaaGreatDoor
