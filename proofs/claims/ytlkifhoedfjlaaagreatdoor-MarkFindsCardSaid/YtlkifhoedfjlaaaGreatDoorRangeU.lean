/- Ranges over functions whose iterator turns a window of blocks of its own alone. -/
import Derived.Test.YtlkifhoedfjlaaaGreatDoorK2
namespace Go.Proofs.YtlkifhoedfjlaaaGreatDoor
open Go.RowKit

section
variable {F : Fence} {n : Nat} {P : Program}
/-- The iterator's contract, as SeqT; its own steps turn K blocks alone, those that it makes first. -/
def SeqU (K : Nat) {σ α : Type} (F : Fence) (n : Nat) (P : Program) (g : Nat) (lb : Array Value) (encs : α → Array Value) (Inv : σ → World → Prop) (gives : σ → α → Prop) (next : σ → α → σ → Prop) (fin : σ → Prop) (s0 : σ) (w : World) : Prop :=
  ∀ (l : Nat) (J : σ → World → Prop) (Jx : World → Prop) (W : World), Gr w W → (∀ s A B, J s A → Touch (fun k => W.heap.size ≤ k ∧ k < W.heap.size + K) A B → J s B) → (∀ A B, Jx A → Touch (fun k => W.heap.size ≤ k ∧ k < W.heap.size + K) A B → Jx B) → (∀ s A, J s A → Inv s A) →
    (∀ s x W1, J s W1 → W.heap.size + K ≤ W1.heap.size → gives s x → YieldAt F (n - 1) P l (encs x) W1 fun e W' => ((e = .returned (.bool true) ∧ ∃ s', next s x s' ∧ J s' W') ∨ (e = .returned (.bool false) ∧ Jx W')) ∧ Touch (fun k => k < W.heap.size ∨ W.heap.size + K ≤ k) W1 W') →
    J s0 W → CallsIn F n P g (#[.func (.yield l) #[] #[]] ++ lb) W fun e W' => (∃ v, e = .returned v) ∧ ((∃ s, fin s ∧ J s W') ∨ Jx W')
/-- What a round must come to. -/
def roundEndU {σ α : Type} (B K : Nat) (I : σ → World → Prop) (Ix : Code → World → Prop) (next : σ → α → σ → Prop) (s : σ) (x : α) (W : World) : Exit → Act → World → Prop
  | .normal, _, W' => Touch (fun k => k < B ∨ B + K ≤ k) W W' ∧ ∃ s', next s x s' ∧ I s' W'
  | .ret, _, W' => Touch (fun k => k < B ∨ B + K ≤ k) W W' ∧ Ix .ret W'
  | .exit id, _, W' => Touch (fun k => k < B ∨ B + K ≤ k) W W' ∧ Ix (.exit id) W'
  | .goto t, _, W' => Touch (fun k => k < B ∨ B + K ≤ k) W W' ∧ Ix (.goto t) W'
  | _, _, _ => False
theorem SeqS.toU {σ α : Type} {g : Nat} {lb : Array Value} {encs : α → Array Value} {Inv : σ → World → Prop} {gives : σ → α → Prop} {next : σ → α → σ → Prop} {fin : σ → Prop} {s0 : σ} {w : World} (h : SeqS F n P g lb encs Inv gives next fin s0 w) : SeqU 0 F n P g lb encs Inv gives next fin s0 w := by
  intro l J Jx W hg hJ hJx hI hY h0
  refine h l (fun s A => J s A ∧ W.heap.size ≤ A.heap.size) Jx W hg (fun s A B hs hAB => ⟨hJ s A B hs.1 (hAB.touch _), Nat.le_trans hs.2 hAB.size⟩) (fun A B hs hAB => hJx A B hs (hAB.touch _)) (fun s A hs => hI s A hs.1) ?_ ⟨h0, Nat.le_refl _⟩ |>.mono ?_
  · rintro s x W1 ⟨hs, hsz⟩ hx
    refine (hY s x W1 hs hsz hx).mono ?_
    rintro e W' ⟨⟨he, s', hn, hJ'⟩ | ⟨he, hx'⟩, ht⟩
    · exact .inl ⟨he, s', hn, hJ', Nat.le_trans hsz ht.size⟩
    · exact .inr ⟨he, hx'⟩
  · rintro e W' ⟨hv, ⟨s, hs, hJ', _⟩ | hx⟩
    · exact ⟨hv, .inl ⟨s, hs, hJ'⟩⟩
    · exact ⟨hv, .inr hx⟩
theorem range_lawU {σ α : Type} {g : Operand} {ps : Array Tmp} {assign body : Code} {Q : Exit → Act → World → Prop} {a : Act} {w : World}
    (hro : F.round = none) (h1 : 1 ≤ n) {gf : Nat} {lb : Array Value} (hg : a.eval g = .func (.func gf) #[] lb) (hFg : F.fn gf) (eg : ∀ args w, (callFunc gf args).run P w = .ok (.enter gf args) w)
    {encs : α → Array Value} {Inv : σ → World → Prop} {gives : σ → α → Prop} {next : σ → α → σ → Prop} {fin : σ → Prop} {s0 : σ} {K : Nat} (hseq : SeqU K F (n - 1) P gf lb encs Inv gives next fin s0 w)
    (hps : ∀ x, (encs x).size = ps.size)
    (I : σ → World → Prop) (Ix : Code → World → Prop) (hI : ∀ s A B, I s A → Touch (fun k => w.heap.size ≤ k ∧ k < w.heap.size + 2 + K) A B → I s B) (hIx : ∀ c A B, Ix c A → Touch (fun k => w.heap.size ≤ k ∧ k < w.heap.size + 2 + K) A B → Ix c B)
    (hInv : ∀ s A, I s A → Inv s A) (h0 : I s0 w)
    (hround : ∀ (l : Nat) (s : σ) (x : α) (W : World), w.heap.size + 2 + K ≤ W.heap.size → I s W → gives s x →
      assign.wpIn (F.inRound l) (n - 1 - 1) P (Exit.then (fun a' Wa => Gr W Wa ∧ ∀ W2, Touch (fun k => k = w.heap.size + 1) Wa W2 → I s W2 → body.wpIn (F.inRound l) (n - 1 - 1) P (roundEndU w.heap.size (2 + K) I Ix next s x W2) a' W2) (fun _ _ _ => False))
        { tmps := (ps.zip (encs x)).foldl (fun t (p, v) => t.setIfInBounds p v) a.tmps, defers := [] } W)
    (hdone : ∀ (D : Nat) (s : σ) (W : World), D = w.heap.size → fin s → I s W → W.heap[D]? = some (.deferred (some [])) → Q .normal { a with defers := { target := .collected D, args := #[] } :: a.defers } W)
    (hstop : ∀ (D : Nat) (c : Code) (W : World), D = w.heap.size → Ix c W → W.heap[D]? = some (.deferred (some [])) → c.wpIn F n P Q { a with defers := { target := .collected D, args := #[] } :: a.defers } W) :
    (Code.rangeFunc g ps assign body).wpIn F n P Q a w := by
  refine wpIn_rangeFunc ?_
  intro fn hfn
  rw [hro]
  obtain ⟨rec, hrec⟩ : ∃ rec : LoopState → Option Code → Loop, rec = fun st pe => { state := st, pending := pe, fn, tmps := a.tmps, params := ps, assign, body, defers := w.heap.size } := ⟨_, rfl⟩
  obtain ⟨W1, hW1⟩ : ∃ W1, (w.alloc (.deferred (some []))).alloc (.loop (rec .ready none)) = W1 := ⟨_, rfl⟩
  have hL1 : W1.heap[w.heap.size + 1]? = some (.loop (rec .ready none)) := by
    rw [← hW1]; have := World.alloc_heap_new (w.alloc (.deferred (some []))) (.loop (rec .ready none)); rwa [World.size_alloc] at this
  have hK1 : W1.heap[w.heap.size]? = some (.deferred (some [])) := by
    rw [← hW1]; exact (Below.heap_alloc _ _ _ (by simp)).trans (World.alloc_heap_new w _)
  have hg1 : Gr w W1 := by rw [← hW1]; exact ((Gr.refl w).alloc _).alloc _
  have tt : ∀ {A B : World}, Gr A B → Touch (fun k => w.heap.size ≤ k ∧ k < w.heap.size + 2 + K) A B := fun h => h.touch _
  have lt_of : ∀ {A : World} {k : Nat} {o : Obj}, A.heap[k]? = some o → k < A.heap.size := fun h => (Array.getElem?_eq_some_iff.1 h).1
  refine ⟨w.heap.size + 1, [{ target := .collected w.heap.size, args := #[] }], W1, { target := .fn (.func gf) lb, args := #[.func (.yield (w.heap.size + 1)) #[] #[]] }, W1, gf,
    #[.func (.yield (w.heap.size + 1)) #[] #[]] ++ lb, W1, ?_, ?_, ?_, ?_, fun _ => h1, ?_⟩
  · rw [← hW1, hrec]; exact run_enterLoop_outer _ _ _ _ _
  · simp only [resolve, hg]
    simp [go_sem]
  · intro f' hf'; simp [Target.leads] at hf'; subst hf'; exact hFg
  · simp [invoke, go_sem, eg]
  · have hs1 : W1.heap.size = w.heap.size + 2 := by rw [← hW1]; simp
    refine (hseq (w.heap.size + 1)
      (fun s W => I s W ∧ W.heap[w.heap.size + 1]? = some (.loop (rec .ready none)) ∧ W.heap[w.heap.size]? = some (.deferred (some [])))
      (fun W => ∃ c, Ix c W ∧ W.heap[w.heap.size + 1]? = some (.loop (rec .done (some c))) ∧ W.heap[w.heap.size]? = some (.deferred (some [])))
      W1 hg1
      (fun s A B hs ht => ⟨hI s A B hs.1 (ht.mono (fun k _ h => by omega)), (ht.block _ (lt_of hs.2.1) (by omega)).trans hs.2.1, (ht.block _ (lt_of hs.2.2) (by omega)).trans hs.2.2⟩)
      (fun A B hs ht => by
        obtain ⟨c, hc, hl, hk⟩ := hs
        exact ⟨c, hIx c A B hc (ht.mono (fun k _ h => by omega)), (ht.block _ (lt_of hl) (by omega)).trans hl, (ht.block _ (lt_of hk) (by omega)).trans hk⟩)
      (fun s A hs => hInv s A hs.1) ?_ ⟨hI _ _ _ h0 (tt hg1), hL1, hK1⟩).mono ?_
    · rintro s x W ⟨hi, hl, hk⟩ hszW hgv
      have hlt : w.heap.size + 1 < W.heap.size := lt_of hl
      have hy := run_yield (P := P) (args := encs x) hl (by rw [hrec]; exact hps x)
      rw [hrec] at hy
      refine ⟨fn, _, assign, body, hy, roundIn_of_wpIn hfn (wpIn_mono (hround _ s x W (by omega) hi hgv) ?_)⟩
      rintro e a' Wa hp
      cases e with
      | normal => ?_
      | _ => exact False.elim hp
      obtain ⟨hga, hbody⟩ := hp
      replace hl := (hga.block hlt).trans hl
      replace hk := (hga.block (by omega)).trans hk
      replace hlt := lt_of hl
      replace hi := hI _ _ _ hi (tt hga)
      clear hy
      revert hbody hga
      generalize W = W0
      intro hga hbody
      obtain ⟨W, rfl⟩ : ∃ W, W = Wa := ⟨_, rfl⟩
      refine ⟨_, run_beginRound hl (by rw [hrec]), ?_⟩
      have hl2 : (W.putObj (w.heap.size + 1) (.loop { rec .ready none with state := .busy })).heap[w.heap.size + 1]? = some (.loop { rec .ready none with state := .busy }) := World.putObj_heap_same hlt
      have hk2 : (W.putObj (w.heap.size + 1) (.loop { rec .ready none with state := .busy })).heap[w.heap.size]? = some (.deferred (some [])) := (World.putObj_heap_other (by omega)).trans hk
      refine wpIn_mono (hbody _ ⟨rfl, rfl, rfl, by simp, fun k _ hn => World.putObj_heap_other hn⟩ (hI _ _ _ hi ((touch_put1 W (w.heap.size + 1) _).mono (fun k _ h => by omega)))) ?_
      have fin : ∀ (jump : Option Code) (W3 : World), Touch (fun k => k < w.heap.size ∨ w.heap.size + (2 + K) ≤ k) (W.putObj (w.heap.size + 1) (.loop { rec .ready none with state := .busy })) W3 →
          (Instr.endRound (w.heap.size + 1) jump).run P W3 = .ok (.bool jump.isNone) (W3.putObj (w.heap.size + 1) (.loop (rec (if jump.isNone then .ready else .done) jump))) ∧
          (W3.putObj (w.heap.size + 1) (.loop (rec (if jump.isNone then .ready else .done) jump))).heap[w.heap.size + 1]? = some (.loop (rec (if jump.isNone then .ready else .done) jump)) ∧
          (W3.putObj (w.heap.size + 1) (.loop (rec (if jump.isNone then .ready else .done) jump))).heap[w.heap.size]? = some (.deferred (some [])) := fun jump W3 hk3 => by
        have hl3 := (hk3.block _ (lt_of hl2) (by omega)).trans hl2
        have := run_endRound (P := P) jump hl3
        rw [hrec] at this ⊢
        exact ⟨this, World.putObj_heap_same (lt_of hl3), (World.putObj_heap_other (by omega)).trans ((hk3.block _ (lt_of hk2) (by omega)).trans hk2)⟩
      have tch : ∀ (o : Obj) (W3 : World), Touch (fun k => k < w.heap.size ∨ w.heap.size + (2 + K) ≤ k) (W.putObj (w.heap.size + 1) (.loop { rec .ready none with state := .busy })) W3 → Touch (fun k => k < W1.heap.size ∨ W1.heap.size + K ≤ k) W0 (W3.putObj (w.heap.size + 1) o) := fun o W3 h3 =>
        (((hga.touch _).trans ((touch_put1 W (w.heap.size + 1) _).mono (fun k _ h => by omega))).trans (h3.mono (fun k _ h => by omega))).trans ((touch_put1 W3 (w.heap.size + 1) o).mono (fun k _ h => by omega))
      rintro e a3 W3 hp
      cases e with
      | normal =>
        obtain ⟨hk3, s', hn3, hi3⟩ := hp
        obtain ⟨hr, hl4, hk4⟩ := fin none W3 hk3
        exact ⟨_, _, hr, .inl ⟨rfl, s', hn3, hI _ _ _ hi3 ((touch_put1 W3 (w.heap.size + 1) _).mono (fun k _ h => by omega)), hl4, hk4⟩, tch _ _ hk3⟩
      | ret =>
        obtain ⟨hk3, hi3⟩ := hp
        obtain ⟨hr, hl4, hk4⟩ := fin (some .ret) W3 hk3
        exact ⟨_, _, hr, .inr ⟨rfl, .ret, hIx _ _ _ hi3 ((touch_put1 W3 (w.heap.size + 1) _).mono (fun k _ h => by omega)), hl4, hk4⟩, tch _ _ hk3⟩
      | exit id =>
        obtain ⟨hk3, hi3⟩ := hp
        obtain ⟨hr, hl4, hk4⟩ := fin (some (.exit id)) W3 hk3
        exact ⟨_, _, hr, .inr ⟨rfl, .exit id, hIx _ _ _ hi3 ((touch_put1 W3 (w.heap.size + 1) _).mono (fun k _ h => by omega)), hl4, hk4⟩, tch _ _ hk3⟩
      | goto t =>
        obtain ⟨hk3, hi3⟩ := hp
        obtain ⟨hr, hl4, hk4⟩ := fin (some (.goto t)) W3 hk3
        exact ⟨_, _, hr, .inr ⟨rfl, .goto t, hIx _ _ _ hi3 ((touch_put1 W3 (w.heap.size + 1) _).mono (fun k _ h => by omega)), hl4, hk4⟩, tch _ _ hk3⟩
      | panic ch => exact hp.elim
      | outgrown => exact hp.elim
    · rintro e W2 ⟨⟨v, rfl⟩, (⟨s, hS, hi, hl, hk⟩ | ⟨c, hi, hl, hk⟩)⟩
      · exact ⟨none, _, by have := run_endLoop (P := P) hl (by rw [hrec]; simp); rw [hrec] at this; exact this, hdone _ s _ rfl hS (hI _ _ _ hi ((touch_put1 W2 (w.heap.size + 1) _).mono (fun k _ h => by omega))) ((World.putObj_heap_other (by omega)).trans hk)⟩
      · exact ⟨some c, _, by have := run_endLoop (P := P) hl (by rw [hrec]; simp); rw [hrec] at this; exact this, hstop _ c _ rfl (hIx _ _ _ hi ((touch_put1 W2 (w.heap.size + 1) _).mono (fun k _ h => by omega))) ((World.putObj_heap_other (by omega)).trans hk)⟩
end
end Go.Proofs.YtlkifhoedfjlaaaGreatDoor
