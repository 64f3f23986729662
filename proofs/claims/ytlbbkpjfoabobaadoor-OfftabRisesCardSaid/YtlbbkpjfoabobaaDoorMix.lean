/- A region that draws its order, whose reads can be taken first and whose other operations come up one at a time: one walk. -/
import Derived.Test.YtlbbkpjfoabobaaDoorQuiet
import Derived.Deep.RegionHeld3
namespace Go.Proofs.YtlbbkpjfoabobaaDoor
open Go.RowKit

section
variable {P : Program} {ops : Array Oper} {Q : Exit → Act → World → Prop} {md : Region.Mode} {S : World → Prop}

/-- Whatever order is picked: behind each operation but z the world is one of S. -/
def wpAnyZ (P : Program) (md : Region.Mode) (ops : Array Oper) (Q : Exit → Act → World → Prop) (S : World → Prop) (z : Nat) : Nat → Array Bool → Act → World → Prop
  | 0, listed, a, w => Region.ready md ops listed = [] ∧ Q .normal a w
  | f + 1, listed, a, w =>
    (Region.ready md ops listed = [] → Q .normal a w) ∧
    ∀ i ∈ Region.ready md ops listed, wpOp P ops Q i (fun a' w' => (i = z ∨ S w') ∧ wpAnyZ P md ops Q S z f (listed.setIfInBounds i true) a' w') a w
theorem wpAny_of_Z {z : Nat} : ∀ (f : Nat) (listed : Array Bool) (a : Act) (w : World), wpAnyZ P md ops Q S z f listed a w → wpAny P md ops Q f listed a w
  | 0, _, _, _, h => h
  | f + 1, _, _, _, h => ⟨h.1, fun i hi => wpOp_mono (fun a' w' h' => wpAny_of_Z f _ a' w' h'.2) (h.2 i hi)⟩

/-- What has come up is closed under what it waits for. -/
def Closed (md : Region.Mode) (ops : Array Oper) (listed : Array Bool) : Prop :=
  ∀ j oj, ops[j]? = some oj → listed.getD j false = true → ∀ e ∈ oj.after, Region.binds md e = true → listed.getD e.on false = true
theorem Closed.none (md : Region.Mode) (ops : Array Oper) : Closed md ops (Array.replicate ops.size false) := fun j oj _ hl => by
  simp only [Array.getD_eq_getD_getElem?, Array.getElem?_replicate] at hl
  split at hl <;> simp at hl
theorem Closed.set {listed : Array Bool} {i : Nat} (h : Closed md ops listed) (hi : i ∈ Region.ready md ops listed) : Closed md ops (listed.setIfInBounds i true) := by
  obtain ⟨_, oi, hoi, hall⟩ := mem_ready.1 hi
  intro j oj hj hl e he hb
  by_cases hij : i = j
  · subst hij
    obtain rfl : oj = oi := Option.some.inj (hj.symm.trans hoi)
    exact getD_set_true (hall e he hb)
  · rw [getD_set_ne false hij] at hl
    exact getD_set_true (h j oj hj hl e he hb)
/-- j waits for i, perhaps through others. -/
def anc (md : Region.Mode) (ops : Array Oper) : Nat → Nat → Nat → Bool
  | 0, _, _ => false
  | f + 1, j, i => match ops[j]? with
    | none => false
    | some o => o.after.any fun e => Region.binds md e && (e.on == i || anc md ops f e.on i)
theorem anc_listed {listed : Array Bool} (h : Closed md ops listed) : ∀ (f j i : Nat) (o : Oper), ops[j]? = some o → (∀ e ∈ o.after, Region.binds md e = true → listed.getD e.on false = true) → anc md ops f j i = true → listed.getD i false = true
  | 0, _, _, _, _, _, ha => by cases ha
  | f + 1, j, i, o, ho, hall, ha => by
    simp only [anc, ho] at ha
    obtain ⟨e, he, hb⟩ := Array.any_eq_true'.1 ha
    simp only [Bool.and_eq_true, Bool.or_eq_true, beq_iff_eq] at hb
    have hl := hall e he hb.1
    rcases hb.2 with h1 | h1
    · rw [← h1]; exact hl
    · cases hoe : ops[e.on]? with
      | none => cases f <;> simp [anc, hoe] at h1
      | some oe => exact anc_listed h f e.on i oe hoe (h e.on oe hoe hl) h1
def sinkZ (md : Region.Mode) (ops : Array Oper) (z : Nat) : Bool := decide (ops.size ≤ z) || (List.range ops.size).all fun i => i == z || anc md ops ops.size z i
theorem sinkZ_spec {listed : Array Bool} {z i : Nat} (hz : sinkZ md ops z = true) (h : Closed md ops listed) (hr : z ∈ Region.ready md ops listed) (hi : i < ops.size) (hne : i ≠ z) : listed.getD i false = true := by
  obtain ⟨_, oz, hoz, hall⟩ := mem_ready.1 hr
  simp only [sinkZ, Bool.or_eq_true, decide_eq_true_eq, List.all_eq_true, List.mem_range, beq_iff_eq] at hz
  rcases hz with hz | hz
  · rw [Array.getElem?_eq_none hz] at hoz; cases hoz
  · exact anc_listed h _ z i oz hoz hall ((hz i hi).resolve_left hne)
theorem not_both {listed : Array Bool} {i : Nat} (h1 : listed.getD i true = false) (h2 : listed.getD i false = true) : False := by
  rcases Nat.lt_or_ge i listed.size with h | h
  · simp [h] at h1 h2; rw [h1] at h2; cases h2
  · simp [Array.getElem?_eq_none h] at h1

theorem wpAnyZ_first {z i : Nat} {oi : Oper} {v : Value} (hi : ops[i]? = some oi) (hsel : ∀ (j : Nat) (o : Oper) cs b, ops[j]? = some o → o.op ≠ .select cs b)
    (hQ : ∀ c a w, Q (.panic c) (a.put oi.dst v) w → Q (.panic c) a w) (hz : sinkZ md ops z = true) :
    ∀ (f : Nat) (listed : Array Bool) (a : Act) (w : World), Closed md ops listed →
      (∀ j oj, ops[j]? = some oj → j ≠ i → listed.getD j true = false → (∀ e ∈ oj.after, Region.binds md e = true → e.on ≠ i) → oi.apart ops oj = true) →
      i ∈ Region.ready md ops listed → YieldsIf P ops S oi v a → S w →
      wpAnyZ P md ops Q S z f (listed.setIfInBounds i true) (a.put oi.dst v) w → wpAnyZ P md ops Q S z (f + 1) listed a w := by
  intro f
  induction f with
  | zero =>
    intro listed a w _ _ hr hy hS H
    refine ⟨fun h => (by rw [h] at hr; cases hr), fun j hj => ?_⟩
    by_cases hji : j = i
    · subst hji; exact hy.wpOp hi hS ⟨.inr hS, H⟩
    · have := ready_mono hj hji
      rw [H.1] at this
      cases this
  | succ f ih =>
    intro listed a w hcl hfree hr hy hS H
    refine ⟨fun h => (by rw [h] at hr; cases hr), fun j hj => ?_⟩
    by_cases hji : j = i
    · subst hji; exact hy.wpOp hi hS ⟨.inr hS, H⟩
    · have h1 := H.2 j (ready_mono hj hji)
      obtain ⟨hjun, oj, hoj, hall⟩ := mem_ready.1 hj
      have hun := (mem_ready.1 hr).1
      have hilt : i < ops.size := (Array.getElem?_eq_some_iff.1 hi).1
      have hjz : j ≠ z := fun e => by
        subst e
        exact not_both hun (sinkZ_spec hz hcl hj hilt (Ne.symm hji))
      have hnot : ∀ e ∈ oj.after, Region.binds md e = true → e.on ≠ i := fun e he hb heq => not_both hun (heq ▸ hall e he hb)
      have h2 := wpOp_putIf hoj (hfree j oj hoj hji hjun hnot) (fun cs b => hsel i oi cs b hi) (fun cs b => hsel j oj cs b hoj) hQ hy h1
      have hfree' : ∀ k ok, ops[k]? = some ok → k ≠ i → (listed.setIfInBounds j true).getD k true = false →
          (∀ e ∈ ok.after, Region.binds md e = true → e.on ≠ i) → oi.apart ops ok = true := fun k ok hk hki hun hno => by
        refine hfree k ok hk hki ?_ hno
        by_cases hjk : j = k
        · subst hjk; exact hjun
        · rw [getD_set_ne true hjk] at hun; exact hun
      refine wpOp_mono (fun a' w' h3 => ?_) h2
      obtain ⟨h3, h4, h5⟩ := h3
      have hS' : S w' := h4.resolve_left hjz
      refine ⟨h4, ih (listed.setIfInBounds j true) a' w' (hcl.set hj) hfree' (ready_mono hr (Ne.symm hji)) h3 hS' ?_⟩
      rw [Array.setIfInBounds_comm _ _ hji]
      exact h5

/-! ### Which operations only read -/
def quietB (o : Oper) : Bool :=
  match o.op with
  | .move _ | .assign _ | .pick .. | .build .. | .load .. | .nilCheck _ | .binOp .. | .unOp .. | .convert .. | .sliceToArrayPointer .. | .makeInterface .. | .makeFunc .. | .slice .. | .fieldAddr .. | .field .. | .indexAddr .. | .index .. | .lookup .. | .typeAssert .. | .extract .. => true
  | .call { callee := .builtin .len, .. } | .call { callee := .builtin .cap, .. } | .call { callee := .builtin .min, .. } | .call { callee := .builtin .max, .. } => true
  | _ => false
theorem run_v {s : Sem Value} {w w' : World} {n : Next} (h : (do pure (Next.value (← s)) : Sem Next).run P w = .ok n w') : ∃ v, n = .value v := by
  rw [Sem.run_bind] at h
  cases hs : s.run P w with
  | ok v w1 => rw [hs] at h; simp only [Result.andThen_ok, Sem.run_pure] at h; cases h; exact ⟨v, rfl⟩
  | halt x w1 => rw [hs] at h; simp only [Result.andThen] at h; cases h
theorem run_nilDeref {w w' : World} {n : Next} (h : (runtimePanic .nilDeref : Sem Next).run P w = .ok n w') : False := by
  simp [runtimePanic, goPanic, go_sem] at h
theorem quiet_value {o : Oper} {ρ : Operand → Value} {w w' : World} {n : Next} (hq : quietB o = true) (h : (execOp ρ o).run P w = .ok n w') : ∃ v, n = .value v := by
  obtain ⟨dst, op, type, pos, after, guard⟩ := o
  cases op
  case move x => simp only [execOp, Sem.run_pure] at h; cases h; exact ⟨_, rfl⟩
  case assign x => simp only [execOp, Sem.run_pure] at h; cases h; exact ⟨_, rfl⟩
  case pick c a b => exact run_v (s := do pure (if ← asBool (ρ c) then ρ a else ρ b)) (by simpa [execOp, Sem.run_bind] using h)
  case nilCheck x =>
    simp only [execOp] at h
    split at h
    · exact (run_nilDeref h).elim
    · exact (run_nilDeref h).elim
    · exact (run_nilDeref h).elim
    · split at h
      · exact (run_nilDeref h).elim
      · rw [Sem.run_bind] at h
        cases h1 : (program : Sem Program).run P w with
        | halt x w1 => rw [h1] at h; simp only [Result.andThen] at h; cases h
        | ok p w1 =>
          rw [h1] at h
          simp only [Result.andThen_ok] at h
          rw [Sem.run_bind] at h
          cases h2 : (nilAhead (p.types.size + Made.depth) _ _ _).run P w1 with
          | halt x w2 => rw [h2] at h; simp only [Result.andThen] at h; cases h
          | ok r w2 =>
            rw [h2] at h
            simp only [Result.andThen_ok] at h
            split at h
            · rw [Sem.run_bind] at h
              simp [unsupported, go_sem] at h
            · simp only [Sem.run_pure] at h; cases h; exact ⟨_, rfl⟩
      · simp only [Sem.run_pure] at h; cases h; exact ⟨_, rfl⟩
    · simp only [Sem.run_pure] at h; cases h; exact ⟨_, rfl⟩
  case call c =>
    obtain ⟨callee, args, ts⟩ := c
    cases callee
    case builtin b =>
      cases b <;> simp [quietB] at hq <;> exact run_v h
    all_goals simp [quietB] at hq
  all_goals first
    | (simp [quietB] at hq; done)
    | exact run_v h

/-! ### The walk: reads first, then an operation that comes up alone, and so on -/
def opsAt (l : List Oper) : List Nat → List Oper
  | [] => []
  | k :: ks => match l[k]? with
    | some o => o :: opsAt l ks
    | none => opsAt l ks
/-- In this order (true: an operation that comes up alone). -/
def mixB (md : Region.Mode) (ops : Array Oper) (z : Nat) : List (Bool × Nat) → Array Bool → Bool
  | [], listed => (Region.ready md ops listed).isEmpty
  | (true, k) :: r, listed => decide (Region.ready md ops listed = [k]) && (k != z || r.isEmpty) && mixB md ops z r (listed.setIfInBounds k true)
  | (false, k) :: r, listed => (Region.ready md ops listed).contains k && Region.free md ops listed k && ((ops[k]?).any quietB) && mixB md ops z r (listed.setIfInBounds k true)
def stepsOf : List (List Nat × Nat) → List Nat → List (Bool × Nat)
  | [], fin => fin.map (fun k => (false, k))
  | (qs, k) :: r, fin => qs.map (fun k => (false, k)) ++ (true, k) :: stepsOf r fin
/-- What is asked: reads, in whatever world of S; then an operation; and so on. -/
def wpSegs (P : Program) (l : List Oper) (S : World → Prop) (z : Nat) (Q : Exit → Act → World → Prop) : List (List Nat × Nat) → List Nat → Act → World → Prop
  | [], fin, a, w => wpQuiet P l.toArray S (fun a' => Q .normal a' w) (opsAt l fin) a
  | (qs, k) :: r, fin, a, w => wpQuiet P l.toArray S (fun a' => wpList P l.toArray (Exit.then (fun a2 w2 => (k = z ∨ S w2) ∧ wpSegs P l S z Q r fin a2 w2) Q) (opsAt l [k]) a' w) (opsAt l qs) a

theorem opsAt_cons {l : List Oper} {k : Nat} {o : Oper} (h : l.toArray[k]? = some o) (ks : List Nat) : opsAt l (k :: ks) = o :: opsAt l ks := by
  have h' : l[k]? = some o := by simpa using h
  simp [opsAt, h']
end
section
variable {P : Program} {l : List Oper} {Q : Exit → Act → World → Prop} {md : Region.Mode} {S : World → Prop} {z : Nat}
theorem yields_of_quiet {o : Oper} {a : Act} {v : Value} {ops : Array Oper} (hq : quietB o = true) (hw : Region.wanted o (yielded ops a.tmps) = true) (h : ∀ w, S w → o.quietAt P a S w v) : YieldsIf P ops S o v a := by
  refine .inl ⟨hw, fun w hS => ?_⟩
  have h1 := h w hS
  unfold Oper.quietAt at h1
  cases hr : (execOp a.eval o).run P w with
  | halt x w' => rw [hr] at h1; exact h1.elim
  | ok n w' =>
    obtain ⟨u, rfl⟩ := quiet_value hq hr
    rw [hr] at h1
    obtain ⟨rfl, rfl⟩ := h1
    rfl
theorem mix_quiet (hsel : Region.noSelect l.toArray = true) (hQ : ∀ c a b w, Q (.panic c) b w → Q (.panic c) a w) (hz : sinkZ md l.toArray z = true) {w : World} (hS : S w) {K : Act → Prop} {R : List (Bool × Nat)} {f : Nat}
    (hK : ∀ listed a, mixB md l.toArray z R listed = true → Closed md l.toArray listed → K a → wpAnyZ P md l.toArray Q S z f listed a w) :
    ∀ (qs : List Nat) (listed : Array Bool) (a : Act), mixB md l.toArray z (qs.map (fun k => (false, k)) ++ R) listed = true → Closed md l.toArray listed → wpQuiet P l.toArray S K (opsAt l qs) a →
      wpAnyZ P md l.toArray Q S z (qs.length + f) listed a w
  | [], listed, a, hB, hc, h => by simpa using hK listed a hB hc h
  | k :: qs, listed, a, hB, hc, h => by
    simp only [List.map_cons, List.cons_append, mixB, Bool.and_eq_true] at hB
    obtain ⟨⟨⟨hr, hf⟩, hq⟩, hB'⟩ := hB
    cases ho : l.toArray[k]? with
    | none => rw [ho] at hq; cases hq
    | some o =>
      rw [ho] at hq
      have hq : quietB o = true := hq
      have hr' : k ∈ Region.ready md l.toArray listed := by simpa using hr
      rw [opsAt_cons ho] at h
      simp only [wpQuiet] at h
      have hy : ∃ v, YieldsIf P l.toArray S o v a ∧ wpQuiet P l.toArray S K (opsAt l qs) (a.put o.dst v) := by
        split at h
        · rename_i hw
          obtain ⟨v, h1, h2⟩ := h
          exact ⟨v, yields_of_quiet hq hw h1, h2⟩
        · rename_i hw
          exact ⟨undef, .inr ⟨by simpa using hw, rfl⟩, h⟩
      obtain ⟨v, hy, hK'⟩ := hy
      have hlen : (k :: qs).length + f = (qs.length + f) + 1 := by simp; omega
      rw [hlen]
      exact wpAnyZ_first ho (Region.noSelect_spec hsel) (fun c a w h => hQ c a _ w h) hz _ listed a w hc (Region.free_spec ho hf) hr' hy hS (mix_quiet hsel hQ hz hS hK qs _ _ hB' (hc.set hr') hK')
theorem wpOp_then {ops : Array Oper} {k : Nat} {N K : Act → World → Prop} {a : Act} {w : World} {o : Oper} (ho : ops[k]? = some o) (hN : ∀ a w, N a w → K a w)
    (h : wpList P ops (Exit.then N Q) [o] a w) : wpOp P ops Q k K a w := by
  unfold wpOp
  simp only [ho]
  simp only [wpList, Exit.then] at h
  split
  · rename_i hw
    rw [if_pos hw] at h
    rcases h with h | ⟨h1, h2⟩
    · refine .inl ?_
      unfold Oper.wp at *
      generalize (execOp a.eval o).run P w = r at *
      cases r with
      | ok n w' =>
        cases n <;> simp only [Oper.upon] at h ⊢
        case value u => exact hN _ _ h
        case skip => exact hN _ _ h
        case defer d => exact hN _ _ h
        case enter f args =>
          refine Calls.mono h fun e w'' he => ?_
          cases e with
          | returned u => exact hN _ _ he
          | panicked c => exact he
          | outgrown => exact he
        case row row args => exact Rows.mono h fun u w'' he => hN _ _ he
      | halt x w' => cases x <;> simp only [Oper.upon] at h ⊢; exact h
    · exact .inr ⟨h1, h2⟩
  · rename_i hw
    rw [if_neg hw] at h
    exact hN _ _ h
theorem mix_all (hsel : Region.noSelect l.toArray = true) (hQ : ∀ c a b w, Q (.panic c) b w → Q (.panic c) a w) (hz : sinkZ md l.toArray z = true) :
    ∀ (segs : List (List Nat × Nat)) (fin : List Nat) (listed : Array Bool) (a : Act) (w : World), mixB md l.toArray z (stepsOf segs fin) listed = true → Closed md l.toArray listed → (S w ∨ stepsOf segs fin = []) → wpSegs P l S z Q segs fin a w →
      wpAnyZ P md l.toArray Q S z (stepsOf segs fin).length listed a w
  | [], fin, listed, a, w, hB, hc, hS, h => by
    rcases hS with hS | hS
    · have := mix_quiet (R := []) (f := 0) (K := fun a' => Q .normal a' w) hsel hQ hz hS (fun listed a hB _ h => ⟨by simpa [mixB] using hB, h⟩) fin listed a (by simpa [stepsOf] using hB) hc h
      simpa [stepsOf] using this
    · have hf : fin = [] := by simpa [stepsOf] using hS
      subst hf
      exact ⟨by simpa [stepsOf, mixB] using hB, h⟩
  | (qs, k) :: r, fin, listed, a, w, hB, hc, hS, h => by
    have hS : S w := hS.resolve_right (by simp [stepsOf])
    have hlen : (stepsOf ((qs, k) :: r) fin).length = qs.length + ((stepsOf r fin).length + 1) := by simp [stepsOf]
    rw [hlen]
    refine mix_quiet hsel hQ hz hS (fun listed a hB hc h => ?_) qs listed a (by simpa [stepsOf] using hB) hc h
    simp only [mixB, Bool.and_eq_true, decide_eq_true_eq] at hB
    obtain ⟨⟨hr, hkz⟩, hB'⟩ := hB
    have hkr : k ∈ Region.ready md l.toArray listed := by rw [hr]; simp
    refine ⟨fun h0 => (by rw [hr] at h0; cases h0), fun i hi => ?_⟩
    rw [hr] at hi
    obtain rfl : i = k := by simpa using hi
    obtain ⟨_, o, ho, _⟩ := mem_ready.1 hkr
    rw [opsAt_cons ho] at h
    refine wpOp_then ho (fun a2 w2 h2 => ⟨h2.1, mix_all hsel hQ hz r fin _ a2 w2 hB' (hc.set hkr) ?_ h2.2⟩) h
    rcases h2.1 with h3 | h3
    · right
      subst h3
      simpa using hkz
    · exact .inl h3
/-- **The region**: segs: reads, and an operation that then comes up alone; fin: reads at the end; z: the last operation (nothing is asked of the world behind it). -/
theorem wp_region_mix {id : Nat} {a : Act} {w : World} (S : World → Prop) (z : Nat) (segs : List (List Nat × Nat)) (fin : List Nat) (hm : P.follows .mixedOrders = true)
    (hB : (Region.noSelect l.toArray && sinkZ .any l.toArray z && mixB .any l.toArray z (stepsOf segs fin) (Array.replicate l.toArray.size false) && (stepsOf segs fin).length == l.toArray.size) = true) (hS : S w.drew)
    (h : wpSegs P l S z (NoPanic Q) segs fin a w.drew) : (Code.region id l.toArray true).wp P Q a w := by
  simp only [Bool.and_eq_true, beq_iff_eq] at hB
  obtain ⟨⟨⟨hsel, hz⟩, hB⟩, hlen⟩ := hB
  refine wp_region_noPanic (wp_region_any hm ?_)
  have := mix_all (P := P) (Q := NoPanic Q) (md := .any) hsel (fun c a b w h => h) hz segs fin _ a w.drew hB (Closed.none .any l.toArray) (.inl hS) h
  rw [hlen] at this
  exact wpAny_of_Z _ _ _ _ this
theorem segs_step {qs : List Nat} {k : Nat} {r : List (List Nat × Nat)} {fin : List Nat} {a : Act} {w : World}
    (h : wpQuiet P l.toArray S (fun a' => wpList P l.toArray (Exit.then (fun a2 w2 => (k = z ∨ S w2) ∧ wpSegs P l S z Q r fin a2 w2) Q) (opsAt l [k]) a' w) (opsAt l qs) a) : wpSegs P l S z Q ((qs, k) :: r) fin a w := h
theorem segs_end {fin : List Nat} {a : Act} {w : World} (h : wpQuiet P l.toArray S (fun a' => Q .normal a' w) (opsAt l fin) a) : wpSegs P l S z Q [] fin a w := h
/-- A world that meets S. -/
structure Held (S : World → Prop) where
  w : World
  h : S w
theorem Held.get {S T : World → Prop} (h : S = T) (p : Held S) : T p.w := h ▸ p.h
theorem Held.of {S : World → Prop} {w : World} (h : S w) : ∃ p : Held S, w = p.w := ⟨⟨w, h⟩, rfl⟩
theorem wp_region_mixS {id : Nat} {a : Act} {w : World} (S : World → Prop) (z : Nat) (segs : List (List Nat × Nat)) (fin : List Nat) (hm : P.follows .mixedOrders = true)
    (hB : (Region.noSelect l.toArray && sinkZ .any l.toArray z && mixB .any l.toArray z (stepsOf segs fin) (Array.replicate l.toArray.size false) && (stepsOf segs fin).length == l.toArray.size) = true) (hS : S w.drew)
    (h : wpSegs P l (fun w' => ∃ p : Held S, w' = p.w) z (NoPanic Q) segs fin a w.drew) : (Code.region id l.toArray true).wp P Q a w :=
  wp_region_mix (fun w' => ∃ p : Held S, w' = p.w) z segs fin hm hB (Held.of hS) h
end
end Go.Proofs.YtlbbkpjfoabobaaDoor
