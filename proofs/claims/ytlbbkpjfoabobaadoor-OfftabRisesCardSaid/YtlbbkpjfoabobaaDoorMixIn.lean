/- XMix inside a fence that lets every function by: also in a round of a range over a function. -/
import Derived.Test.YtlbbkpjfoabobaaDoorMix
import Derived.RangeFuncNested
import Derived.RangeFuncCalls
import Derived.RangeFuncLeaves
import Derived.OrdersIn
namespace Go.Proofs.YtlbbkpjfoabobaaDoor
open Go.RowKit

section
variable {F : Fence} {n : Nat} {P : Program} {ops : Array Oper} {Q : Exit → Act → World → Prop} {md : Region.Mode} {S : World → Prop}

def wpAnyZIn (F : Fence) (n : Nat) (P : Program) (md : Region.Mode) (ops : Array Oper) (Q : Exit → Act → World → Prop) (S : World → Prop) (z : Nat) : Nat → Array Bool → Act → World → Prop
  | 0, listed, a, w => Region.ready md ops listed = [] ∧ Q .normal a w
  | f + 1, listed, a, w =>
    (Region.ready md ops listed = [] → Q .normal a w) ∧
    ∀ i ∈ Region.ready md ops listed, wpOpIn F n P ops Q i (fun a' w' => (i = z ∨ S w') ∧ wpAnyZIn F n P md ops Q S z f (listed.setIfInBounds i true) a' w') a w
theorem wpAnyIn_of_Z {z : Nat} : ∀ (f : Nat) (listed : Array Bool) (a : Act) (w : World), wpAnyZIn F n P md ops Q S z f listed a w → wpAnyIn F n P md ops Q f listed a w
  | 0, _, _, _, h => h
  | f + 1, _, _, _, h => ⟨h.1, fun i hi => wpOpIn_mono (fun a' w' h' => wpAnyIn_of_Z f _ a' w' h'.2) (h.2 i hi)⟩
def noDefer (ops : Array Oper) : Bool := ops.all fun o => match o.op with | .defer _ => false | _ => true
theorem noDefer_spec (h : noDefer ops = true) {j : Nat} {o : Oper} (ho : ops[j]? = some o) (c : Call) : o.op ≠ .defer c := by
  intro heq
  have := Array.all_eq_true_iff_forall_mem.1 h o (Array.mem_of_getElem? ho)
  simp [heq] at this
theorem yieldsIf_wpOpIn {i : Nat} {o : Oper} {v : Value} {a : Act} (hF : ∀ f, F.fn f) (hi : ops[i]? = some o) (hd : ∀ c, o.op ≠ .defer c) (hy : YieldsIf P ops S o v a)
    {K : Act → World → Prop} {w : World} (hS : S w) (h : K (a.put o.dst v) w) : wpOpIn F n P ops Q i K a w := by
  unfold wpOpIn
  simp only [hi]
  rcases hy with ⟨hw, hv⟩ | ⟨hw, rfl⟩
  · simp only [hw, if_true, Oper.wpIn, Oper.semAt_eq F.round a.eval o hd, hv w hS, Oper.uponIn]; exact ⟨fun f _ => hF f, h⟩
  · simp only [hw, Bool.false_eq_true, if_false]; exact ⟨fun f _ => hF f, h⟩
theorem wpOpIn_putIf {j : Nat} {oi oj : Oper} {v : Value} (hF : ∀ f, F.fn f) (hj : ops[j]? = some oj) (hap : oi.apart ops oj = true)
    (hsi : ∀ cs b, oi.op ≠ .select cs b) (hsj : ∀ cs b, oj.op ≠ .select cs b) (hd : ∀ c, oj.op ≠ .defer c)
    (hQ : ∀ c a w, Q (.panic c) (a.put oi.dst v) w → Q (.panic c) a w) {K : Act → World → Prop} {a : Act} {w : World}
    (hy : YieldsIf P ops S oi v a) (h : wpOpIn F n P ops Q j K (a.put oi.dst v) w) :
    wpOpIn F n P ops Q j (fun a' w' => YieldsIf P ops S oi v a' ∧ K (a'.put oi.dst v) w') a w := by
  obtain ⟨h1, h2, h3⟩ := Oper.apart_spec hap
  have keep : ∀ (a : Act), YieldsIf P ops S oi v a → ∀ u, YieldsIf P ops S oi v (a.put oj.dst u) := fun a hy u =>
    hy.of_same (execOp_put oi hsi a oj.dst u h3) (wanted_put oi a oj.dst u h3)
  unfold wpOpIn at *
  simp only [hj] at *
  rw [wanted_put oj a oi.dst v h1] at h
  split
  · rename_i hw
    simp only [hw, if_true] at h
    unfold Oper.wpIn at *
    refine ⟨fun f _ => hF f, ?_⟩
    have h := h.2
    rw [Oper.semAt_eq F.round _ oj hd, execOp_put oj hsj a oi.dst v h1] at h
    rw [Oper.semAt_eq F.round _ oj hd]
    generalize (execOp a.eval oj).run P w = r at *
    cases r with
    | ok x w' =>
      cases x <;> simp only [Oper.uponIn] at h ⊢
      case value u => exact ⟨keep a hy u, by rw [← Act.put_comm a v u h2]; exact h⟩
      case skip => exact ⟨keep a hy _, by rw [← Act.put_comm a v undef h2]; exact h⟩
      case defer d =>
        have keepD : YieldsIf P ops S oi v { a with defers := d :: a.defers } := hy.of_same rfl rfl
        refine ⟨keep _ keepD _, ?_⟩
        rw [← Act.put_comm _ v undef h2, ← Act.put_defers]
        exact h
      case enter f args =>
        refine ⟨h.1, CallsIn.mono h.2 fun e w'' he => ?_⟩
        cases e with
        | returned u => exact ⟨keep a hy u, by rw [← Act.put_comm a v u h2]; exact he⟩
        | panicked c => exact hQ _ _ _ he
        | outgrown => exact he
      case row row args => exact ⟨h.1, RowsIn.mono h.2 fun u w'' he => ⟨keep a hy u, by rw [← Act.put_comm a v u h2]; exact he⟩⟩
      case round l f tmps assign body =>
        refine ⟨h.1, RoundIn.mono h.2 fun e w'' he => ?_⟩
        cases e with
        | returned u => exact ⟨keep a hy u, by rw [← Act.put_comm a v u h2]; exact he⟩
        | panicked c => exact hQ _ _ _ he
        | outgrown => exact he
    | halt x w' =>
      cases x <;> simp only [Oper.uponIn] at h ⊢
      case panic u => exact hQ _ _ _ h
  · rename_i hw
    simp only [hw] at h
    exact ⟨fun f _ => hF f, keep a hy _, by rw [← Act.put_comm a v undef h2]; exact h.2⟩

theorem wpAnyZIn_first {z i : Nat} {oi : Oper} {v : Value} (hF : ∀ f, F.fn f) (hnd : noDefer ops = true) (hi : ops[i]? = some oi) (hsel : ∀ (j : Nat) (o : Oper) cs b, ops[j]? = some o → o.op ≠ .select cs b)
    (hQ : ∀ c a w, Q (.panic c) (a.put oi.dst v) w → Q (.panic c) a w) (hz : sinkZ md ops z = true) :
    ∀ (f : Nat) (listed : Array Bool) (a : Act) (w : World), Closed md ops listed →
      (∀ j oj, ops[j]? = some oj → j ≠ i → listed.getD j true = false → (∀ e ∈ oj.after, Region.binds md e = true → e.on ≠ i) → oi.apart ops oj = true) →
      i ∈ Region.ready md ops listed → YieldsIf P ops S oi v a → S w →
      wpAnyZIn F n P md ops Q S z f (listed.setIfInBounds i true) (a.put oi.dst v) w → wpAnyZIn F n P md ops Q S z (f + 1) listed a w := by
  intro f
  induction f with
  | zero =>
    intro listed a w _ _ hr hy hS H
    refine ⟨fun h => (by rw [h] at hr; cases hr), fun j hj => ?_⟩
    by_cases hji : j = i
    · subst hji; exact yieldsIf_wpOpIn hF hi (noDefer_spec hnd hi) hy hS ⟨.inr hS, H⟩
    · have := ready_mono hj hji
      rw [H.1] at this
      cases this
  | succ f ih =>
    intro listed a w hcl hfree hr hy hS H
    refine ⟨fun h => (by rw [h] at hr; cases hr), fun j hj => ?_⟩
    by_cases hji : j = i
    · subst hji; exact yieldsIf_wpOpIn hF hi (noDefer_spec hnd hi) hy hS ⟨.inr hS, H⟩
    · have h1 := H.2 j (ready_mono hj hji)
      obtain ⟨hjun, oj, hoj, hall⟩ := mem_ready.1 hj
      have hun := (mem_ready.1 hr).1
      have hilt : i < ops.size := (Array.getElem?_eq_some_iff.1 hi).1
      have hjz : j ≠ z := fun e => by
        subst e
        exact not_both hun (sinkZ_spec hz hcl hj hilt (Ne.symm hji))
      have hnot : ∀ e ∈ oj.after, Region.binds md e = true → e.on ≠ i := fun e he hb heq => not_both hun (heq ▸ hall e he hb)
      have h2 := wpOpIn_putIf hF hoj (hfree j oj hoj hji hjun hnot) (fun cs b => hsel i oi cs b hi) (fun cs b => hsel j oj cs b hoj) (noDefer_spec hnd hoj) hQ hy h1
      have hfree' : ∀ k ok, ops[k]? = some ok → k ≠ i → (listed.setIfInBounds j true).getD k true = false →
          (∀ e ∈ ok.after, Region.binds md e = true → e.on ≠ i) → oi.apart ops ok = true := fun k ok hk hki hun hno => by
        refine hfree k ok hk hki ?_ hno
        by_cases hjk : j = k
        · subst hjk; exact hjun
        · rw [getD_set_ne true hjk] at hun; exact hun
      refine wpOpIn_mono (fun a' w' h3 => ?_) h2
      obtain ⟨h3, h4, h5⟩ := h3
      have hS' : S w' := h4.resolve_left hjz
      refine ⟨h4, ih (listed.setIfInBounds j true) a' w' (hcl.set hj) hfree' (ready_mono hr (Ne.symm hji)) h3 hS' ?_⟩
      rw [Array.setIfInBounds_comm _ _ hji]
      exact h5

def wpSegsIn (F : Fence) (n : Nat) (P : Program) (l : List Oper) (S : World → Prop) (z : Nat) (Q : Exit → Act → World → Prop) : List (List Nat × Nat) → List Nat → Act → World → Prop
  | [], fin, a, w => wpQuiet P l.toArray S (fun a' => Q .normal a' w) (opsAt l fin) a
  | (qs, k) :: r, fin, a, w => wpQuiet P l.toArray S (fun a' => wpListIn F n P l.toArray (Exit.then (fun a2 w2 => (k = z ∨ S w2) ∧ wpSegsIn F n P l S z Q r fin a2 w2) Q) (opsAt l [k]) a' w) (opsAt l qs) a
end
section
variable {F : Fence} {n : Nat} {P : Program} {l : List Oper} {Q : Exit → Act → World → Prop} {md : Region.Mode} {S : World → Prop} {z : Nat}
theorem mix_quietIn (hF : ∀ f, F.fn f) (hnd : noDefer l.toArray = true) (hsel : Region.noSelect l.toArray = true) (hQ : ∀ c a b w, Q (.panic c) b w → Q (.panic c) a w) (hz : sinkZ md l.toArray z = true) {w : World} (hS : S w) {K : Act → Prop} {R : List (Bool × Nat)} {f : Nat}
    (hK : ∀ listed a, mixB md l.toArray z R listed = true → Closed md l.toArray listed → K a → wpAnyZIn F n P md l.toArray Q S z f listed a w) :
    ∀ (qs : List Nat) (listed : Array Bool) (a : Act), mixB md l.toArray z (qs.map (fun k => (false, k)) ++ R) listed = true → Closed md l.toArray listed → wpQuiet P l.toArray S K (opsAt l qs) a →
      wpAnyZIn F n P md l.toArray Q S z (qs.length + f) listed a w
  | [], listed, a, hB, hc, h => by simpa using hK listed a hB hc h
  | k :: qs, listed, a, hB, hc, h => by
    simp only [List.map_cons, List.cons_append, mixB, Bool.and_eq_true] at hB
    obtain ⟨⟨⟨hr, hf⟩, hq⟩, hB'⟩ := hB
    cases ho : l.toArray[k]? with
    | none => rw [ho] at hq; cases hq
    | some o =>
      rw [ho] at hq
      have hq : quietB o = true := hq
      have hr' : k ∈ Region.ready md l.toArray listed := by simpa using hr
      rw [opsAt_cons ho] at h
      simp only [wpQuiet] at h
      have hy : ∃ v, YieldsIf P l.toArray S o v a ∧ wpQuiet P l.toArray S K (opsAt l qs) (a.put o.dst v) := by
        split at h
        · rename_i hw
          obtain ⟨v, h1, h2⟩ := h
          exact ⟨v, yields_of_quiet hq hw h1, h2⟩
        · rename_i hw
          exact ⟨undef, .inr ⟨by simpa using hw, rfl⟩, h⟩
      obtain ⟨v, hy, hK'⟩ := hy
      have hlen : (k :: qs).length + f = (qs.length + f) + 1 := by simp; omega
      rw [hlen]
      exact wpAnyZIn_first hF hnd ho (Region.noSelect_spec hsel) (fun c a w h => hQ c a _ w h) hz _ listed a w hc (Region.free_spec ho hf) hr' hy hS (mix_quietIn hF hnd hsel hQ hz hS hK qs _ _ hB' (hc.set hr') hK')
theorem wpOpIn_then {ops : Array Oper} {k : Nat} {N K : Act → World → Prop} {a : Act} {w : World} {o : Oper} (ho : ops[k]? = some o) (hN : ∀ a w, N a w → K a w)
    (h : wpListIn F n P ops (Exit.then N Q) [o] a w) : wpOpIn F n P ops Q k K a w := by
  unfold wpOpIn
  simp only [ho]
  simp only [wpListIn, Exit.then] at h
  split
  · rename_i hw
    rw [if_pos hw] at h
    unfold Oper.wpIn at *
    refine ⟨h.1, ?_⟩
    have h := h.2
    generalize (o.semAt F.round a.eval).run P w = r at *
    cases r with
    | ok n w' =>
      cases n <;> simp only [Oper.uponIn] at h ⊢
      case value u => exact hN _ _ h
      case skip => exact hN _ _ h
      case defer d => exact hN _ _ h
      case enter f args =>
        refine ⟨h.1, CallsIn.mono h.2 fun e w'' he => ?_⟩
        cases e with
        | returned u => exact hN _ _ he
        | panicked c => exact he
        | outgrown => exact he
      case row row args => exact ⟨h.1, RowsIn.mono h.2 fun u w'' he => hN _ _ he⟩
      case round l f tmps assign body =>
        refine ⟨h.1, RoundIn.mono h.2 fun e w'' he => ?_⟩
        cases e with
        | returned u => exact hN _ _ he
        | panicked c => exact he
        | outgrown => exact he
    | halt x w' => cases x <;> simp only [Oper.uponIn] at h ⊢; exact h
  · rename_i hw
    rw [if_neg hw] at h
    exact ⟨h.1, hN _ _ h.2⟩
theorem mix_allIn (hF : ∀ f, F.fn f) (hnd : noDefer l.toArray = true) (hsel : Region.noSelect l.toArray = true) (hQ : ∀ c a b w, Q (.panic c) b w → Q (.panic c) a w) (hz : sinkZ md l.toArray z = true) :
    ∀ (segs : List (List Nat × Nat)) (fin : List Nat) (listed : Array Bool) (a : Act) (w : World), mixB md l.toArray z (stepsOf segs fin) listed = true → Closed md l.toArray listed → (S w ∨ stepsOf segs fin = []) → wpSegsIn F n P l S z Q segs fin a w →
      wpAnyZIn F n P md l.toArray Q S z (stepsOf segs fin).length listed a w
  | [], fin, listed, a, w, hB, hc, hS, h => by
    rcases hS with hS | hS
    · have := mix_quietIn (n := n) (R := []) (f := 0) (K := fun a' => Q .normal a' w) hF hnd hsel hQ hz hS (fun listed a hB _ h => ⟨by simpa [mixB] using hB, h⟩) fin listed a (by simpa [stepsOf] using hB) hc h
      simpa [stepsOf] using this
    · have hf : fin = [] := by simpa [stepsOf] using hS
      subst hf
      exact ⟨by simpa [stepsOf, mixB] using hB, h⟩
  | (qs, k) :: r, fin, listed, a, w, hB, hc, hS, h => by
    have hS : S w := hS.resolve_right (by simp [stepsOf])
    have hlen : (stepsOf ((qs, k) :: r) fin).length = qs.length + ((stepsOf r fin).length + 1) := by simp [stepsOf]
    rw [hlen]
    refine mix_quietIn hF hnd hsel hQ hz hS (fun listed a hB hc h => ?_) qs listed a (by simpa [stepsOf] using hB) hc h
    simp only [mixB, Bool.and_eq_true, decide_eq_true_eq] at hB
    obtain ⟨⟨hr, hkz⟩, hB'⟩ := hB
    have hkr : k ∈ Region.ready md l.toArray listed := by rw [hr]; simp
    refine ⟨fun h0 => (by rw [hr] at h0; cases h0), fun i hi => ?_⟩
    rw [hr] at hi
    obtain rfl : i = k := by simpa using hi
    obtain ⟨_, o, ho, _⟩ := mem_ready.1 hkr
    rw [opsAt_cons ho] at h
    refine wpOpIn_then ho (fun a2 w2 h2 => ⟨h2.1, mix_allIn hF hnd hsel hQ hz r fin _ a2 w2 hB' (hc.set hkr) ?_ h2.2⟩) h
    rcases h2.1 with h3 | h3
    · right
      subst h3
      simpa using hkz
    · exact .inl h3
theorem wpIn_region_mixS {id : Nat} {a : Act} {w : World} (S : World → Prop) (z : Nat) (segs : List (List Nat × Nat)) (fin : List Nat) (hF : ∀ f, F.fn f) (hm : P.follows .mixedOrders = true)
    (hB : (noDefer l.toArray && Region.noSelect l.toArray && sinkZ .any l.toArray z && mixB .any l.toArray z (stepsOf segs fin) (Array.replicate l.toArray.size false) && (stepsOf segs fin).length == l.toArray.size) = true) (hS : S w.drew)
    (h : wpSegsIn F n P l (fun w' => ∃ p : Held S, w' = p.w) z (NoPanic Q) segs fin a w.drew) : (Code.region id l.toArray true).wpIn F n P Q a w := by
  simp only [Bool.and_eq_true, beq_iff_eq] at hB
  obtain ⟨⟨⟨⟨hnd, hsel⟩, hz⟩, hB⟩, hlen⟩ := hB
  refine wpIn_mono (wpIn_region_any hm ?_) NoPanic.imp
  have := mix_allIn (F := F) (n := n) (P := P) (Q := NoPanic Q) (md := .any) hF hnd hsel (fun c a b w h => h) hz segs fin _ a w.drew hB (Closed.none .any l.toArray) (.inl (Held.of hS)) h
  rw [hlen] at this
  exact wpAnyIn_of_Z _ _ _ _ this
theorem segsIn_step {qs : List Nat} {k : Nat} {r : List (List Nat × Nat)} {fin : List Nat} {a : Act} {w : World}
    (h : wpQuiet P l.toArray S (fun a' => wpListIn F n P l.toArray (Exit.then (fun a2 w2 => (k = z ∨ S w2) ∧ wpSegsIn F n P l S z Q r fin a2 w2) Q) (opsAt l [k]) a' w) (opsAt l qs) a) : wpSegsIn F n P l S z Q ((qs, k) :: r) fin a w := h
theorem segsIn_end {fin : List Nat} {a : Act} {w : World} (h : wpQuiet P l.toArray S (fun a' => Q .normal a' w) (opsAt l fin) a) : wpSegsIn F n P l S z Q [] fin a w := h
theorem wide_fn (f : FuncId) : Fence.wide.fn f := trivial
end
end Go.Proofs.YtlbbkpjfoabobaaDoor
