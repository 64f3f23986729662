/- Layer 18's Lay: the plain law. -/
import Derived.Test.YtbmidhlilafgeaaGreatDoorKM6
namespace Go.Proofs.YtbmidhlilafgeaaGreatDoor
open Go.RowKit Word

/-- A memory of 400 words, a page each, all mapped. -/
structure Full (v : Vm) : Prop where
  ok : VmOk v
  n : v.n = 400
  pg : v.pl.pg = 1
  al : ∀ a : Nat, a < 400 → v.ldE a = 0
theorem Full.st {v : Vm} (h : Full v) (a : Int) {x : Nat} (hx : x < 18446744073709551616) : Full (v.st a x) :=
  ⟨h.ok.st a hx, by unfold Vm.st; split <;> exact h.n, by unfold Vm.st; split <;> exact h.pg, fun b hb => by rw [st_ldE]; exact h.al b hb⟩
theorem Full.ldE {v : Vm} (h : Full v) (a : Int) : v.ldE a = if 0 ≤ a ∧ a < 400 then 0 else 11 := by
  by_cases hr : 0 ≤ a ∧ a < 400
  · rw [if_pos hr]
    obtain ⟨j, rfl⟩ : ∃ j : Nat, a = j := ⟨a.toNat, by omega⟩
    exact h.al j (by omega)
  · rw [if_neg hr]
    unfold Vm.ldE
    rw [if_neg (by rw [h.n]; exact hr)]
theorem Full.mkV {v : Vm} (h : Full v) (a : Int) {x : Nat} (hx : x < 18446744073709551616) (m : Nat) : Full (mkV v a x m) := by
  induction m with
  | zero => exact h.st a hx
  | succ m ih => exact ih.st _ (by decide)
theorem Full.mkVm {v : Vm} (h : Full v) (a : Int) (hd : Hdr) : Full (mkVm v a hd) := by
  unfold Go.Proofs.YtbmidhlilafgeaaGreatDoor.mkVm
  split
  · rename_i h0
    unfold mkRes at h0
    split at h0
    · cases h0
    · split at h0
      · cases h0
      · rename_i h1
        obtain ⟨p, f, c, rfl, hs⟩ := hdrE_zero (Decidable.not_not.1 h1)
        exact h.mkV a (hdrW_lt (by simpa using hs)) _
  · exact h
theorem full_new : VmOk (Vm.new 400 1 400) := VmOk.new (by decide) (by decide) (by decide) (by decide) (by decide)
theorem full_need {v : Vm} (h : Grown (Vm.new 400 1 400) v (needF (Vm.new 400 1 400) 0 400)) : Full v ∧ ∀ a : Nat, a < 400 → v.ldV a = 0 := by
  have hF : needF (Vm.new 400 1 400) 0 400 = List.range 400 := by decide +kernel
  rw [hF] at h
  have hl : ∀ a : Nat, a < 400 → a / (Vm.new 400 1 400).pl.pg ∈ List.range 400 := fun a ha => by
    show a / 1 ∈ List.range 400
    rw [Nat.div_one, List.mem_range]; exact ha
  refine ⟨⟨h.ok, h.n, h.pg, fun a ha => ?_⟩, fun a ha => ?_⟩
  · rw [h.ldE full_new ha, if_pos (hl a ha)]
  · rw [h.vl a ha, if_pos (hl a ha)]
theorem need_ok : needE (Vm.new 400 1 400) 0 400 = 0 := by decide +kernel
/-- A number's 64 bits. -/
def u64I (x : Int) : Nat := (x % 18446744073709551616).toNat
/-- Headers, laid one behind the other. -/
def layHs : List Hdr → Vm → Int → List Int → Vm × Int × List Int
  | [], v, t, F => (v, t, F)
  | h :: r, v, t, F => if mkRes v t h = 0 then layHs r (mkVm v t h) (t + hdrN h) (F ++ (List.range h.p.toNat).map fun i : Nat => t + 1 + (i : Int)) else (v, t, F)
/-- Pointers put into fields, k pairs of them. -/
def layPs (P F : List Int) (v : Vm) : Nat → Vm
  | 0 => v
  | k + 1 => (layPs P F v k).st (F.getD (u64I (P.getD (2 * k) 0) % F.length) 0) (u64I (P.getD (2 * k + 1) 0))
/-- Words put anywhere, k pairs of them. -/
def layWs (W : List Int) (v : Vm) : Nat → Vm
  | 0 => v
  | k + 1 => (layWs W v k).st ((u64I (W.getD (2 * k) 0) % 400 : Nat) : Int) (u64I (W.getD (2 * k + 1) 0))
theorem u64I_lt (x : Int) : u64I x < 18446744073709551616 := by unfold u64I; omega
theorem Full.layPs {v : Vm} (h : Full v) (P F : List Int) (k : Nat) : Full (layPs P F v k) := by
  induction k with
  | zero => exact h
  | succ k ih => exact ih.st _ (u64I_lt _)
theorem Full.layWs {v : Vm} (h : Full v) (W : List Int) (k : Nat) : Full (layWs W v k) := by
  induction k with
  | zero => exact h
  | succ k ih => exact ih.st _ (u64I_lt _)
theorem Full.layHs {v : Vm} (h : Full v) (l : List Hdr) (t : Int) (F : List Int) : Full (layHs l v t F).1 := by
  induction l generalizing v t F with
  | nil => exact h
  | cons x l ih =>
    unfold Go.Proofs.YtbmidhlilafgeaaGreatDoor.layHs
    split
    · exact ih (h.mkVm t x) _ _
    · exact h
end Go.Proofs.YtbmidhlilafgeaaGreatDoor
