/- Layer 18's Far; layer 19's May; layer 13's Sizes. Layer 20: told, a Map's objects against a row. -/
import Derived.Test.YtbmidhlilafgeaaGreatDoorLay18
import Derived.Test.YtbmidhlilafgeaaGreatDoorK8
import Derived.Test.YtbmidhlilafgeaaGreatDoorKMA
import Derived.Test.YtbmidhlilafgeaaGreatDoorK7
import Derived.OwnWalkIn
section
namespace Go.Proofs.YtbmidhlilafgeaaGreatDoor
open Go.RowKit Word

def farB (n1 n2 n3 : Nat) : Bool := decide (300 < wrap64 (wrap64 ((n1 : Int) + n2) + n3))
theorem sizes13_take_le (L : List Ob) (j : Nat) : sizes (L.take j) ≤ sizes L := by
  induction L generalizing j with
  | nil => simp [sizes]
  | cons o r ih =>
    cases j with
    | zero => simp [sizes]
    | succ j => have := ih j; simp only [List.take_succ_cons, sizes]; omega
set_option maxRecDepth 100000 in
set_option maxHeartbeats 800000 in
theorem sizes13 {w : World} {A : Option Addr} {c : Nat} {L : List Ob} (hA : ObjsAt w A L) {n : Nat} (hg : Good n L) (hn : n ≤ 1048576) :
    Calls Tryz.prog 79 #[.slice A L.length c] w fun e w' => e = .returned (.int .i64 (sizes L : Nat)) ∧ w = w' := by
  have hlen := hg.len
  have hs := sizes_le hg
  have HA := hid hA
  have HM := hid (fun k => sizes13_take_le L k)
  have HT := hid (fun (k : Nat) (hk : k < L.length) => sizes_take hk)
  clear hA hg
  go_enter Tryz.func79, Tryz.ntmps79
  go_wp2
  go_loop [3, 4] (fun s i => ∃ k t : Nat, k ≤ L.length ∧ Hid (t = sizes (L.take k)) ∧ t ≤ 1048576 ∧ s = .int .i64 t ∧ i = .int .i64 k) (fun _ i => L.length - (intOf i).toNat)
  case atStart => exact ⟨0, 0, Nat.zero_le _, ⟨rfl⟩, by omega, rfl, rfl⟩
  case round =>
    obtain ⟨k, t, hk, ht, htb, rfl, rfl⟩ := hrel
    by_cases hlt : k < L.length
    · obtain ⟨g, rfl, hgl, q0, q1⟩ := HA.out k hlt
      have h1 := HT.out k hlt
      have h2 := HM.out (k + 1)
      rw [← ht.out] at h1
      rw [h1] at h2
      have E := hid h1
      generalize L[k].2 = z at *
      clear h1 q0 ht
      go_wp2
      go_round
      case rel => exact ⟨k + 1, t + z, by omega, ⟨E.out.symm⟩, by omega, by go_num, by go_num⟩
      case measure => simp [intOf]; omega
    · obtain rfl : k = L.length := by omega
      have E := hid (show t = sizes L from by rw [ht.out, List.take_length])
      clear ht
      go_wp2
      go_ret
      exact ⟨ret_int (by rw [E.out]), rfl⟩
end Go.Proofs.YtbmidhlilafgeaaGreatDoor
end

section
namespace Go.Proofs.YtbmidhlilafgeaaGreatDoor
open Go.RowKit Go.Shelf Word
attribute [local go_sem] Oper.semAt_some

/-- Between two rounds. -/
structure ToldI (W0 : World) (X : Nat) (L : List Ob) (j : Nat) (A : World) : Prop where
  t : Touch (fun i => i = X + 1 + 1 ∨ W0.heap.size ≤ i) W0 A
  jl : j ≤ L.length
  c : A.cell? ⟨X + 1 + 1, 0, none⟩ = some (.int .i64 j)
  f2 : A.frozen? ⟨X + 1 + 1, 0, none⟩ = false
end Go.Proofs.YtbmidhlilafgeaaGreatDoor
end
