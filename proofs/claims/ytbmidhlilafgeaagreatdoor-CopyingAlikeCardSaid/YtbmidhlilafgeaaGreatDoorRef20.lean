/- The reference of layer 20: in, Reached. -/
import Derived.Test.YtbmidhlilafgeaaGreatDoorKM8
import Derived.Test.YtbmidhlilafgeaaGreatDoorK8
import Derived.Test.YtbmidhlilafgeaaGreatDoorRef20P
namespace Go.Proofs.YtbmidhlilafgeaaGreatDoor
open Go.RowKit Word

theorem own_ints {w : World} {base : Nat} {A : Option Addr} {n c : Nat} {l : List Int} (h : w.ownsRow base 3 1 (.slice A n c) n (zs l)) (hn : n = l.length) : IntsAt w A l := fun i hi => by
  have h0 : n ≠ 0 := by omega
  obtain ⟨g, c', e, -, -, -, -⟩ := own_form h h0
  simp only [Value.slice.injEq] at e
  obtain ⟨rfl, -, rfl⟩ := e
  refine ⟨g, 0, rfl, (own_lt h (g := g) rfl).2, ?_⟩
  rw [Nat.zero_add]
  exact own_cell h (by simp [zs, hi])
set_option maxRecDepth 100000 in
set_option maxHeartbeats 800000 in
theorem ref20_in {w : World} {A : Option Addr} {n cp : Nat} {l : List Int} (hA : IntsAt w A l) (hn : n = l.length) (hlen : n ≤ maxLen) (a : Int) : Calls Tryz.prog 140 #[.slice A n cp, .int .i64 a] w fun e w' => e = .returned (.bool (decide (a ∈ l))) ∧ w = w' := by
  have HA := hid hA
  have HN := hid hn
  unfold maxLen at hlen
  clear hA hn
  go_enter Tryz.func140, Tryz.ntmps140
  go_wp2
  go_loop [5] (fun i => ∃ j : Nat, j ≤ n ∧ i = .int .i64 j ∧ Hid (a ∉ l.take j)) (fun i => n - (intOf i).toNat)
  case atStart => exact ⟨0, Nat.zero_le _, rfl, ⟨by simp⟩⟩
  case round =>
    obtain ⟨j, hj, rfl, HJ⟩ := hrel
    by_cases hlast : j = n
    · subst hlast
      go_wp2
      go_ret
      exact ⟨congrArg (fun b => Ending.returned (.bool b)) (decide_eq_false (by have := HJ.out; rwa [HN.out, List.take_length] at this)).symm, rfl⟩
    · have hjl : j < l.length := by have := HN.out; omega
      have hjI : (j : Int) < (n : Int) := by omega
      obtain ⟨b, o, rfl, hb, e0⟩ := HA.out j hjl
      have HTK : Hid (l.take (j + 1) = l.take j ++ [l[j]] ∧ l[j] ∈ l) := ⟨List.take_succ_eq_append_getElem hjl, List.getElem_mem hjl⟩
      obtain ⟨y, hy⟩ : ∃ y, y = l[j] := ⟨_, rfl⟩
      rw [← hy] at e0 HTK
      have HJL := hid (And.intro hj hlast)
      clear hy hb hj hlast
      by_cases hya : y = a
      · have d0 : (y == a) = true := by simpa using hya
        have HYA := hid hya
        clear hya
        go_wp2
        go_ret
        exact ⟨congrArg (fun b => Ending.returned (.bool b)) (decide_eq_true (by rw [← HYA.out]; exact HTK.out.2)).symm, rfl⟩
      · have d0 : (y == a) = false := by simpa using hya
        have HYA := hid hya
        clear hya
        go_wp2
        go_round
        case rel =>
          refine ⟨j + 1, by have := HJL.out; omega, by go_num, ⟨fun h => ?_⟩⟩
          rw [HTK.out.1] at h
          rcases List.mem_append.1 h with h | h
          · exact HJ.out h
          · exact HYA.out (List.mem_singleton.1 h).symm
        case measure => have := HJL.out; simp [intOf]; omega
def ReachEnd (w : World) (v : Vm) (rs : List Int) (n : Nat) (e : Ending) (w' : World) : Prop :=
  ∃ A c L ok, e = .returned (.tuple #[.slice A (List.length L) c, .bool ok]) ∧ Gr w w' ∧ (ok = true → ObjsAt w' A L ∧ Marks v rs n L) ∧ (ok = false → ¬ Sound v rs n)
/-- The row of what is to be done. -/
structure Todo (w0 w : World) (vL : Value) (N : Nat) (T : List Int) : Prop where
  own : w.ownsRow w0.heap.size 3 1 vL N (zs T)
  len : N = T.length
theorem Todo.touch {w0 w w' : World} {vL : Value} {N : Nat} {T : List Int} (h : Todo w0 w vL N T) {S : Nat → Prop} (t : Touch S w w') (hS : ∀ g, vL.ownBlock = some g → ¬ S g) : Todo w0 w' vL N T := ⟨own_touch h.own t hS, h.len⟩
theorem Todo.gr {w0 w w' : World} {vL : Value} {N : Nat} {T : List Int} (h : Todo w0 w vL N T) (t : Gr w w') : Todo w0 w' vL N T := ⟨own_gr h.own t, h.len⟩
theorem Todo.at {w0 w : World} {A : Option Addr} {N c : Nat} {T : List Int} (h : Todo w0 w (.slice A N c) N T) : IntsAt w A T := own_ints h.own h.len
theorem ptV_le {v : Vm} {a i : Int} (h : v.ptE a i = 0) : v.ptV a i ≤ 2147483647 := by
  unfold Vm.ptV
  rw [if_pos h]
  unfold Vm.ptE at h
  split at h
  · exact absurd h (by assumption)
  · split at h
    · cases h
    · omega
end Go.Proofs.YtbmidhlilafgeaaGreatDoor
