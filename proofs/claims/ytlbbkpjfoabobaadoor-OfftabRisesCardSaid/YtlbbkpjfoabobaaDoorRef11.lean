/- Contracts of the reference of layer 11: a row of bools. -/
import Derived.Test.YtlbbkpjfoabobaaDoorBools
import Derived.Test.YtlbbkpjfoabobaaDoorVecB
namespace Go.Proofs.YtlbbkpjfoabobaaDoor
open Go.RowKit Word

set_option maxRecDepth 100000 in
set_option maxHeartbeats 800000 in
theorem ref_may (n : Int) (w : World) : Calls Tryd.prog 25 #[.int .i64 n] w fun e w' => e = .returned (.bool (decide (1 ≤ n) && decide (n ≤ 1048576))) ∧ w = w' := by
  by_cases h1 : 1 ≤ n
  · have hd : decide ((1 : Int) ≤ n) = true := by simp [h1]
    go_enter Tryd.func25, Tryd.ntmps25
    go_wp2
    go_ret
    exact ⟨ret_bool (by simp; omega), rfl⟩
  · have hd : decide ((1 : Int) ≤ n) = false := by simp; omega
    go_enter Tryd.func25, Tryd.ntmps25
    go_wp2
    go_ret
    exact ⟨ret_bool (by simp), rfl⟩

set_option maxRecDepth 100000 in
set_option maxHeartbeats 800000 in
theorem ref_is {w : World} {g c : Nat} {l : List Bool} (hB : Bools w g l) (i : Int) :
    Calls Tryd.prog 31 #[.slice (some ⟨g, 0, none⟩) l.length c, .int .i64 i] w fun e w' => e = .returned (.bool (decide (0 ≤ i) && at_ l i.toNat)) ∧ w = w' := by
  by_cases h0 : 0 ≤ i
  · obtain ⟨k, rfl⟩ : ∃ k : Nat, i = k := ⟨i.toNat, by omega⟩
    by_cases h1 : k < l.length
    · have hc := hB.cell k h1
      have hd0 : decide ((0 : Int) ≤ (k : Int)) = true := by simp
      have hd1 : decide (k < l.length) = true := by simp [h1]
      go_enter Tryd.func31, Tryd.ntmps31
      go_wp2
      go_ret
      exact ⟨ret_bool (by simp), rfl⟩
    · have hd0 : decide ((0 : Int) ≤ (k : Int)) = true := by simp
      have hd1 : decide (k < l.length) = false := by simp; omega
      go_enter Tryd.func31, Tryd.ntmps31
      go_wp2
      go_ret
      exact ⟨ret_bool (by rw [Int.toNat_natCast, at_out (by omega)]; simp), rfl⟩
  · have hd0 : decide ((0 : Int) ≤ i) = false := by simp; omega
    go_enter Tryd.func31, Tryd.ntmps31
    go_wp2
    go_ret
    exact ⟨ret_bool (by simp), rfl⟩

set_option maxRecDepth 100000 in
set_option maxHeartbeats 800000 in
theorem ref_count {w : World} {g c : Nat} {l : List Bool} (hB : Bools w g l) (a b : Int) :
    Calls Tryd.prog 30 #[.slice (some ⟨g, 0, none⟩) l.length c, .int .i64 a, .int .i64 b] w fun e w' => e = .returned (.int .i64 (countL l a b : Nat)) ∧ w = w' := by
  have HB := hid hB
  have n2 := hB.n2
  clear hB
  go_enter Tryd.func30, Tryd.ntmps30
  go_wp2
  go_loop [7, 8] (fun n i => ∃ k : Nat, k ≤ l.length ∧ n = .int .i64 (countP_ l a b k : Nat) ∧ i = .int .i64 k) (fun _ i => l.length - (intOf i).toNat)
  case atStart => exact ⟨0, by omega, rfl, rfl⟩
  case round =>
    obtain ⟨k, hk, rfl, rfl⟩ := hrel
    have hle := countP_le l a b k
    by_cases hlt : k < l.length
    · have hc := HB.out.cell k hlt
      by_cases hin : a ≤ k ∧ (k : Int) < b
      · obtain ⟨h1, h2⟩ := hin
        cases hat : at_ l k with
        | true =>
          rw [hat] at hc
          have E := hid (countP_in ⟨h1, h2⟩ hat)
          clear hat
          go_wp2
          go_round
          case rel => exact ⟨k + 1, by omega, vint (by rw [E.out]; omega), by go_num⟩
          case measure => simp [intOf]; omega
        | false =>
          rw [hat] at hc
          have E := hid (countP_out (a := a) (b := b) (.inr hat))
          clear hat
          go_wp2
          go_round
          case rel => exact ⟨k + 1, by omega, vint (by rw [E.out]), by go_num⟩
          case measure => simp [intOf]; omega
      · have E := hid (countP_out (l := l) (.inl hin))
        by_cases h1 : a ≤ k
        · have h2 : b ≤ (k : Int) := by omega
          clear hin
          go_wp2
          go_round
          case rel => exact ⟨k + 1, by omega, vint (by rw [E.out]), by go_num⟩
          case measure => simp [intOf]; omega
        · clear hin
          go_wp2
          go_round
          case rel => exact ⟨k + 1, by omega, vint (by rw [E.out]), by go_num⟩
          case measure => simp [intOf]; omega
    · obtain rfl : k = l.length := by omega
      have E := hid (countP_end (l := l) (a := a) (b := b))
      go_wp2
      go_ret
      exact ⟨ret_int (by rw [E.out]), rfl⟩

set_option maxRecDepth 100000 in
set_option maxHeartbeats 800000 in
theorem ref_next {w : World} {g c : Nat} {l : List Bool} (hB : Bools w g l) (a : Int) :
    Calls Tryd.prog 24 #[.slice (some ⟨g, 0, none⟩) l.length c, .int .i64 a] w fun e w' =>
      e = .returned (.tuple #[.int .i64 (valN l.length (nextL l a)), .bool (decide (nextL l a < l.length))]) ∧ w = w' := by
  have HB := hid hB
  have n2 := hB.n2
  clear hB
  go_enter Tryd.func24, Tryd.ntmps24
  go_wp2
  go_loop [6] (fun i => ∃ k : Nat, k ≤ l.length ∧ Hid (∀ i, i < k → ¬ (at_ l i = true ∧ a ≤ i)) ∧ i = .int .i64 k) (fun i => l.length - (intOf i).toNat)
  case atStart => exact ⟨0, by omega, ⟨fun i h => by omega⟩, rfl⟩
  case round =>
    obtain ⟨k, hk, hno, rfl⟩ := hrel
    by_cases hlt : k < l.length
    · have hc := HB.out.cell k hlt
      by_cases hin : a ≤ k
      · cases hat : at_ l k with
        | true =>
          rw [hat] at hc
          have E := hid (nextL_at hno.out hat hin)
          clear hat hno
          go_wp2
          go_ret2
          exact ⟨ret2 (vint (by rw [valN_yes E.out.2, E.out.1])) (vbool (by simp [E.out.2])), rfl⟩
        | false =>
          rw [hat] at hc
          have E : Hid (∀ i, i < k + 1 → ¬ (at_ l i = true ∧ a ≤ i)) := ⟨fun i hi => by
            by_cases e : i = k
            · subst e; rw [hat]; simp
            · exact hno.out i (by omega)⟩
          clear hat hno
          go_wp2
          go_round
          case rel => exact ⟨k + 1, by omega, E, by go_num⟩
          case measure => simp [intOf]; omega
      · have E : Hid (∀ i, i < k + 1 → ¬ (at_ l i = true ∧ a ≤ i)) := ⟨fun i hi => by
          by_cases e : i = k
          · subst e; intro h; exact hin h.2
          · exact hno.out i (by omega)⟩
        clear hno
        go_wp2
        go_round
        case rel => exact ⟨k + 1, by omega, E, by go_num⟩
        case measure => simp [intOf]; omega
    · obtain rfl : k = l.length := by omega
      have E := hid (nextL_end hno.out)
      clear hno
      go_wp2
      go_ret2
      exact ⟨ret2 (vint (by rw [E.out, valN_no (by omega)])) (vbool (by rw [E.out]; simp)), rfl⟩

set_option maxRecDepth 100000 in
set_option maxHeartbeats 800000 in
theorem ref_last {w : World} {g c : Nat} {l : List Bool} (hB : Bools w g l) (b : Int) :
    Calls Tryd.prog 28 #[.slice (some ⟨g, 0, none⟩) l.length c, .int .i64 b] w fun e w' =>
      e = .returned (.tuple #[.int .i64 (valI (lastL l b)), .bool (decide (0 ≤ lastL l b))]) ∧ w = w' := by
  have HB := hid hB
  have n2 := hB.n2
  clear hB
  go_enter Tryd.func28, Tryd.ntmps28
  go_wp2
  go_loop [6] (fun i => ∃ k : Nat, k ≤ l.length ∧ Hid (∀ i : Nat, k ≤ i → ¬ (at_ l i = true ∧ (i : Int) < b)) ∧ i = .int .i64 ((k : Int) - 1)) (fun i => (intOf i + 1).toNat)
  case atStart => exact ⟨l.length, by omega, ⟨fun i h => by rw [at_out h]; simp⟩, rfl⟩
  case round =>
    obtain ⟨k', hk, hno, rfl⟩ := hrel
    cases k' with
    | zero =>
      have E := hid (lastL_end (fun i => hno.out i (by omega)))
      clear hno
      go_wp2
      go_ret2
      exact ⟨ret2 (vint (by rw [E.out]; rfl)) (vbool (by rw [E.out]; simp)), rfl⟩
    | succ k =>
      have hc := HB.out.cell k (by omega)
      rw [show ((k + 1 : Nat) : Int) - 1 = k by omega]
      by_cases hin : (k : Int) < b
      · cases hat : at_ l k with
        | true =>
          rw [hat] at hc
          have E := hid (lastL_at (fun i hi => hno.out i (by omega)) hat hin)
          clear hat hno
          go_wp2
          go_ret2
          exact ⟨ret2 (vint (by rw [E.out]; unfold valI; rw [if_pos (by omega)])) (vbool (by rw [E.out]; simp)), rfl⟩
        | false =>
          rw [hat] at hc
          have E : Hid (∀ i : Nat, k ≤ i → ¬ (at_ l i = true ∧ (i : Int) < b)) := ⟨fun i hi => by
            by_cases e : i = k
            · subst e; rw [hat]; simp
            · exact hno.out i (by omega)⟩
          clear hat hno
          go_wp2
          go_round
          case rel => exact ⟨k, by omega, E, by go_num⟩
          case measure => simp [intOf]
      · have E : Hid (∀ i : Nat, k ≤ i → ¬ (at_ l i = true ∧ (i : Int) < b)) := ⟨fun i hi => by
          by_cases e : i = k
          · subst e; intro h; exact hin h.2
          · exact hno.out i (by omega)⟩
        clear hno
        go_wp2
        go_round
        case rel => exact ⟨k, by omega, E, by go_num⟩
        case measure => simp [intOf]

set_option maxRecDepth 100000 in
set_option maxHeartbeats 800000 in
theorem ref_pick {w : World} {g c : Nat} {l : List Bool} (hB : Bools w g l) (q : Int) :
    Calls Tryd.prog 29 #[.slice (some ⟨g, 0, none⟩) l.length c, .int .i64 q] w fun e w' =>
      e = .returned (.tuple #[.int .i64 (pickV l q), .bool (pickB l q)]) ∧ w = w' := by
  have HB := hid hB
  have n2 := hB.n2
  clear hB
  go_enter Tryd.func29, Tryd.ntmps29
  go_wp2
  go_loop [6, 7] (fun n i => ∃ k : Nat, k ≤ l.length ∧ Hid (0 ≤ q → cnt (at_ l) k ≤ q.toNat) ∧ n = .int .i64 (cnt (at_ l) k : Nat) ∧ i = .int .i64 k) (fun _ i => l.length - (intOf i).toNat)
  case atStart => exact ⟨0, by omega, ⟨fun _ => by simp [cnt_zero]⟩, rfl, rfl⟩
  case round =>
    obtain ⟨k, hk, hno, rfl, rfl⟩ := hrel
    have hle := cnt_le (at_ l) k
    have E1 := hid (cnt_succ (at_ l) k)
    by_cases hlt : k < l.length
    · have hc := HB.out.cell k hlt
      cases hat : at_ l k with
      | true =>
        rw [hat] at hc
        by_cases hq : (cnt (at_ l) k : Int) = q
        · have E := hid (pickL_at (q := q.toNat) hat (by omega))
          have hq0 : 0 ≤ q := by omega
          clear hat hno
          go_wp2
          go_ret2
          exact ⟨ret2 (vint (by unfold pickV; rw [if_neg (by omega), valN_yes E.out.2, E.out.1])) (vbool (by unfold pickB; simp [E.out.2]; omega)), rfl⟩
        · have E : Hid (0 ≤ q → cnt (at_ l) (k + 1) ≤ q.toNat) := ⟨fun h => by have := hno.out h; have e := E1.out; rw [hat] at e; simp at e; omega⟩
          have E2 : cnt (at_ l) (k + 1) = cnt (at_ l) k + 1 := by have e := E1.out; rw [hat] at e; simpa using e
          have E2 := hid E2
          have hd : ((cnt (at_ l) k : Int) == q) = false := by simp [hq]
          clear hat hno
          go_wp2
          go_round
          case rel => exact ⟨k + 1, by omega, E, vint (by rw [E2.out]; omega), by go_num⟩
          case measure => simp [intOf]; omega
      | false =>
        rw [hat] at hc
        have E : Hid (0 ≤ q → cnt (at_ l) (k + 1) ≤ q.toNat) := ⟨fun h => by have := hno.out h; have e := E1.out; rw [hat] at e; simp at e; omega⟩
        have E2 : cnt (at_ l) (k + 1) = cnt (at_ l) k := by have e := E1.out; rw [hat] at e; simpa using e
        have E2 := hid E2
        clear hat hno
        go_wp2
        go_round
        case rel => exact ⟨k + 1, by omega, E, vint (by rw [E2.out]), by go_num⟩
        case measure => simp [intOf]; omega
    · obtain rfl : k = l.length := by omega
      have E := hid (fun h : 0 ≤ q => pickF_none (hno.out h))
      clear hno
      go_wp2
      go_ret2
      refine ⟨ret2 (vint ?_) (vbool ?_), rfl⟩
      · unfold pickV
        by_cases h : q < 0
        · rw [if_pos h]
        · rw [if_neg h]; unfold pickL; rw [E.out (by omega), valN_no (by omega)]
      · unfold pickB
        by_cases h : 0 ≤ q
        · unfold pickL; rw [E.out h]; simp
        · simp [h]

set_option maxRecDepth 100000 in
set_option maxHeartbeats 800000 in
theorem ref_lay {w : World} {g c : Nat} {l : List Bool} (hB : Bools w g l) (a b : Int) (x : Bool) :
    Calls Tryd.prog 81 #[.slice (some ⟨g, 0, none⟩) l.length c, .int .i64 a, .int .i64 b, .bool x] w fun e w' =>
      e = .returned (.int .i64 (chgL l a b x : Nat)) ∧ Touch (fun i => i = g) w w' ∧ Bools w' g (layL l a b x) := by
  have HB := hid hB
  have n2 := hB.n2
  clear hB
  go_enter Tryd.func81, Tryd.ntmps81
  go_wp2
  go_loopw [9, 10] (fun n i wr => ∃ k : Nat, k ≤ l.length ∧ Hid (Bools wr g (layP l a b x k)) ∧ Hid (Touch (fun i => i = g) w wr) ∧ n = .int .i64 (chgP l a b x k : Nat) ∧ i = .int .i64 k) (fun _ i _ => l.length - (intOf i).toNat)
  case atStart => exact ⟨0, by omega, ⟨by rw [layP_zero]; exact HB.out⟩, ⟨Touch.refl _ _⟩, rfl, rfl⟩
  case round =>
    obtain ⟨k, hk, hB, hT, rfl, rfl⟩ := hrel
    have hle := chgP_le l a b x k
    by_cases hlt : k < l.length
    · have hc := hB.out.cell k (by rw [layP_len]; exact hlt)
      rw [layP_now (Nat.le_refl k)] at hc
      have hf := hB.out.free k
      by_cases hin : a ≤ k ∧ (k : Int) < b
      · by_cases hat : at_ l k = x
        · have E := hid (chgP_out (a := a) (b := b) (.inr hat))
          have E2 := hid (layP_out (a := a) (b := b) (.inr hat))
          rw [hat] at hc
          obtain ⟨h1, h2⟩ := hin
          clear hat
          go_wp2
          go_roundw
          case rel => exact ⟨k + 1, by omega, ⟨by rw [E2.out]; exact hB.out⟩, hT, vint (by rw [E.out]), by go_num⟩
          case measure => simp [intOf]; omega
        · have E := hid (chgP_in hin hat)
          have E2 := hid (layP_in (x := x) hlt hin)
          have hnx : at_ l k = !x := by cases h : at_ l k <;> cases x <;> simp_all
          rw [hnx] at hc
          have HS := hid (hB.out.set k (by rw [layP_len]; exact hlt) (by rw [layP_len, layP_len]) E2.out.1 E2.out.2.symm)
          obtain ⟨h1, h2⟩ := hin
          clear hat hnx
          go_wp2
          go_roundw
          case rel => exact ⟨k + 1, by omega, ⟨HS.out.1⟩, ⟨hT.out.trans HS.out.2⟩, vint (by rw [E.out]; omega), by go_num⟩
          case measure => simp [intOf]; omega
      · have E := hid (chgP_out (l := l) (x := x) (.inl hin))
        have E2 := hid (layP_out (l := l) (x := x) (.inl hin))
        by_cases h1 : a ≤ k
        · have h2 : b ≤ (k : Int) := by omega
          clear hin
          go_wp2
          go_roundw
          case rel => exact ⟨k + 1, by omega, ⟨by rw [E2.out]; exact hB.out⟩, hT, vint (by rw [E.out]), by go_num⟩
          case measure => simp [intOf]; omega
        · clear hin
          go_wp2
          go_roundw
          case rel => exact ⟨k + 1, by omega, ⟨by rw [E2.out]; exact hB.out⟩, hT, vint (by rw [E.out]), by go_num⟩
          case measure => simp [intOf]; omega
    · obtain rfl : k = l.length := by omega
      have E := hid (chgP_end (l := l) (a := a) (b := b) (x := x))
      go_wp2
      go_ret
      exact ⟨ret_int (by rw [E.out]), hT.out, by rw [← layP_end]; exact hB.out⟩
end Go.Proofs.YtlbbkpjfoabobaaDoor
