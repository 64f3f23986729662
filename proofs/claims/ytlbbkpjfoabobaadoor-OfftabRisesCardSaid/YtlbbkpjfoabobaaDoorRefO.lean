/- The reference's loops over a row of bools that came in: at any offset. -/
import Derived.Test.YtlbbkpjfoabobaaDoorRef12
namespace Go.Proofs.YtlbbkpjfoabobaaDoor
open Go.RowKit Word

/-- A row of the bools l in block g, from cell o on. -/
structure BoolsO (w : World) (g o : Nat) (l : List Bool) : Prop where
  lt : g < w.heap.size
  n2 : l.length ≤ 1048576
  cell : ∀ i, i < l.length → w.cell? ⟨g, o + i, none⟩ = some (.bool (at_ l i))
theorem BoolsO.touch {S : Nat → Prop} {w w' : World} {g o : Nat} {l : List Bool} (h : BoolsO w g o l) (t : Touch S w w') (hS : ¬ S g) : BoolsO w' g o l :=
  ⟨Nat.lt_of_lt_of_le h.lt t.size, h.n2, fun i hi => by rw [t.cell h.lt hS]; exact h.cell i hi⟩
theorem BoolsO.gr {w w' : World} {g o : Nat} {l : List Bool} (h : BoolsO w g o l) (t : Gr w w') : BoolsO w' g o l := h.touch (t.touch (fun _ => False)) (fun h => h)
set_option maxRecDepth 100000 in
set_option maxHeartbeats 800000 in
theorem ref_countO {w : World} {g o c : Nat} {l : List Bool} (hB : BoolsO w g o l) (a b : Int) :
    Calls Tryd.prog 30 #[.slice (some ⟨g, o, none⟩) l.length c, .int .i64 a, .int .i64 b] w fun e w' => e = .returned (.int .i64 (countL l a b : Nat)) ∧ w = w' := by
  have HB := hid hB
  have n2 := hB.n2
  clear hB
  go_enter Tryd.func30, Tryd.ntmps30
  go_wp2
  go_loop [7, 8] (fun n i => ∃ k : Nat, k ≤ l.length ∧ n = .int .i64 (countP_ l a b k : Nat) ∧ i = .int .i64 k) (fun _ i => l.length - (intOf i).toNat)
  case atStart => exact ⟨0, by omega, rfl, rfl⟩
  case round =>
    obtain ⟨k, hk, rfl, rfl⟩ := hrel
    have hle := countP_le l a b k
    by_cases hlt : k < l.length
    · have hc := HB.out.cell k hlt
      by_cases hin : a ≤ k ∧ (k : Int) < b
      · obtain ⟨h1, h2⟩ := hin
        cases hat : at_ l k with
        | true =>
          rw [hat] at hc
          have E := hid (countP_in ⟨h1, h2⟩ hat)
          clear hat
          go_wp2
          go_round
          case rel => exact ⟨k + 1, by omega, vint (by rw [E.out]; omega), by go_num⟩
          case measure => simp [intOf]; omega
        | false =>
          rw [hat] at hc
          have E := hid (countP_out (a := a) (b := b) (.inr hat))
          clear hat
          go_wp2
          go_round
          case rel => exact ⟨k + 1, by omega, vint (by rw [E.out]), by go_num⟩
          case measure => simp [intOf]; omega
      · have E := hid (countP_out (l := l) (.inl hin))
        by_cases h1 : a ≤ k
        · have h2 : b ≤ (k : Int) := by omega
          clear hin
          go_wp2
          go_round
          case rel => exact ⟨k + 1, by omega, vint (by rw [E.out]), by go_num⟩
          case measure => simp [intOf]; omega
        · clear hin
          go_wp2
          go_round
          case rel => exact ⟨k + 1, by omega, vint (by rw [E.out]), by go_num⟩
          case measure => simp [intOf]; omega
    · obtain rfl : k = l.length := by omega
      have E := hid (countP_end (l := l) (a := a) (b := b))
      go_wp2
      go_ret
      exact ⟨ret_int (by rw [E.out]), rfl⟩

set_option maxRecDepth 100000 in
set_option maxHeartbeats 800000 in
theorem ref_pickO {w : World} {g o c : Nat} {l : List Bool} (hB : BoolsO w g o l) (q : Int) :
    Calls Tryd.prog 29 #[.slice (some ⟨g, o, none⟩) l.length c, .int .i64 q] w fun e w' =>
      e = .returned (.tuple #[.int .i64 (pickV l q), .bool (pickB l q)]) ∧ w = w' := by
  have HB := hid hB
  have n2 := hB.n2
  clear hB
  go_enter Tryd.func29, Tryd.ntmps29
  go_wp2
  go_loop [6, 7] (fun n i => ∃ k : Nat, k ≤ l.length ∧ Hid (0 ≤ q → cnt (at_ l) k ≤ q.toNat) ∧ n = .int .i64 (cnt (at_ l) k : Nat) ∧ i = .int .i64 k) (fun _ i => l.length - (intOf i).toNat)
  case atStart => exact ⟨0, by omega, ⟨fun _ => by simp [cnt_zero]⟩, rfl, rfl⟩
  case round =>
    obtain ⟨k, hk, hno, rfl, rfl⟩ := hrel
    have hle := cnt_le (at_ l) k
    have E1 := hid (cnt_succ (at_ l) k)
    by_cases hlt : k < l.length
    · have hc := HB.out.cell k hlt
      cases hat : at_ l k with
      | true =>
        rw [hat] at hc
        by_cases hq : (cnt (at_ l) k : Int) = q
        · have E := hid (pickL_at (q := q.toNat) hat (by omega))
          have hq0 : 0 ≤ q := by omega
          clear hat hno
          go_wp2
          go_ret2
          exact ⟨ret2 (vint (by unfold pickV; rw [if_neg (by omega), valN_yes E.out.2, E.out.1])) (vbool (by unfold pickB; simp [E.out.2]; omega)), rfl⟩
        · have E : Hid (0 ≤ q → cnt (at_ l) (k + 1) ≤ q.toNat) := ⟨fun h => by have := hno.out h; have e := E1.out; rw [hat] at e; simp at e; omega⟩
          have E2 : cnt (at_ l) (k + 1) = cnt (at_ l) k + 1 := by have e := E1.out; rw [hat] at e; simpa using e
          have E2 := hid E2
          have hd : ((cnt (at_ l) k : Int) == q) = false := by simp [hq]
          clear hat hno
          go_wp2
          go_round
          case rel => exact ⟨k + 1, by omega, E, vint (by rw [E2.out]; omega), by go_num⟩
          case measure => simp [intOf]; omega
      | false =>
        rw [hat] at hc
        have E : Hid (0 ≤ q → cnt (at_ l) (k + 1) ≤ q.toNat) := ⟨fun h => by have := hno.out h; have e := E1.out; rw [hat] at e; simp at e; omega⟩
        have E2 : cnt (at_ l) (k + 1) = cnt (at_ l) k := by have e := E1.out; rw [hat] at e; simpa using e
        have E2 := hid E2
        clear hat hno
        go_wp2
        go_round
        case rel => exact ⟨k + 1, by omega, E, vint (by rw [E2.out]), by go_num⟩
        case measure => simp [intOf]; omega
    · obtain rfl : k = l.length := by omega
      have E := hid (fun h : 0 ≤ q => pickF_none (hno.out h))
      clear hno
      go_wp2
      go_ret2
      refine ⟨ret2 (vint ?_) (vbool ?_), rfl⟩
      · unfold pickV
        by_cases h : q < 0
        · rw [if_pos h]
        · rw [if_neg h]; unfold pickL; rw [E.out (by omega), valN_no (by omega)]
      · unfold pickB
        by_cases h : 0 ≤ q
        · unfold pickL; rw [E.out h]; simp
        · simp [h]

set_option maxRecDepth 100000 in
set_option maxHeartbeats 800000 in
theorem ref_aheadO {w : World} {g o c : Nat} {l : List Bool} (hB : BoolsO w g o l) (B : Nat) (h1 : 1 ≤ B) (h2 : B ≤ 1024) (b : Int) :
    Calls Tryd.prog 49 #[.slice (some ⟨g, o, none⟩) l.length c, .int .i64 B, .int .i64 b] w fun e w' => e = .returned (.tuple #[.int .i64 (aheadV l B b), .int .i64 (aheadE l.length B b)]) ∧ w = w' := by
  have n2 := hB.n2
  have HB := hid hB
  clear hB
  by_cases h0 : b < 0
  · have d0 : decide (b < 0) = true := by simp [h0]
    have e1 : aheadV l B b = 0 := by unfold aheadV; rw [if_pos (.inl h0)]
    have e2 : aheadE l.length B b = 11 := by unfold aheadE; rw [if_pos (.inl h0)]
    rw [e1, e2]
    go_enter Tryd.func49, Tryd.ntmps49
    go_wp2
    go_ret2
    exact ⟨ret2 rfl rfl, rfl⟩
  · obtain ⟨j, rfl⟩ : ∃ j : Nat, b = j := ⟨b.toNat, by omega⟩
    obtain ⟨N, hN⟩ : ∃ N, N = nbl l.length B := ⟨_, rfl⟩
    have d0 : decide ((j : Int) < 0) = false := by simp
    by_cases hj : N ≤ j
    · have e1 : aheadV l B j = 0 := by unfold aheadV; rw [if_pos (by omega)]
      have e2 : aheadE l.length B j = 11 := by unfold aheadE; rw [if_pos (by omega)]
      rw [e1, e2]
      have HN := hid hN
      have d1 : decide (N ≤ j) = true := by simp [hj]
      clear hN
      go_enter Tryd.func49, Tryd.ntmps49
      go_wp2_with (go_at_call 51; refine (ref_blocks n2 B h1 h2 _).mono ?_; rintro e w1 ⟨rfl, rfl⟩; rw [← HN.out])
      go_ret2
      exact ⟨ret2 rfl rfl, rfl⟩
    · have e1 : aheadV l B j = (countL l 0 ((j : Int) * B) : Nat) := by unfold aheadV; rw [if_neg (by omega)]
      have e2 : aheadE l.length B j = 0 := by unfold aheadE; rw [if_neg (by omega)]
      have hjb : j * B < l.length := (nbl_lt h1).1 (by omega)
      obtain ⟨t, ht⟩ : ∃ t, t = j * B := ⟨_, rfl⟩
      have ht' : (j : Int) * (B : Int) = (t : Int) := by rw [ht]; push_cast; rfl
      rw [e1, e2, ht']
      have HN := hid hN
      have d1 : decide (N ≤ j) = false := by simp; omega
      have htl : (t : Int) ≤ 1048576 := by omega
      clear hN ht hjb
      go_enter Tryd.func49, Tryd.ntmps49
      go_wp2_with (first
        | (go_at_call 51; refine (ref_blocks n2 B h1 h2 _).mono ?_; rintro e w1 ⟨rfl, rfl⟩; rw [← HN.out])
        | (go_at_call 30; first | rw [ht'] | skip; refine (ref_countO HB.out _ _).mono ?_; rintro e w1 ⟨rfl, rfl⟩))
      go_ret2
      exact ⟨ret2 (by first | rfl | rw [ht']) rfl, rfl⟩
end Go.Proofs.YtlbbkpjfoabobaaDoor
