/- Package header. -/
import Derived.Test.YtlkifhoedfjlaaaGreatDoorK5
namespace Go.Proofs.YtlkifhoedfjlaaaGreatDoor
open Go.RowKit Word

/-- A header: pointers, floats, words. -/
structure Hdr where
  p : Int
  f : Int
  k : Int
def hdrV (h : Hdr) : Value := .agg #[.int .i64 h.p, .int .i64 h.f, .int .i64 h.k]
def inS (x : Int) : Bool := decide (0 ≤ x ∧ x < 256)
def hdrE (h : Hdr) : Int := if inS h.p && inS h.f && inS h.k && decide (h.p + h.f + h.k < 256) then 0 else 15
def hdrN (h : Hdr) : Int := if hdrE h = 0 then 1 + h.p + h.f + h.k else 0
theorem inS_cut (x : Int) : (decide (x < 0) = true ∧ inS x = false) ∨ (decide (x < 0) = false ∧ decide (256 ≤ x) = true ∧ inS x = false) ∨ (decide (x < 0) = false ∧ decide (256 ≤ x) = false ∧ inS x = true) := by
  unfold inS
  by_cases h0 : x < 0
  · exact .inl ⟨decide_eq_true h0, decide_eq_false (by omega)⟩
  · by_cases h1 : 256 ≤ x
    · exact .inr (.inl ⟨decide_eq_false h0, decide_eq_true h1, decide_eq_false (by omega)⟩)
    · exact .inr (.inr ⟨decide_eq_false h0, decide_eq_false h1, decide_eq_true (by omega)⟩)
theorem hdrE_zero {h : Hdr} (he : hdrE h = 0) : ∃ a b c : Nat, h = ⟨a, b, c⟩ ∧ a + b + c ≤ 255 := by
  unfold hdrE inS at he
  split at he
  · rename_i hh
    simp only [Bool.and_eq_true, decide_eq_true_eq] at hh
    obtain ⟨p, f, k⟩ := h
    simp only at hh
    exact ⟨p.toNat, f.toNat, k.toNat, by congr <;> omega, by omega⟩
  · cases he
theorem hdrE_of {a b c : Nat} (h : a + b + c ≤ 255) : hdrE ⟨a, b, c⟩ = 0 := by
  unfold hdrE inS
  simp only []
  rw [decide_eq_true (by omega), decide_eq_true (by omega), decide_eq_true (by omega), decide_eq_true (by omega)]
  rfl
theorem hdrE_two (h : Hdr) : hdrE h = 0 ∨ hdrE h = 15 := by unfold hdrE; split <;> simp
section
variable {w : World}
set_option maxRecDepth 100000 in
set_option maxHeartbeats 1600000 in
theorem hdr_check (h : Hdr) (w : World) : Calls Tryz.prog 48 #[hdrV h] w fun e w' => e = .returned (.int .i64 (hdrE h)) ∧ Gr w w' := by
  obtain ⟨p, f, k⟩ := h
  unfold hdrV
  simp only []
  have HE : Hid (hdrE ⟨p, f, k⟩ = if inS p && inS f && inS k && decide (p + f + k < 256) then 0 else 15) := ⟨rfl⟩
  have HN : ∀ x, x = p ∨ x = f ∨ x = k → Hid (inS x = false → hdrE ⟨p, f, k⟩ = 15) := fun x hx => ⟨fun h0 => by
    rw [HE.out]
    rcases hx with rfl | rfl | rfl <;> rw [h0] <;> simp⟩
  have HY : Hid (inS p = true → inS f = true → inS k = true → hdrE ⟨p, f, k⟩ = if p + f + k < 256 then 0 else 15) := ⟨fun a b c => by
    rw [HE.out, a, b, c]
    by_cases h : p + f + k < 256 <;> simp [h]⟩
  have H0 := HN p (.inl rfl)
  have H1 := HN f (.inr (.inl rfl))
  have H2 := HN k (.inr (.inr rfl))
  clear HN
  obtain ⟨E, hE⟩ : ∃ E, E = hdrE ⟨p, f, k⟩ := ⟨_, rfl⟩
  rw [← hE] at H0 H1 H2 HY HE ⊢
  clear hE
  have i0 : ∀ W, (Instr.index 147 (.agg #[.int .i64 p, .int .i64 f, .int .i64 k]) (.int .i64 0)).run Tryz.prog W = .ok (.int .i64 p) W := fun _ => by kernel_rfl
  have i1 : ∀ W, (Instr.index 147 (.agg #[.int .i64 p, .int .i64 f, .int .i64 k]) (.int .i64 1)).run Tryz.prog W = .ok (.int .i64 f) W := fun _ => by kernel_rfl
  have i2 : ∀ W, (Instr.index 147 (.agg #[.int .i64 p, .int .i64 f, .int .i64 k]) (.int .i64 2)).run Tryz.prog W = .ok (.int .i64 k) W := fun _ => by kernel_rfl
  go_enter Tryz.func48, Tryz.ntmps48
  go_wp2
  go_loop [12] (fun i => ∃ j : Nat, j ≤ 3 ∧ i = .int .i64 j ∧ Hid ((1 ≤ j → inS p = true) ∧ (2 ≤ j → inS f = true) ∧ (3 ≤ j → inS k = true))) (fun i => 3 - (intOf i).toNat)
  case atStart => exact ⟨0, by omega, rfl, ⟨fun h => by omega, fun h => by omega, fun h => by omega⟩⟩
  case round =>
    obtain ⟨j, hj, rfl, HJ⟩ := hrel
    rcases (by omega : j = 0 ∨ j = 1 ∨ j = 2 ∨ j = 3) with rfl | rfl | rfl | rfl
    · rcases inS_cut p with ⟨p0, E1⟩ | ⟨p0, p1, E1⟩ | ⟨p0, p1, E1⟩
      · have E1 := hid E1
        go_wp2
        go_ret
        exact ⟨ret_int (H0.out E1.out).symm, (Gr.refl w).alloc _⟩
      · have E1 := hid E1
        go_wp2
        go_ret
        exact ⟨ret_int (H0.out E1.out).symm, (Gr.refl w).alloc _⟩
      · have E1 := hid E1
        go_wp2
        go_round
        case rel => exact ⟨1, by omega, by go_num, ⟨fun _ => E1.out, fun h => by omega, fun h => by omega⟩⟩
        case measure => simp [intOf]
    · rcases inS_cut f with ⟨p0, E1⟩ | ⟨p0, p1, E1⟩ | ⟨p0, p1, E1⟩
      · have E1 := hid E1
        go_wp2
        go_ret
        exact ⟨ret_int (H1.out E1.out).symm, (Gr.refl w).alloc _⟩
      · have E1 := hid E1
        go_wp2
        go_ret
        exact ⟨ret_int (H1.out E1.out).symm, (Gr.refl w).alloc _⟩
      · have E1 := hid E1
        go_wp2
        go_round
        case rel => exact ⟨2, by omega, by go_num, ⟨fun _ => HJ.out.1 (by omega), fun _ => E1.out, fun h => by omega⟩⟩
        case measure => simp [intOf]
    · rcases inS_cut k with ⟨p0, E1⟩ | ⟨p0, p1, E1⟩ | ⟨p0, p1, E1⟩
      · have E1 := hid E1
        go_wp2
        go_ret
        exact ⟨ret_int (H2.out E1.out).symm, (Gr.refl w).alloc _⟩
      · have E1 := hid E1
        go_wp2
        go_ret
        exact ⟨ret_int (H2.out E1.out).symm, (Gr.refl w).alloc _⟩
      · have E1 := hid E1
        go_wp2
        go_round
        case rel => exact ⟨3, by omega, by go_num, ⟨fun _ => HJ.out.1 (by omega), fun _ => HJ.out.2.1 (by omega), fun _ => E1.out⟩⟩
        case measure => simp [intOf]
    · have j1 := HJ.out.1 (by omega)
      have j2 := HJ.out.2.1 (by omega)
      have j3 := HJ.out.2.2 (by omega)
      have HZ := hid (HY.out j1 j2 j3)
      unfold inS at j1 j2 j3
      simp only [decide_eq_true_eq] at j1 j2 j3
      clear i0 i1 i2
      by_cases hs : p + f + k < 256
      · have d0 : decide (256 ≤ p + f + k) = false := decide_eq_false (by omega)
        have HS := hid hs
        clear hs
        go_wp2
        go_ret
        exact ⟨ret_int (by rw [HZ.out, if_pos HS.out]), (Gr.refl w).alloc _⟩
      · have d0 : decide (256 ≤ p + f + k) = true := decide_eq_true (by omega)
        have HS := hid hs
        clear hs
        go_wp2
        go_ret
        exact ⟨ret_int (by rw [HZ.out, if_neg (by have := HS.out; omega)]), (Gr.refl w).alloc _⟩
set_option maxRecDepth 100000 in
set_option maxHeartbeats 1600000 in
theorem hdr_size (h : Hdr) (w : World) : Calls Tryz.prog 18 #[hdrV h] w fun e w' => e = .returned (.int .i64 (hdrN h)) ∧ Gr w w' := by
  have HC := hid (fun W => hdr_check h W)
  rcases hdrE_two h with he | he
  · obtain ⟨a, b, c, rfl, hs⟩ := hdrE_zero he
    have HE := hid he
    have HN : Hid (hdrN ⟨a, b, c⟩ = 1 + (a : Int) + b + c) := ⟨if_pos he⟩
    unfold hdrV at HC ⊢
    clear he
    go_enter Tryz.func18, Tryz.ntmps18
    go_wp2_with (go_at_call 48; refine (HC.out _).mono ?_; rintro e w1 ⟨rfl, hg1⟩; rw [HE.out]; have hl := (Gr.refl w).alloc (.cells #[.int .i64 a, .int .i64 b, .int .i64 c] 52); have k0 := (hg1.cell (b := w.heap.size) (by simp) 0).trans (World.cell?_alloc_at _ _ _ 0 rfl); have k1 := (hg1.cell (b := w.heap.size) (by simp) 1).trans (World.cell?_alloc_at _ _ _ 1 rfl); have k2 := (hg1.cell (b := w.heap.size) (by simp) 2).trans (World.cell?_alloc_at _ _ _ 2 rfl); have HG1 := hid (hl.trans hg1); clear hg1 hl)
    go_ret
    exact ⟨ret_int (by rw [HN.out]), HG1.out⟩
  · have HE := hid he
    have HN : Hid (hdrN h = 0) := ⟨if_neg (by rw [he]; decide)⟩
    unfold hdrV at HC ⊢
    clear he
    go_enter Tryz.func18, Tryz.ntmps18
    go_wp2_with (go_at_call 48; refine (HC.out _).mono ?_; rintro e w1 ⟨rfl, hg1⟩; rw [HE.out]; have HG1 := hid (((Gr.refl w).alloc _).trans hg1); clear hg1)
    go_ret
    exact ⟨ret_int (by rw [HN.out]), HG1.out⟩
end
end Go.Proofs.YtlkifhoedfjlaaaGreatDoor
