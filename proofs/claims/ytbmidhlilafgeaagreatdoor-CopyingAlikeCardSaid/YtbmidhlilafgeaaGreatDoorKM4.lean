/- Package header. Package header: Kind, Put, Take. Package object: Read, place, get, Pointer over a paged memory. Package object: place, get, Pointer over a paged memory. -/
import Derived.Test.YtbmidhlilafgeaaGreatDoorK5
import Derived.Test.YtbmidhlilafgeaaGreatDoorKM1
import Derived.Laws.BitsAllLaws
import Derived.Laws.Bits64b
import Derived.Test.YtbmidhlilafgeaaGreatDoorKM3
section
namespace Go.Proofs.YtbmidhlilafgeaaGreatDoor
open Go.RowKit Word

/-- A header: pointers, floats, words. -/
structure Hdr where
  p : Int
  f : Int
  k : Int
def hdrV (h : Hdr) : Value := .agg #[.int .i64 h.p, .int .i64 h.f, .int .i64 h.k]
def inS (x : Int) : Bool := decide (0 ≤ x ∧ x < 256)
def hdrE (h : Hdr) : Int := if inS h.p && inS h.f && inS h.k && decide (h.p + h.f + h.k < 256) then 0 else 15
def hdrN (h : Hdr) : Int := if hdrE h = 0 then 1 + h.p + h.f + h.k else 0
theorem inS_cut (x : Int) : (decide (x < 0) = true ∧ inS x = false) ∨ (decide (x < 0) = false ∧ decide (256 ≤ x) = true ∧ inS x = false) ∨ (decide (x < 0) = false ∧ decide (256 ≤ x) = false ∧ inS x = true) := by
  unfold inS
  by_cases h0 : x < 0
  · exact .inl ⟨decide_eq_true h0, decide_eq_false (by omega)⟩
  · by_cases h1 : 256 ≤ x
    · exact .inr (.inl ⟨decide_eq_false h0, decide_eq_true h1, decide_eq_false (by omega)⟩)
    · exact .inr (.inr ⟨decide_eq_false h0, decide_eq_false h1, decide_eq_true (by omega)⟩)
theorem hdrE_zero {h : Hdr} (he : hdrE h = 0) : ∃ a b c : Nat, h = ⟨a, b, c⟩ ∧ a + b + c ≤ 255 := by
  unfold hdrE inS at he
  split at he
  · rename_i hh
    simp only [Bool.and_eq_true, decide_eq_true_eq] at hh
    obtain ⟨p, f, k⟩ := h
    simp only at hh
    exact ⟨p.toNat, f.toNat, k.toNat, by congr <;> omega, by omega⟩
  · cases he
theorem hdrE_of {a b c : Nat} (h : a + b + c ≤ 255) : hdrE ⟨a, b, c⟩ = 0 := by
  unfold hdrE inS
  simp only []
  rw [decide_eq_true (by omega), decide_eq_true (by omega), decide_eq_true (by omega), decide_eq_true (by omega)]
  rfl
theorem hdrE_two (h : Hdr) : hdrE h = 0 ∨ hdrE h = 15 := by unfold hdrE; split <;> simp
section
variable {w : World}
set_option maxRecDepth 100000 in
set_option maxHeartbeats 1600000 in
theorem hdr_check (h : Hdr) (w : World) : Calls Tryz.prog 118 #[hdrV h] w fun e w' => e = .returned (.int .i64 (hdrE h)) ∧ Gr w w' := by
  obtain ⟨p, f, k⟩ := h
  unfold hdrV
  simp only []
  have HE : Hid (hdrE ⟨p, f, k⟩ = if inS p && inS f && inS k && decide (p + f + k < 256) then 0 else 15) := ⟨rfl⟩
  have HN : ∀ x, x = p ∨ x = f ∨ x = k → Hid (inS x = false → hdrE ⟨p, f, k⟩ = 15) := fun x hx => ⟨fun h0 => by
    rw [HE.out]
    rcases hx with rfl | rfl | rfl <;> rw [h0] <;> simp⟩
  have HY : Hid (inS p = true → inS f = true → inS k = true → hdrE ⟨p, f, k⟩ = if p + f + k < 256 then 0 else 15) := ⟨fun a b c => by
    rw [HE.out, a, b, c]
    by_cases h : p + f + k < 256 <;> simp [h]⟩
  have H0 := HN p (.inl rfl)
  have H1 := HN f (.inr (.inl rfl))
  have H2 := HN k (.inr (.inr rfl))
  clear HN
  obtain ⟨E, hE⟩ : ∃ E, E = hdrE ⟨p, f, k⟩ := ⟨_, rfl⟩
  rw [← hE] at H0 H1 H2 HY HE ⊢
  clear hE
  have i0 : ∀ W, (Instr.index 157 (.agg #[.int .i64 p, .int .i64 f, .int .i64 k]) (.int .i64 0)).run Tryz.prog W = .ok (.int .i64 p) W := fun _ => by kernel_rfl
  have i1 : ∀ W, (Instr.index 157 (.agg #[.int .i64 p, .int .i64 f, .int .i64 k]) (.int .i64 1)).run Tryz.prog W = .ok (.int .i64 f) W := fun _ => by kernel_rfl
  have i2 : ∀ W, (Instr.index 157 (.agg #[.int .i64 p, .int .i64 f, .int .i64 k]) (.int .i64 2)).run Tryz.prog W = .ok (.int .i64 k) W := fun _ => by kernel_rfl
  go_enter Tryz.func118, Tryz.ntmps118
  go_wp2
  go_loop [12] (fun i => ∃ j : Nat, j ≤ 3 ∧ i = .int .i64 j ∧ Hid ((1 ≤ j → inS p = true) ∧ (2 ≤ j → inS f = true) ∧ (3 ≤ j → inS k = true))) (fun i => 3 - (intOf i).toNat)
  case atStart => exact ⟨0, by omega, rfl, ⟨fun h => by omega, fun h => by omega, fun h => by omega⟩⟩
  case round =>
    obtain ⟨j, hj, rfl, HJ⟩ := hrel
    rcases (by omega : j = 0 ∨ j = 1 ∨ j = 2 ∨ j = 3) with rfl | rfl | rfl | rfl
    · rcases inS_cut p with ⟨p0, E1⟩ | ⟨p0, p1, E1⟩ | ⟨p0, p1, E1⟩
      · have E1 := hid E1
        go_wp2
        go_ret
        exact ⟨ret_int (H0.out E1.out).symm, (Gr.refl w).alloc _⟩
      · have E1 := hid E1
        go_wp2
        go_ret
        exact ⟨ret_int (H0.out E1.out).symm, (Gr.refl w).alloc _⟩
      · have E1 := hid E1
        go_wp2
        go_round
        case rel => exact ⟨1, by omega, by go_num, ⟨fun _ => E1.out, fun h => by omega, fun h => by omega⟩⟩
        case measure => simp [intOf]
    · rcases inS_cut f with ⟨p0, E1⟩ | ⟨p0, p1, E1⟩ | ⟨p0, p1, E1⟩
      · have E1 := hid E1
        go_wp2
        go_ret
        exact ⟨ret_int (H1.out E1.out).symm, (Gr.refl w).alloc _⟩
      · have E1 := hid E1
        go_wp2
        go_ret
        exact ⟨ret_int (H1.out E1.out).symm, (Gr.refl w).alloc _⟩
      · have E1 := hid E1
        go_wp2
        go_round
        case rel => exact ⟨2, by omega, by go_num, ⟨fun _ => HJ.out.1 (by omega), fun _ => E1.out, fun h => by omega⟩⟩
        case measure => simp [intOf]
    · rcases inS_cut k with ⟨p0, E1⟩ | ⟨p0, p1, E1⟩ | ⟨p0, p1, E1⟩
      · have E1 := hid E1
        go_wp2
        go_ret
        exact ⟨ret_int (H2.out E1.out).symm, (Gr.refl w).alloc _⟩
      · have E1 := hid E1
        go_wp2
        go_ret
        exact ⟨ret_int (H2.out E1.out).symm, (Gr.refl w).alloc _⟩
      · have E1 := hid E1
        go_wp2
        go_round
        case rel => exact ⟨3, by omega, by go_num, ⟨fun _ => HJ.out.1 (by omega), fun _ => HJ.out.2.1 (by omega), fun _ => E1.out⟩⟩
        case measure => simp [intOf]
    · have j1 := HJ.out.1 (by omega)
      have j2 := HJ.out.2.1 (by omega)
      have j3 := HJ.out.2.2 (by omega)
      have HZ := hid (HY.out j1 j2 j3)
      unfold inS at j1 j2 j3
      simp only [decide_eq_true_eq] at j1 j2 j3
      clear i0 i1 i2
      by_cases hs : p + f + k < 256
      · have d0 : decide (256 ≤ p + f + k) = false := decide_eq_false (by omega)
        have HS := hid hs
        clear hs
        go_wp2
        go_ret
        exact ⟨ret_int (by rw [HZ.out, if_pos HS.out]), (Gr.refl w).alloc _⟩
      · have d0 : decide (256 ≤ p + f + k) = true := decide_eq_true (by omega)
        have HS := hid hs
        clear hs
        go_wp2
        go_ret
        exact ⟨ret_int (by rw [HZ.out, if_neg (by have := HS.out; omega)]), (Gr.refl w).alloc _⟩
set_option maxRecDepth 100000 in
set_option maxHeartbeats 1600000 in
theorem hdr_size (h : Hdr) (w : World) : Calls Tryz.prog 55 #[hdrV h] w fun e w' => e = .returned (.int .i64 (hdrN h)) ∧ Gr w w' := by
  have HC := hid (fun W => hdr_check h W)
  rcases hdrE_two h with he | he
  · obtain ⟨a, b, c, rfl, hs⟩ := hdrE_zero he
    have HE := hid he
    have HN : Hid (hdrN ⟨a, b, c⟩ = 1 + (a : Int) + b + c) := ⟨if_pos he⟩
    unfold hdrV at HC ⊢
    clear he
    go_enter Tryz.func55, Tryz.ntmps55
    go_wp2_with (go_at_call 118; refine (HC.out _).mono ?_; rintro e w1 ⟨rfl, hg1⟩; rw [HE.out]; have hl := (Gr.refl w).alloc (.cells #[.int .i64 a, .int .i64 b, .int .i64 c] 90); have k0 := (hg1.cell (b := w.heap.size) (by simp) 0).trans (World.cell?_alloc_at _ _ _ 0 rfl); have k1 := (hg1.cell (b := w.heap.size) (by simp) 1).trans (World.cell?_alloc_at _ _ _ 1 rfl); have k2 := (hg1.cell (b := w.heap.size) (by simp) 2).trans (World.cell?_alloc_at _ _ _ 2 rfl); have HG1 := hid (hl.trans hg1); clear hg1 hl)
    go_ret
    exact ⟨ret_int (by rw [HN.out]), HG1.out⟩
  · have HE := hid he
    have HN : Hid (hdrN h = 0) := ⟨if_neg (by rw [he]; decide)⟩
    unfold hdrV at HC ⊢
    clear he
    go_enter Tryz.func55, Tryz.ntmps55
    go_wp2_with (go_at_call 118; refine (HC.out _).mono ?_; rintro e w1 ⟨rfl, hg1⟩; rw [HE.out]; have HG1 := hid (((Gr.refl w).alloc _).trans hg1); clear hg1)
    go_ret
    exact ⟨ret_int (by rw [HN.out]), HG1.out⟩
end
end Go.Proofs.YtbmidhlilafgeaaGreatDoor
end

section
namespace Go.Proofs.YtbmidhlilafgeaaGreatDoor
open Go.RowKit Word

/-- The low half of a header's word. -/
def hdrL (a b c : Nat) : Nat := a + 256 * b + 65536 * c + 2768240640
def hdrW (a b c : Nat) : Nat := (4294967295 - hdrL a b c) * 4294967296 + hdrL a b c
def kindOf (h : Hdr) (i : Int) : Int := if 0 ≤ i ∧ i < hdrN h - 1 then (if i < h.p then 1 else if i < h.p + h.f then 2 else 3) else 0
theorem or_mulT (a b i m : Nat) (hm : m = 2 ^ i) (h : a < m) : a ||| (b * m) = b * m + a := by
  subst hm
  rw [Nat.or_comm, ← Nat.shiftLeft_eq, Nat.shiftLeft_add_eq_or_of_lt h]
theorem u32_not (n : Nat) (hn : n < 4294967296) : bits .xor .u32 IntKind.u32.max (n : Int) = ((4294967295 - n : Nat) : Int) := by
  have h1 : (BitVec.ofInt 32 (n : Int)).toNat = n := by
    rw [BitVec.ofInt_natCast, BitVec.toNat_ofNat]; exact Nat.mod_eq_of_lt (by omega)
  have h2 : BitVec.ofInt 32 IntKind.u32.max = BitVec.allOnes 32 := by decide
  show IntKind.u32.wrap ((BitVec.ofInt 32 IntKind.u32.max ^^^ BitVec.ofInt 32 (n : Int)).toNat : Int) = _
  rw [h2, BitVec.allOnes_xor, BitVec.toNat_not, h1, IntKind.wrap_u32]
  omega
theorem hdrL_bits {a b c : Nat} (hs : a + b + c ≤ 255) : bits .or .u32 (bits .or .u32 (bits .or .u32 (a : Int) ((b : Int) * 256)) ((c : Int) * 65536)) 2768240640 = ((hdrL a b c : Nat) : Int) := by
  have e1 : ((b : Int) * 256) = ((b * 256 : Nat) : Int) := by omega
  have e2 : ((c : Int) * 65536) = ((c * 65536 : Nat) : Int) := by omega
  have e3 : (2768240640 : Int) = ((165 * 16777216 : Nat) : Int) := by omega
  rw [e1, e2, e3, u32_or_nat a (b * 256) (by omega) (by omega), or_mulT a b 8 256 (by decide) (by omega), u32_or_nat _ (c * 65536) (by omega) (by omega), or_mulT _ c 16 65536 (by decide) (by omega), u32_or_nat _ (165 * 16777216) (by omega) (by omega), or_mulT _ 165 24 16777216 (by decide) (by omega)]
  unfold hdrL
  omega
theorem hdrL_lt {a b c : Nat} (hs : a + b + c ≤ 255) : hdrL a b c < 4294967296 := by unfold hdrL; omega
theorem hdrW_bits {n : Nat} (hn : n < 4294967296) : bits .or .u64 (((4294967295 - n : Nat) : Int) * 4294967296) (n : Int) = (((4294967295 - n) * 4294967296 + n : Nat) : Int) := by
  have e1 : (((4294967295 - n : Nat) : Int) * 4294967296) = (((4294967295 - n) * 4294967296 : Nat) : Int) := by omega
  rw [e1, bits_or_u64_nat _ _ (by omega) (by omega), Nat.or_comm, or_mulT _ _ 32 4294967296 (by decide) hn]
set_option maxRecDepth 100000 in
set_option maxHeartbeats 1600000 in
theorem hdr_put_ok {a b c : Nat} (hs : a + b + c ≤ 255) (w : World) : Calls Tryz.prog 124 #[hdrV ⟨a, b, c⟩] w fun e w' => e = .returned (.tuple #[.int .u64 (hdrW a b c : Nat), .int .i64 0]) ∧ Gr w w' := by
  have HC := hid (fun W => hdr_check ⟨a, b, c⟩ W)
  have HE := hid (hdrE_of hs)
  have f1 := hdrL_bits hs
  have hn := hdrL_lt hs
  have HW : Hid (hdrW a b c = (4294967295 - hdrL a b c) * 4294967296 + hdrL a b c) := ⟨rfl⟩
  obtain ⟨n, hnn⟩ : ∃ n, n = hdrL a b c := ⟨_, rfl⟩
  rw [← hnn] at f1 hn HW
  have f2 := u32_not n hn
  have f3 := hdrW_bits hn
  have f4 : IntKind.u64.wrap (((4294967295 - n : Nat) : Int)) = ((4294967295 - n : Nat) : Int) := by rw [IntKind.wrap_u64]; omega
  have f5 : IntKind.u64.wrap (((4294967295 - n : Nat) : Int) * 4294967296) = ((4294967295 - n : Nat) : Int) * 4294967296 := by rw [IntKind.wrap_u64]; omega
  have f6 : IntKind.u64.wrap (n : Int) = (n : Int) := by rw [IntKind.wrap_u64]; omega
  generalize 4294967295 - n = m at f2 f3 f4 f5 HW
  clear hnn hn
  unfold hdrV at HC ⊢
  go_enter Tryz.func124, Tryz.ntmps124
  go_wp2_with (go_at_call 118; refine (HC.out _).mono ?_; rintro e w1 ⟨rfl, hg1⟩; rw [HE.out]; have hl := (Gr.refl w).alloc (.cells #[.int .i64 a, .int .i64 b, .int .i64 c] 90); have k0 := (hg1.cell (b := w.heap.size) (by simp) 0).trans (World.cell?_alloc_at _ _ _ 0 rfl); have k1 := (hg1.cell (b := w.heap.size) (by simp) 1).trans (World.cell?_alloc_at _ _ _ 1 rfl); have k2 := (hg1.cell (b := w.heap.size) (by simp) 2).trans (World.cell?_alloc_at _ _ _ 2 rfl); have HG1 := hid (hl.trans hg1); clear hg1 hl)
  go_ret2
  exact ⟨ret2 (by rw [HW.out]; rfl) rfl, HG1.out⟩
/-- Whether a word is a header's, and the header. -/
def tkOk (x : Nat) : Bool := decide (x % 4294967296 / 16777216 = 165) && decide (x / 4294967296 = 4294967295 - x % 4294967296) && decide (x % 256 + x / 256 % 256 + x / 65536 % 256 ≤ 255)
def tkH (x : Nat) : Hdr := if tkOk x then ⟨(x % 256 : Nat), (x / 256 % 256 : Nat), (x / 65536 % 256 : Nat)⟩ else ⟨0, 0, 0⟩
def tkE (x : Nat) : Int := if tkOk x then 0 else 16
theorem u32_low (n : Nat) (hn : n < 4294967296) : bits .and .u32 (n : Int) 255 = ((n % 256 : Nat) : Int) := by
  rw [show (255 : Int) = ((255 : Nat) : Int) from rfl, u32_and_nat n 255 hn (by omega)]
  have : n &&& 255 = n % 256 := Nat.and_two_pow_sub_one_eq_mod n 8
  skip
  rw [this]
theorem load_hdr (W : World) (blk : Nat) (p q r : Value) (h0 : W.cell? ⟨blk, 0, none⟩ = some p) (h1 : W.cell? ⟨blk, 1, none⟩ = some q) (h2 : W.cell? ⟨blk, 2, none⟩ = some r) : (loadVar 90 ⟨blk, 0, none⟩).run Tryz.prog W = .ok (.agg #[p, q, r]) W := by
  have a1 : (isAgg 90).run Tryz.prog W = .ok true W := by kernel_rfl
  have a2 : (sizeOf 90).run Tryz.prog W = .ok 3 W := by kernel_rfl
  simp [loadVar, Sem.run_bind, a1, a2, Result.andThen, loadCells, go_sem, h0, h1, h2]
theorem tk_recs {w w1 : World} {xs ys : List Value} (hg : Gr ((w.alloc (.cells xs.toArray 90)).alloc (.cells ys.toArray 90)) w1) : Rec w1 w.heap.size 90 xs ∧ Rec w1 (w.heap.size + 1) 90 ys := by
  refine ⟨((Rec.new w _ xs).gr ((Gr.refl _).alloc _)).gr hg, ?_⟩
  have := (Rec.new (w.alloc (.cells xs.toArray 90)) 90 ys).gr hg
  rw [World.size_alloc] at this
  exact this
theorem tk_gr {w w1 : World} {o o2 : Obj} (hg : Gr ((w.alloc o).alloc o2) w1) {x y z : Value} : Gr w (((w1.setCell ⟨w.heap.size, 0, none⟩ x).setCell ⟨w.heap.size, 1, none⟩ y).setCell ⟨w.heap.size, 2, none⟩ z) := by
  have h1 : Touch (fun k => w.heap.size ≤ k) w w1 := ((((Gr.refl w).alloc o).alloc o2).trans hg).touch _
  have h2 := ((h1.setCell (a := ⟨w.heap.size, 0, none⟩) (fun _ => Nat.le_refl _) x).setCell (a := ⟨w.heap.size, 1, none⟩) (fun _ => Nat.le_refl _) y).setCell (a := ⟨w.heap.size, 2, none⟩) (fun _ => Nat.le_refl _) z
  exact (h2.mono (fun k hk h => by omega)).gr
set_option maxRecDepth 100000 in
set_option maxHeartbeats 1600000 in
theorem hdr_take {x : Nat} (hx : x < 18446744073709551616) (w : World) : Calls Tryz.prog 165 #[.int .u64 x] w fun e w' => e = .returned (.tuple #[hdrV (tkH x), .int .i64 (tkE x)]) ∧ Gr w w' := by
  obtain ⟨n, hn⟩ : ∃ n, n = x % 4294967296 := ⟨_, rfl⟩
  obtain ⟨h, hh⟩ : ∃ h, h = x / 4294967296 := ⟨_, rfl⟩
  obtain ⟨a, ha⟩ : ∃ a, a = n % 256 := ⟨_, rfl⟩
  obtain ⟨b, hb⟩ : ∃ b, b = n / 256 % 256 := ⟨_, rfl⟩
  obtain ⟨c, hc⟩ : ∃ c, c = n / 65536 % 256 := ⟨_, rfl⟩
  obtain ⟨d, hd⟩ : ∃ d, d = n / 16777216 := ⟨_, rfl⟩
  obtain ⟨m, hm⟩ : ∃ m, m = 4294967295 - n := ⟨_, rfl⟩
  have hnl : n < 4294967296 := by omega
  have HT : Hid (tkOk x = (decide (d = 165) && decide (h = m) && decide (a + b + c ≤ 255)) ∧ tkH x = if tkOk x then ⟨(a : Nat), (b : Nat), (c : Nat)⟩ else ⟨0, 0, 0⟩) := ⟨by
    have e1 : x % 256 = a := by omega
    have e2 : x / 256 % 256 = b := by omega
    have e3 : x / 65536 % 256 = c := by omega
    unfold tkH tkOk
    rw [e1, e2, e3, ← hn, ← hd, ← hh, ← hm]
    exact ⟨rfl, rfl⟩⟩
  have g0 : (x : Int) % 4294967296 = (n : Int) := by omega
  have g5 : (x : Int) / 4294967296 = (h : Int) := by omega
  have g1 : bits .and .u32 (n : Int) 255 = (a : Int) := by rw [u32_low n hnl, ha]
  have g2 : bits .and .u32 ((n : Int) / 256) 255 = (b : Int) := by
    rw [show (n : Int) / 256 = ((n / 256 : Nat) : Int) by omega, u32_low _ (by omega), hb]
  have g3 : bits .and .u32 ((n : Int) / 65536) 255 = (c : Int) := by
    rw [show (n : Int) / 65536 = ((n / 65536 : Nat) : Int) by omega, u32_low _ (by omega), hc]
  have g4 : (n : Int) / 16777216 = (d : Int) := by omega
  have g6 : bits .xor .u32 IntKind.u32.max (n : Int) = (m : Int) := by rw [u32_not n hnl, hm]
  have ba : a ≤ 255 := by omega
  have bb : b ≤ 255 := by omega
  have bc : c ≤ 255 := by omega
  have HC := hid (fun W => hdr_check ⟨a, b, c⟩ W)
  have hEE : hdrE ⟨a, b, c⟩ = if a + b + c ≤ 255 then 0 else 15 := by
    unfold hdrE inS
    simp only []
    rw [decide_eq_true (by omega), decide_eq_true (by omega), decide_eq_true (by omega)]
    by_cases h : a + b + c ≤ 255
    · rw [if_pos h, decide_eq_true (by omega)]; rfl
    · rw [if_neg h, decide_eq_false (by omega)]; rfl
  have HEE := hid hEE
  clear hEE
  unfold hdrV at HC
  have KL := hid (show ∀ (W : World) (blk : Nat) (p q r : Value), W.cell? ⟨blk, 0, none⟩ = some p → W.cell? ⟨blk, 1, none⟩ = some q → W.cell? ⟨blk, 2, none⟩ = some r → (loadVar 90 ⟨blk, 0, none⟩).run Tryz.prog W = .ok (.agg #[p, q, r]) W by
    intro W blk p q r h0 h1 h2
    exact load_hdr W blk p q r h0 h1 h2)
  clear hn hh ha hb hc hd hm hnl
  by_cases t1 : d = 165
  · have HT1 := hid t1
    have d1 : ((d : Int) != 165) = false := by rw [t1]; rfl
    by_cases t2 : h = m
    · have HT2 := hid t2
      have d2 : ((h : Int) != (m : Int)) = false := by rw [t2]; simp
      have d3 : ¬ ¬ ((h : Int) = bits .xor .u32 IntKind.u32.max (n : Int)) := by rw [g6, t2]; simp
      by_cases t3 : a + b + c ≤ 255
      · have HK : Hid (hdrE ⟨a, b, c⟩ = 0) := ⟨by rw [HEE.out, if_pos t3]⟩
        have HE : Hid (tkH x = ⟨(a : Nat), (b : Nat), (c : Nat)⟩ ∧ tkE x = 0) := ⟨by
          have : tkOk x = true := by rw [HT.out.1, decide_eq_true t1, decide_eq_true t2, decide_eq_true t3]; rfl
          unfold tkE; rw [HT.out.2, this]; exact ⟨rfl, rfl⟩⟩
        clear t1 t2 t3 HT
        go_enter Tryz.func165, Tryz.ntmps165
        go_wp2_with (go_at_call 118; refine (HC.out _).mono ?_; rintro e w1 ⟨rfl, hg1⟩; rw [HK.out]; obtain ⟨r1, r2⟩ := tk_recs (xs := [.int .i64 0, .int .i64 0, .int .i64 0]) (ys := [.int .i64 a, .int .i64 b, .int .i64 c]) hg1; have k0 := r1.cell (j := 0) rfl; have k1 := r1.cell (j := 1) rfl; have k2 := r1.cell (j := 2) rfl; have kf := r1.free; have k3 := r2.cell (j := 0) rfl; have k4 := r2.cell (j := 1) rfl; have k5 := r2.cell (j := 2) rfl; have HR1 := hid r1; have HG1 := hid hg1; clear hg1 r1 r2)
        have R3 := Rec.set (Rec.set (Rec.set HR1.out 0 (.int .i64 a)) 1 (.int .i64 b)) 2 (.int .i64 c)
        refine bodyPost_ret (v := .tuple #[hdrV ⟨a, b, c⟩, .int .i64 0]) ?_ rfl ?_
        · rw [results_cell_tmp rfl]
          have hl := KL.out _ w.heap.size _ _ _ (R3.cell (j := 0) rfl) (R3.cell (j := 1) rfl) (R3.cell (j := 2) rfl)
          simp [asAddr, Result.andThen, hl, hdrV]
        · exact ⟨by rw [HE.out.1, HE.out.2], tk_gr HG1.out⟩
      · have HK : Hid (hdrE ⟨a, b, c⟩ = 15) := ⟨by rw [HEE.out, if_neg t3]⟩
        have HE : Hid (tkH x = ⟨0, 0, 0⟩ ∧ tkE x = 16) := ⟨by
          have : tkOk x = false := by rw [HT.out.1, decide_eq_false t3]; simp
          unfold tkE; rw [HT.out.2, this]; exact ⟨rfl, rfl⟩⟩
        clear t1 t2 t3 HT
        go_enter Tryz.func165, Tryz.ntmps165
        go_wp2_with (go_at_call 118; refine (HC.out _).mono ?_; rintro e w1 ⟨rfl, hg1⟩; rw [HK.out]; obtain ⟨r1, r2⟩ := tk_recs (xs := [.int .i64 0, .int .i64 0, .int .i64 0]) (ys := [.int .i64 a, .int .i64 b, .int .i64 c]) hg1; have k0 := r1.cell (j := 0) rfl; have k1 := r1.cell (j := 1) rfl; have k2 := r1.cell (j := 2) rfl; have kf := r1.free; have k3 := r2.cell (j := 0) rfl; have k4 := r2.cell (j := 1) rfl; have k5 := r2.cell (j := 2) rfl; have HR1 := hid r1; have HG1 := hid hg1; clear hg1 r1 r2)
        have R3 := Rec.set (Rec.set (Rec.set HR1.out 0 (.int .i64 0)) 1 (.int .i64 0)) 2 (.int .i64 0)
        refine bodyPost_ret (v := .tuple #[hdrV ⟨0, 0, 0⟩, .int .i64 16]) ?_ rfl ?_
        · rw [results_cell_tmp rfl]
          have hl := KL.out _ w.heap.size _ _ _ (R3.cell (j := 0) rfl) (R3.cell (j := 1) rfl) (R3.cell (j := 2) rfl)
          simp [asAddr, Result.andThen, hl, hdrV]
        · exact ⟨by rw [HE.out.1, HE.out.2], tk_gr HG1.out⟩
    · have d2 : ((h : Int) != (m : Int)) = true := by simp; omega
      have d3 : ¬ ((h : Int) = bits .xor .u32 IntKind.u32.max (n : Int)) := by rw [g6]; omega
      have HE : Hid (tkH x = ⟨0, 0, 0⟩ ∧ tkE x = 16) := ⟨by
        have : tkOk x = false := by rw [HT.out.1, decide_eq_false t2]; simp
        unfold tkE; rw [HT.out.2, this]; exact ⟨rfl, rfl⟩⟩
      clear t1 t2 HT
      go_enter Tryz.func165, Tryz.ntmps165
      go_wp2
      refine bodyPost_ret (v := .tuple #[hdrV ⟨0, 0, 0⟩, .int .i64 16]) ?_ rfl ?_
      · rw [results_cell_tmp rfl]
        simp [asAddr, Result.andThen, go_sem]
        rfl
      · exact ⟨by rw [HE.out.1, HE.out.2], ((Gr.refl w).alloc _).alloc _⟩
  · have d1 : ((d : Int) != 165) = true := by simp; omega
    have d3 : ¬ ((d : Int) = 165) := by omega
    have d4 : ¬ ((n : Int) / 16777216 = 165) := by omega
    have HE : Hid (tkH x = ⟨0, 0, 0⟩ ∧ tkE x = 16) := ⟨by
      have : tkOk x = false := by rw [HT.out.1, decide_eq_false t1]; simp
      unfold tkE; rw [HT.out.2, this]; exact ⟨rfl, rfl⟩⟩
    clear t1 HT
    go_enter Tryz.func165, Tryz.ntmps165
    go_wp2
    refine bodyPost_ret (v := .tuple #[hdrV ⟨0, 0, 0⟩, .int .i64 16]) ?_ rfl ?_
    · rw [results_cell_tmp rfl]
      simp [asAddr, Result.andThen, go_sem]
      rfl
    · exact ⟨by rw [HE.out.1, HE.out.2], ((Gr.refl w).alloc _).alloc _⟩
set_option maxRecDepth 100000 in
set_option maxHeartbeats 1600000 in
theorem hdr_kind {a b c : Nat} (hs : a + b + c ≤ 255) (i : Int) (w : World) : Calls Tryz.prog 154 #[hdrV ⟨a, b, c⟩, .int .i64 i] w fun e w' => e = .returned (.int .i64 (kindOf ⟨a, b, c⟩ i)) ∧ Gr w w' := by
  have hN : hdrN ⟨a, b, c⟩ = 1 + (a : Int) + b + c := if_pos (hdrE_of hs)
  have HZ := hid (fun W => hdr_size ⟨a, b, c⟩ W)
  have HK : Hid (kindOf ⟨a, b, c⟩ i = if 0 ≤ i ∧ i < (a : Int) + b + c then (if i < a then 1 else if i < (a : Int) + b then 2 else 3) else 0) := ⟨by
    unfold kindOf
    rw [hN]
    simp only []
    by_cases h : 0 ≤ i ∧ i < (a : Int) + b + c
    · rw [if_pos h, if_pos (by omega)]
    · rw [if_neg h, if_neg (by omega)]⟩
  rw [hN] at HZ
  unfold hdrV at HZ ⊢
  clear hN
  by_cases h0 : i < 0
  · have d0 : decide (i < 0) = true := decide_eq_true h0
    have HE : Hid (kindOf ⟨a, b, c⟩ i = 0) := ⟨by rw [HK.out, if_neg (by omega)]⟩
    clear HK
    go_enter Tryz.func154, Tryz.ntmps154
    go_wp2
    go_ret
    exact ⟨ret_int (by rw [HE.out]), (Gr.refl w).alloc _⟩
  · have d0 : decide (i < 0) = false := decide_eq_false h0
    by_cases h1 : (a : Int) + b + c ≤ i
    · have HE : Hid (kindOf ⟨a, b, c⟩ i = 0) := ⟨by rw [HK.out, if_neg (by omega)]⟩
      have d1 : decide (1 + (a : Int) + b + c - 1 ≤ i) = true := decide_eq_true (by omega)
      clear HK
      go_enter Tryz.func154, Tryz.ntmps154
      go_wp2_with (go_at_call 55; refine (HZ.out _).mono ?_; rintro e w1 ⟨rfl, hg1⟩; have HG1 := hid (((Gr.refl w).alloc _).trans hg1); clear hg1)
      go_ret
      exact ⟨ret_int (by rw [HE.out]), HG1.out⟩
    · have d1 : decide (1 + (a : Int) + b + c - 1 ≤ i) = false := decide_eq_false (by omega)
      have HE : Hid (kindOf ⟨a, b, c⟩ i = if i < a then 1 else if i < (a : Int) + b then 2 else 3) := ⟨by rw [HK.out, if_pos (by omega)]⟩
      clear HK
      by_cases h2 : i < a
      · have d2 : decide (i < (a : Int)) = true := decide_eq_true h2
        go_enter Tryz.func154, Tryz.ntmps154
        go_wp2_with (go_at_call 55; refine (HZ.out _).mono ?_; rintro e w1 ⟨rfl, hg1⟩; have k0 := (hg1.cell (b := w.heap.size) (by simp) 0).trans (World.cell?_alloc_at _ _ _ 0 rfl); have k1 := (hg1.cell (b := w.heap.size) (by simp) 1).trans (World.cell?_alloc_at _ _ _ 1 rfl); have HG1 := hid (((Gr.refl w).alloc _).trans hg1); clear hg1)
        go_ret
        exact ⟨ret_int (by rw [HE.out, if_pos h2]), HG1.out⟩
      · have d2 : decide (i < (a : Int)) = false := decide_eq_false h2
        by_cases h3 : i < (a : Int) + b
        · have d3 : decide (i < (a : Int) + (b : Int)) = true := decide_eq_true h3
          go_enter Tryz.func154, Tryz.ntmps154
          go_wp2_with (go_at_call 55; refine (HZ.out _).mono ?_; rintro e w1 ⟨rfl, hg1⟩; have k0 := (hg1.cell (b := w.heap.size) (by simp) 0).trans (World.cell?_alloc_at _ _ _ 0 rfl); have k1 := (hg1.cell (b := w.heap.size) (by simp) 1).trans (World.cell?_alloc_at _ _ _ 1 rfl); have HG1 := hid (((Gr.refl w).alloc _).trans hg1); clear hg1)
          go_ret
          exact ⟨ret_int (by rw [HE.out, if_neg (by omega), if_pos h3]), HG1.out⟩
        · have d3 : decide (i < (a : Int) + (b : Int)) = false := decide_eq_false h3
          go_enter Tryz.func154, Tryz.ntmps154
          go_wp2_with (go_at_call 55; refine (HZ.out _).mono ?_; rintro e w1 ⟨rfl, hg1⟩; have k0 := (hg1.cell (b := w.heap.size) (by simp) 0).trans (World.cell?_alloc_at _ _ _ 0 rfl); have k1 := (hg1.cell (b := w.heap.size) (by simp) 1).trans (World.cell?_alloc_at _ _ _ 1 rfl); have HG1 := hid (((Gr.refl w).alloc _).trans hg1); clear hg1)
          go_ret
          exact ⟨ret_int (by rw [HE.out, if_neg (by omega), if_neg (by omega)]), HG1.out⟩
end Go.Proofs.YtbmidhlilafgeaaGreatDoor
end

section
namespace Go.Proofs.YtbmidhlilafgeaaGreatDoor
open Go.RowKit Word

/-- A paged memory as a trap.Space. -/
def spV (q : Nat) : Value := .iface 31 (.pointer (some ⟨q, 0, none⟩))
theorem nil_load (n : Nat) (a : Addr) (w : World) : (nilAhead (n + 1) 31 (.pointer (some a)) "Load").run Tryz.prog w = .ok (some false) w := by kernel_rfl
theorem method_load (n : Nat) (a : Addr) (w : World) : (method (n + 1) 31 (.pointer (some a)) "Load").run Tryz.prog w = .ok (64, .pointer (some a)) w := by kernel_rfl
def Vm.rdH (v : Vm) (a : Int) : Hdr := if 0 < a ∧ v.ldE a = 0 then tkH (v.ldV a) else ⟨0, 0, 0⟩
def Vm.rdE (v : Vm) (a : Int) : Int := if a = 0 then 18 else if a < 0 then 5 else if v.ldE a = 0 then tkE (v.ldV a) else v.ldE a
theorem VmOk.ldV_lt {v : Vm} (h : VmOk v) (a : Int) : v.ldV a < 18446744073709551616 := by
  unfold Vm.ldV
  split
  · rw [List.getD_eq_getElem?_getD]
    rcases Nat.lt_or_ge (v.at a) v.pl.wd.length with hl | hl
    · rw [List.getElem?_eq_getElem hl]; exact h.pl.w64 _ (List.getElem_mem hl)
    · rw [List.getElem?_eq_none hl]; decide
  · decide
theorem rd_gr {w w1 : World} (hg : Gr w w1) {x y z : Value} : Gr w (((w1.setCell ⟨w.heap.size, 0, none⟩ x).setCell ⟨w.heap.size, 1, none⟩ y).setCell ⟨w.heap.size, 2, none⟩ z) := by
  have h1 : Touch (fun k => w.heap.size ≤ k) w w1 := hg.touch _
  have h2 := ((h1.setCell (a := ⟨w.heap.size, 0, none⟩) (fun _ => Nat.le_refl _) x).setCell (a := ⟨w.heap.size, 1, none⟩) (fun _ => Nat.le_refl _) y).setCell (a := ⟨w.heap.size, 2, none⟩) (fun _ => Nat.le_refl _) z
  exact (h2.mono (fun k hk h => by omega)).gr
section
variable {w : World} {S : Nat → Prop} {q : Nat} {v : Vm}
set_option maxRecDepth 100000 in
set_option maxHeartbeats 1600000 in
theorem obj_read (hV : VmAt w S q v) (a : Int) : Calls Tryz.prog 108 #[spV q, .int .i64 a] w fun e w' => e = .returned (.tuple #[hdrV (v.rdH a), .int .i64 (v.rdE a)]) ∧ Gr w w' := by
  have HV := hid hV
  have hx := hV.ok.ldV_lt a
  unfold spV
  have n1 := nil_load
  have n2 := method_load
  clear hV
  have KL := hid (fun (W : World) (blk : Nat) (p q r : Value) => load_hdr W blk p q r)
  rcases (by omega : a = 0 ∨ a < 0 ∨ 0 < a) with h0 | h0 | h0
  · subst h0
    go_enter Tryz.func108, Tryz.ntmps108
    go_wp2
    refine bodyPost_ret (v := .tuple #[hdrV ⟨0, 0, 0⟩, .int .i64 18]) ?_ rfl ?_
    · rw [results_cell_tmp rfl]
      simp [asAddr, Result.andThen, go_sem]
      rfl
    · exact ⟨rfl, (Gr.refl w).alloc _⟩
  · have d0 : (a == 0) = false := by simp; omega
    have d1 : decide (a < 0) = true := decide_eq_true h0
    have HE : Hid (v.rdH a = ⟨0, 0, 0⟩ ∧ v.rdE a = 5) := ⟨⟨if_neg (by omega), by unfold Vm.rdE; rw [if_neg (by omega), if_pos h0]⟩⟩
    go_enter Tryz.func108, Tryz.ntmps108
    go_wp2
    refine bodyPost_ret (v := .tuple #[hdrV ⟨0, 0, 0⟩, .int .i64 5]) ?_ rfl ?_
    · rw [results_cell_tmp rfl]
      simp [asAddr, Result.andThen, go_sem]
      rfl
    · exact ⟨by rw [HE.out.1, HE.out.2], (Gr.refl w).alloc _⟩
  · have d0 : (a == 0) = false := by simp; omega
    have d1 : decide (a < 0) = false := decide_eq_false (by omega)
    by_cases hE : v.ldE a = 0
    · have HE : Hid (v.rdH a = tkH (v.ldV a) ∧ v.rdE a = tkE (v.ldV a)) := ⟨⟨if_pos ⟨h0, hE⟩, by unfold Vm.rdE; rw [if_neg (by omega), if_neg (by omega), if_pos hE]⟩⟩
      have HL := hid hE
      have HT := hid (fun W => hdr_take hx W)
      have hh : hdrV (tkH (v.ldV a)) = .agg #[.int .i64 (tkH (v.ldV a)).p, .int .i64 (tkH (v.ldV a)).f, .int .i64 (tkH (v.ldV a)).k] := rfl
      rw [hh] at HT
      generalize tkH (v.ldV a) = h at HT HE
      generalize tkE (v.ldV a) = er at HT HE
      obtain ⟨p, f, k⟩ := h
      clear hE hh
      go_enter Tryz.func108, Tryz.ntmps108
      go_wp2_with (first
        | (go_at_call 64; refine (vm_load (HV.out.gr ((Gr.refl w).alloc _)) a).mono ?_; rintro e w1 ⟨rfl, hg1⟩; rw [HL.out]; have HG1 := hid (((Gr.refl w).alloc _).trans hg1); have HR1 := hid ((Rec.new w 90 [.int .i64 0, .int .i64 0, .int .i64 0]).gr hg1); clear hg1)
        | (go_at_call 165; refine (HT.out _).mono ?_; rintro e w2 ⟨rfl, hg2⟩; have r2 := HR1.out.gr hg2; have k0 := r2.cell (j := 0) rfl; have k1 := r2.cell (j := 1) rfl; have k2 := r2.cell (j := 2) rfl; have kf := r2.free; have HR2 := hid r2; have HG2 := hid hg2; clear hg2 r2))
      have R3 := Rec.set (Rec.set (Rec.set HR2.out 0 (.int .i64 p)) 1 (.int .i64 f)) 2 (.int .i64 k)
      refine bodyPost_ret (v := .tuple #[hdrV ⟨p, f, k⟩, .int .i64 er]) ?_ rfl ?_
      · rw [results_cell_tmp rfl]
        have hl := KL.out _ w.heap.size _ _ _ (R3.cell (j := 0) rfl) (R3.cell (j := 1) rfl) (R3.cell (j := 2) rfl)
        simp [asAddr, Result.andThen, hl, hdrV]
      · exact ⟨by rw [HE.out.1, HE.out.2], rd_gr (HG1.out.trans HG2.out)⟩
    · have HE : Hid (v.rdH a = ⟨0, 0, 0⟩ ∧ v.rdE a = v.ldE a) := ⟨⟨if_neg (fun h => hE h.2), by unfold Vm.rdE; rw [if_neg (by omega), if_neg (by omega), if_neg hE]⟩⟩
      obtain ⟨y, hy⟩ : ∃ y, y = v.ldE a := ⟨_, rfl⟩
      have d2 : (y == 0) = false := by rw [hy]; simpa using hE
      have HY := hid hy
      clear hE hy
      go_enter Tryz.func108, Tryz.ntmps108
      go_wp2_with (go_at_call 64; refine (vm_load (HV.out.gr ((Gr.refl w).alloc _)) a).mono ?_; rintro e w1 ⟨rfl, hg1⟩; rw [← HY.out]; have r2 := (Rec.new w 90 [.int .i64 0, .int .i64 0, .int .i64 0]).gr hg1; have k0 := r2.cell (j := 0) rfl; have k1 := r2.cell (j := 1) rfl; have k2 := r2.cell (j := 2) rfl; have kf := r2.free; have HR1 := hid r2; have HG1 := hid (((Gr.refl w).alloc _).trans hg1); clear hg1 r2)
      have R3 := Rec.set (Rec.set (Rec.set HR1.out 0 (.int .i64 0)) 1 (.int .i64 0)) 2 (.int .i64 0)
      refine bodyPost_ret (v := .tuple #[hdrV ⟨0, 0, 0⟩, .int .i64 y]) ?_ rfl ?_
      · rw [results_cell_tmp rfl]
        have hl := KL.out _ w.heap.size _ _ _ (R3.cell (j := 0) rfl) (R3.cell (j := 1) rfl) (R3.cell (j := 2) rfl)
        simp [asAddr, Result.andThen, hl, hdrV]
      · exact ⟨by rw [HE.out.1, HE.out.2, HY.out], rd_gr HG1.out⟩
end
end Go.Proofs.YtbmidhlilafgeaaGreatDoor
end

section
namespace Go.Proofs.YtbmidhlilafgeaaGreatDoor
open Go.RowKit Word

def Vm.plE (v : Vm) (a i kd : Int) : Int := if v.rdE a ≠ 0 then v.rdE a else if kindOf (v.rdH a) i = kd then 0 else if kindOf (v.rdH a) i = 0 then 19 else 20
def Vm.plA (v : Vm) (a i kd : Int) : Int := if v.plE a i kd = 0 then a + 1 + i else 0
def Vm.gtE (v : Vm) (a i kd : Int) : Int := if v.plE a i kd ≠ 0 then v.plE a i kd else v.ldE (a + 1 + i)
def Vm.gtV (v : Vm) (a i kd : Int) : Nat := if v.plE a i kd ≠ 0 then 0 else v.ldV (a + 1 + i)
def Vm.ptE (v : Vm) (a i : Int) : Int := if v.gtE a i 1 ≠ 0 then v.gtE a i 1 else if 2147483647 < v.gtV a i 1 then 25 else 0
def Vm.ptV (v : Vm) (a i : Int) : Nat := if v.ptE a i = 0 then v.gtV a i 1 else 0
theorem tkE_zero {x : Nat} (h : tkE x = 0) : ∃ p f k : Nat, tkH x = ⟨p, f, k⟩ ∧ p + f + k ≤ 255 := by
  unfold tkE at h
  split at h
  · rename_i ho
    refine ⟨x % 256, x / 256 % 256, x / 65536 % 256, if_pos ho, ?_⟩
    unfold tkOk at ho
    simp only [Bool.and_eq_true, decide_eq_true_eq] at ho
    exact ho.2
  · cases h
theorem tkE_range (x : Nat) : tkE x = 0 ∨ tkE x = 16 := by unfold tkE; split <;> simp
theorem ldE_range (v : Vm) (a : Int) : v.ldE a = 0 ∨ v.ldE a = 11 ∨ v.ldE a = 12 := by
  unfold Vm.ldE
  split
  · rcases pgE_of (pt := v.pt) (p := a / v.pl.pg) with h | h | h <;> rw [h] <;> simp
  · simp
theorem rdE_zero {v : Vm} {a : Int} (h : v.rdE a = 0) : 0 < a ∧ v.ldE a = 0 ∧ ∃ p f k : Nat, v.rdH a = ⟨p, f, k⟩ ∧ p + f + k ≤ 255 := by
  unfold Vm.rdE at h
  split at h
  · cases h
  · split at h
    · cases h
    · split at h
      · rename_i h0
        have ha : 0 < a := by omega
        refine ⟨ha, h0, ?_⟩
        obtain ⟨p, f, k, e1, e2⟩ := tkE_zero h
        exact ⟨p, f, k, by unfold Vm.rdH; rw [if_pos ⟨ha, h0⟩]; exact e1, e2⟩
      · rename_i h0
        exact absurd h h0
theorem ldE_in {v : Vm} {a : Int} (h : v.ldE a = 0) : 0 ≤ a ∧ a < v.n := by
  obtain ⟨j, rfl, hj, -⟩ := VmOk.hit h
  omega
section
variable {w : World} {S : Nat → Prop} {q : Nat} {v : Vm}
set_option maxRecDepth 100000 in
set_option maxHeartbeats 1600000 in
theorem obj_place (hV : VmAt w S q v) (a i kd : Int) (hk : kd ≠ 0) : Calls Tryz.prog 184 #[spV q, .int .i64 a, .int .i64 i, .int .i64 kd] w fun e w' => e = .returned (.tuple #[.int .i64 (v.plA a i kd), .int .i64 (v.plE a i kd)]) ∧ Gr w w' := by
  have HV := hid hV
  have hn := hV.ok.n2
  have HRD := hid (fun (w' : World) (g : Gr w w') => obj_read (hV.gr g) a)
  by_cases hE : v.rdE a = 0
  · obtain ⟨ha, hl, p, f, k, hh, hs⟩ := rdE_zero hE
    have hr := ldE_in hl
    rw [hh] at HRD
    have HP : Hid (v.plE a i kd = if kindOf ⟨p, f, k⟩ i = kd then 0 else if kindOf ⟨p, f, k⟩ i = 0 then 19 else 20) := ⟨by unfold Vm.plE; rw [if_neg (fun h => h hE), hh]⟩
    have HA : Hid (v.plA a i kd = if v.plE a i kd = 0 then a + 1 + i else 0) := ⟨rfl⟩
    have HK := hid (fun W => hdr_kind hs i W)
    have hN : hdrN ⟨p, f, k⟩ = 1 + (p : Int) + f + k := if_pos (hdrE_of hs)
    have hki : kindOf ⟨p, f, k⟩ i ≠ 0 → 0 ≤ i ∧ i < 255 := fun h => by
      unfold kindOf at h
      split at h
      · rename_i h'
        rw [hN] at h'
        omega
      · exact absurd rfl h
    generalize kindOf ⟨(p : Int), (f : Int), (k : Int)⟩ i = kk at HP HK hki
    have HE := hid hE
    clear hE hl hh hs hN hV
    unfold hdrV at HRD HK
    by_cases h1 : kk = kd
    · have e0 : v.plE a i kd = 0 := by rw [HP.out, if_pos h1]
      have HE0 : Hid (v.plE a i kd = 0 ∧ v.plA a i kd = a + 1 + i) := ⟨⟨e0, by rw [HA.out, if_pos e0]⟩⟩
      have hii := hki (by rw [h1]; exact hk)
      have d0 : (kk == kd) = true := by simpa using h1
      clear h1 hki HP HA e0
      go_enter Tryz.func184, Tryz.ntmps184
      go_wp2_with (first
        | (go_at_call 108; refine (HRD.out _ (Gr.refl w)).mono ?_; rintro e w1 ⟨rfl, hg1⟩; rw [HE.out]; have HG1 := hid hg1; clear hg1)
        | (go_at_call 154; refine (HK.out _).mono ?_; rintro e w2 ⟨rfl, hg2⟩; have HG2 := hid hg2; clear hg2))
      go_ret2
      exact ⟨ret2 (vint (by rw [HE0.out.2])) (vint (by rw [HE0.out.1])), (HG1.out.alloc _).trans HG2.out⟩
    · have d0 : (kk == kd) = false := by simpa using h1
      by_cases h2 : kk = 0
      · have e0 : v.plE a i kd = 19 := by rw [HP.out, if_neg h1, if_pos h2]
        have HE0 : Hid (v.plE a i kd = 19 ∧ v.plA a i kd = 0) := ⟨⟨e0, by rw [HA.out, if_neg (by rw [e0]; decide)]⟩⟩
        have d1 : (kk == 0) = true := by simpa using h2
        clear h1 h2 hki HP HA e0
        go_enter Tryz.func184, Tryz.ntmps184
        go_wp2_with (first
          | (go_at_call 108; refine (HRD.out _ (Gr.refl w)).mono ?_; rintro e w1 ⟨rfl, hg1⟩; rw [HE.out]; have HG1 := hid hg1; clear hg1)
          | (go_at_call 154; refine (HK.out _).mono ?_; rintro e w2 ⟨rfl, hg2⟩; have HG2 := hid hg2; clear hg2))
        go_ret2
        exact ⟨ret2 (vint (by rw [HE0.out.2])) (vint (by rw [HE0.out.1])), (HG1.out.alloc _).trans HG2.out⟩
      · have e0 : v.plE a i kd = 20 := by rw [HP.out, if_neg h1, if_neg h2]
        have HE0 : Hid (v.plE a i kd = 20 ∧ v.plA a i kd = 0) := ⟨⟨e0, by rw [HA.out, if_neg (by rw [e0]; decide)]⟩⟩
        have d1 : (kk == 0) = false := by simpa using h2
        clear h1 h2 hki HP HA e0
        go_enter Tryz.func184, Tryz.ntmps184
        go_wp2_with (first
          | (go_at_call 108; refine (HRD.out _ (Gr.refl w)).mono ?_; rintro e w1 ⟨rfl, hg1⟩; rw [HE.out]; have HG1 := hid hg1; clear hg1)
          | (go_at_call 154; refine (HK.out _).mono ?_; rintro e w2 ⟨rfl, hg2⟩; have HG2 := hid hg2; clear hg2))
        go_ret2
        exact ⟨ret2 (vint (by rw [HE0.out.2])) (vint (by rw [HE0.out.1])), (HG1.out.alloc _).trans HG2.out⟩
  · have e1 : v.plE a i kd = v.rdE a := by unfold Vm.plE; rw [if_pos hE]
    have HE0 : Hid (v.plE a i kd = v.rdE a ∧ v.plA a i kd = 0) := ⟨⟨e1, by unfold Vm.plA; rw [if_neg (by rw [e1]; exact hE)]⟩⟩
    obtain ⟨y, hy⟩ : ∃ y, y = v.rdE a := ⟨_, rfl⟩
    have d2 : (y == 0) = false := by rw [hy]; simpa using hE
    rw [← hy] at HE0 HRD
    clear hE hy e1 hV
    unfold hdrV at HRD
    go_enter Tryz.func184, Tryz.ntmps184
    go_wp2_with (go_at_call 108; refine (HRD.out _ (Gr.refl w)).mono ?_; rintro e w1 ⟨rfl, hg1⟩; have HG1 := hid hg1; clear hg1)
    go_ret2
    exact ⟨ret2 (vint (by rw [HE0.out.2])) (vint (by rw [HE0.out.1])), HG1.out.alloc _⟩
set_option maxRecDepth 100000 in
set_option maxHeartbeats 1600000 in
theorem obj_get (hV : VmAt w S q v) (a i kd : Int) (hk : kd ≠ 0) : Calls Tryz.prog 183 #[spV q, .int .i64 a, .int .i64 i, .int .i64 kd] w fun e w' => e = .returned (.tuple #[.int .u64 (v.gtV a i kd : Nat), .int .i64 (v.gtE a i kd)]) ∧ Gr w w' := by
  have HV := hid hV
  have HRD := hid (fun (w' : World) (g : Gr w w') => obj_place (hV.gr g) a i kd hk)
  have n1 := nil_load
  have n2 := method_load
  unfold spV at HRD ⊢
  by_cases hE : v.plE a i kd = 0
  · have HE : Hid (v.gtE a i kd = v.ldE (a + 1 + i) ∧ v.gtV a i kd = v.ldV (a + 1 + i)) := ⟨⟨if_neg (fun h => h hE), if_neg (fun h => h hE)⟩⟩
    have HA : Hid (v.plA a i kd = a + 1 + i) := ⟨if_pos hE⟩
    rw [hE, HA.out] at HRD
    have HL := hid (fun (w' : World) (g : Gr w w') => vm_load (hV.gr g) (a + 1 + i))
    generalize a + 1 + i = at' at HE HRD HL
    clear hE hV HA
    go_enter Tryz.func183, Tryz.ntmps183
    go_wp2_with (first
      | (go_at_call 184; refine (HRD.out _ (Gr.refl w)).mono ?_; rintro e w1 ⟨rfl, hg1⟩; have HG1 := hid hg1; clear hg1)
      | (go_at_call 64; refine (HL.out _ HG1.out).mono ?_; rintro e w2 ⟨rfl, hg2⟩; have HG2 := hid hg2; clear hg2))
    go_ret2
    exact ⟨ret2 (congrArg (fun n : Nat => Value.int .u64 (n : Int)) HE.out.2.symm) (vint HE.out.1.symm), HG1.out.trans HG2.out⟩
  · have HE : Hid (v.gtE a i kd = v.plE a i kd ∧ v.gtV a i kd = 0) := ⟨⟨if_pos hE, if_pos hE⟩⟩
    obtain ⟨y, hy⟩ : ∃ y, y = v.plE a i kd := ⟨_, rfl⟩
    have d2 : (y == 0) = false := by rw [hy]; simpa using hE
    rw [← hy] at HE HRD
    clear hE hy hV
    go_enter Tryz.func183, Tryz.ntmps183
    go_wp2_with (go_at_call 184; refine (HRD.out _ (Gr.refl w)).mono ?_; rintro e w1 ⟨rfl, hg1⟩; have HG1 := hid hg1; clear hg1)
    go_ret2
    exact ⟨ret2 (congrArg (fun n : Nat => Value.int .u64 (n : Int)) HE.out.2.symm) (vint HE.out.1.symm), HG1.out⟩
theorem gtV_lt (hok : VmOk v) (a i kd : Int) : v.gtV a i kd < 18446744073709551616 := by
  unfold Vm.gtV
  split
  · decide
  · exact hok.ldV_lt _
set_option maxRecDepth 100000 in
set_option maxHeartbeats 1600000 in
theorem obj_pointer (hV : VmAt w S q v) (a i : Int) : Calls Tryz.prog 134 #[spV q, .int .i64 a, .int .i64 i] w fun e w' => e = .returned (.tuple #[.int .i64 (v.ptV a i : Nat), .int .i64 (v.ptE a i)]) ∧ Gr w w' := by
  have HRD := hid (fun (w' : World) (g : Gr w w') => obj_get (hV.gr g) a i 1 (by decide))
  have hx := gtV_lt hV.ok a i 1
  unfold spV at HRD ⊢
  by_cases hE : v.gtE a i 1 = 0
  · by_cases hb : 2147483647 < v.gtV a i 1
    · have e1 : v.ptE a i = 25 := by unfold Vm.ptE; rw [if_neg (fun h => h hE), if_pos hb]
      have HE : Hid (v.ptE a i = 25 ∧ v.ptV a i = 0) := ⟨⟨e1, by unfold Vm.ptV; rw [if_neg (by rw [e1]; decide)]⟩⟩
      rw [hE] at HRD
      generalize v.gtV a i 1 = x at HRD hb hx
      have d0 : decide (2147483647 < (x : Int)) = true := decide_eq_true (by omega)
      clear hE hV e1
      go_enter Tryz.func134, Tryz.ntmps134
      go_wp2_with (go_at_call 183; refine (HRD.out _ (Gr.refl w)).mono ?_; rintro e w1 ⟨rfl, hg1⟩; have HG1 := hid hg1; clear hg1)
      go_ret2
      exact ⟨ret2 (congrArg (fun n : Nat => Value.int .i64 (n : Int)) HE.out.2.symm) (vint HE.out.1.symm), HG1.out⟩
    · have e1 : v.ptE a i = 0 := by unfold Vm.ptE; rw [if_neg (fun h => h hE), if_neg hb]
      have HE : Hid (v.ptE a i = 0 ∧ v.ptV a i = v.gtV a i 1) := ⟨⟨e1, by unfold Vm.ptV; rw [if_pos e1]⟩⟩
      rw [hE] at HRD
      generalize v.gtV a i 1 = x at HRD hb hx HE
      have d0 : decide (2147483647 < (x : Int)) = false := decide_eq_false (by omega)
      clear hE hV e1
      go_enter Tryz.func134, Tryz.ntmps134
      go_wp2_with (go_at_call 183; refine (HRD.out _ (Gr.refl w)).mono ?_; rintro e w1 ⟨rfl, hg1⟩; have HG1 := hid hg1; clear hg1)
      go_ret2
      exact ⟨ret2 (congrArg (fun n : Nat => Value.int .i64 (n : Int)) HE.out.2.symm) (vint HE.out.1.symm), HG1.out⟩
  · have e1 : v.ptE a i = v.gtE a i 1 := by unfold Vm.ptE; rw [if_pos hE]
    have HE : Hid (v.ptE a i = v.gtE a i 1 ∧ v.ptV a i = 0) := ⟨⟨e1, by unfold Vm.ptV; rw [if_neg (by rw [e1]; exact hE)]⟩⟩
    obtain ⟨y, hy⟩ : ∃ y, y = v.gtE a i 1 := ⟨_, rfl⟩
    have d2 : (y == 0) = false := by rw [hy]; simpa using hE
    rw [← hy] at HE HRD
    clear hE hy hV e1
    go_enter Tryz.func134, Tryz.ntmps134
    go_wp2_with (go_at_call 183; refine (HRD.out _ (Gr.refl w)).mono ?_; rintro e w1 ⟨rfl, hg1⟩; have HG1 := hid hg1; clear hg1)
    go_ret2
    exact ⟨ret2 (congrArg (fun n : Nat => Value.int .i64 (n : Int)) HE.out.2.symm) (vint HE.out.1.symm), HG1.out⟩
end
end Go.Proofs.YtbmidhlilafgeaaGreatDoor
end
