/- Part 4 of what PackingPlays leans on: my own lemmas, merged by shake.py. -/
import Derived.Test.YtbmidhlilafgeaaGreatDoorPackingPlaysC
import Derived.Laws.BitsAllLaws
import Derived.Laws.Bits64b
import Derived.Shelf.Abstract
import Derived.Shelf.RegionOpen
import Derived.OwnWalkIn
import Derived.TacticsInMore
import Derived.LoopNIn
import Derived.LoopIn
import Derived.Stop.RegionWithIn
import Derived.Sort.CutIn
section
section
namespace Go.Proofs.YtbmidhlilafgeaaGreatDoor
open Go.RowKit Word

/-- A header: pointers, floats, words. -/
structure Hdr where
  p : Int
  f : Int
  k : Int
def hdrV (h : Hdr) : Value := .agg #[.int .i64 h.p, .int .i64 h.f, .int .i64 h.k]
def inS (x : Int) : Bool := decide (0 ≤ x ∧ x < 256)
def hdrE (h : Hdr) : Int := if inS h.p && inS h.f && inS h.k && decide (h.p + h.f + h.k < 256) then 0 else 15
def hdrN (h : Hdr) : Int := if hdrE h = 0 then 1 + h.p + h.f + h.k else 0
theorem inS_cut (x : Int) : (decide (x < 0) = true ∧ inS x = false) ∨ (decide (x < 0) = false ∧ decide (256 ≤ x) = true ∧ inS x = false) ∨ (decide (x < 0) = false ∧ decide (256 ≤ x) = false ∧ inS x = true) := by
  unfold inS
  by_cases h0 : x < 0
  · exact .inl ⟨decide_eq_true h0, decide_eq_false (by omega)⟩
  · by_cases h1 : 256 ≤ x
    · exact .inr (.inl ⟨decide_eq_false h0, decide_eq_true h1, decide_eq_false (by omega)⟩)
    · exact .inr (.inr ⟨decide_eq_false h0, decide_eq_false h1, decide_eq_true (by omega)⟩)
theorem hdrE_zero {h : Hdr} (he : hdrE h = 0) : ∃ a b c : Nat, h = ⟨a, b, c⟩ ∧ a + b + c ≤ 255 := by
  unfold hdrE inS at he
  split at he
  · rename_i hh
    simp only [Bool.and_eq_true, decide_eq_true_eq] at hh
    obtain ⟨p, f, k⟩ := h
    simp only at hh
    exact ⟨p.toNat, f.toNat, k.toNat, by congr <;> omega, by omega⟩
  · cases he
theorem hdrE_of {a b c : Nat} (h : a + b + c ≤ 255) : hdrE ⟨a, b, c⟩ = 0 := by
  unfold hdrE inS
  simp only []
  rw [decide_eq_true (by omega), decide_eq_true (by omega), decide_eq_true (by omega), decide_eq_true (by omega)]
  rfl
theorem hdrE_two (h : Hdr) : hdrE h = 0 ∨ hdrE h = 15 := by unfold hdrE; split <;> simp
section
variable {w : World}
set_option maxRecDepth 100000 in
set_option maxHeartbeats 1600000 in
theorem hdr_check (h : Hdr) (w : World) : Calls Tryz.prog 118 #[hdrV h] w fun e w' => e = .returned (.int .i64 (hdrE h)) ∧ Gr w w' := by
  obtain ⟨p, f, k⟩ := h
  unfold hdrV
  simp only []
  have HE : Hid (hdrE ⟨p, f, k⟩ = if inS p && inS f && inS k && decide (p + f + k < 256) then 0 else 15) := ⟨rfl⟩
  have HN : ∀ x, x = p ∨ x = f ∨ x = k → Hid (inS x = false → hdrE ⟨p, f, k⟩ = 15) := fun x hx => ⟨fun h0 => by
    rw [HE.out]
    rcases hx with rfl | rfl | rfl <;> rw [h0] <;> simp⟩
  have HY : Hid (inS p = true → inS f = true → inS k = true → hdrE ⟨p, f, k⟩ = if p + f + k < 256 then 0 else 15) := ⟨fun a b c => by
    rw [HE.out, a, b, c]
    by_cases h : p + f + k < 256 <;> simp [h]⟩
  have H0 := HN p (.inl rfl)
  have H1 := HN f (.inr (.inl rfl))
  have H2 := HN k (.inr (.inr rfl))
  clear HN
  obtain ⟨E, hE⟩ : ∃ E, E = hdrE ⟨p, f, k⟩ := ⟨_, rfl⟩
  rw [← hE] at H0 H1 H2 HY HE ⊢
  clear hE
  have i0 : ∀ W, (Instr.index 157 (.agg #[.int .i64 p, .int .i64 f, .int .i64 k]) (.int .i64 0)).run Tryz.prog W = .ok (.int .i64 p) W := fun _ => by kernel_rfl
  have i1 : ∀ W, (Instr.index 157 (.agg #[.int .i64 p, .int .i64 f, .int .i64 k]) (.int .i64 1)).run Tryz.prog W = .ok (.int .i64 f) W := fun _ => by kernel_rfl
  have i2 : ∀ W, (Instr.index 157 (.agg #[.int .i64 p, .int .i64 f, .int .i64 k]) (.int .i64 2)).run Tryz.prog W = .ok (.int .i64 k) W := fun _ => by kernel_rfl
  go_enter Tryz.func118, Tryz.ntmps118
  go_wp2
  go_loop [12] (fun i => ∃ j : Nat, j ≤ 3 ∧ i = .int .i64 j ∧ Hid ((1 ≤ j → inS p = true) ∧ (2 ≤ j → inS f = true) ∧ (3 ≤ j → inS k = true))) (fun i => 3 - (intOf i).toNat)
  case atStart => exact ⟨0, by omega, rfl, ⟨fun h => by omega, fun h => by omega, fun h => by omega⟩⟩
  case round =>
    obtain ⟨j, hj, rfl, HJ⟩ := hrel
    rcases (by omega : j = 0 ∨ j = 1 ∨ j = 2 ∨ j = 3) with rfl | rfl | rfl | rfl
    · rcases inS_cut p with ⟨p0, E1⟩ | ⟨p0, p1, E1⟩ | ⟨p0, p1, E1⟩
      · have E1 := hid E1
        go_wp2
        go_ret
        exact ⟨ret_int (H0.out E1.out).symm, (Gr.refl w).alloc _⟩
      · have E1 := hid E1
        go_wp2
        go_ret
        exact ⟨ret_int (H0.out E1.out).symm, (Gr.refl w).alloc _⟩
      · have E1 := hid E1
        go_wp2
        go_round
        case rel => exact ⟨1, by omega, by go_num, ⟨fun _ => E1.out, fun h => by omega, fun h => by omega⟩⟩
        case measure => simp [intOf]
    · rcases inS_cut f with ⟨p0, E1⟩ | ⟨p0, p1, E1⟩ | ⟨p0, p1, E1⟩
      · have E1 := hid E1
        go_wp2
        go_ret
        exact ⟨ret_int (H1.out E1.out).symm, (Gr.refl w).alloc _⟩
      · have E1 := hid E1
        go_wp2
        go_ret
        exact ⟨ret_int (H1.out E1.out).symm, (Gr.refl w).alloc _⟩
      · have E1 := hid E1
        go_wp2
        go_round
        case rel => exact ⟨2, by omega, by go_num, ⟨fun _ => HJ.out.1 (by omega), fun _ => E1.out, fun h => by omega⟩⟩
        case measure => simp [intOf]
    · rcases inS_cut k with ⟨p0, E1⟩ | ⟨p0, p1, E1⟩ | ⟨p0, p1, E1⟩
      · have E1 := hid E1
        go_wp2
        go_ret
        exact ⟨ret_int (H2.out E1.out).symm, (Gr.refl w).alloc _⟩
      · have E1 := hid E1
        go_wp2
        go_ret
        exact ⟨ret_int (H2.out E1.out).symm, (Gr.refl w).alloc _⟩
      · have E1 := hid E1
        go_wp2
        go_round
        case rel => exact ⟨3, by omega, by go_num, ⟨fun _ => HJ.out.1 (by omega), fun _ => HJ.out.2.1 (by omega), fun _ => E1.out⟩⟩
        case measure => simp [intOf]
    · have j1 := HJ.out.1 (by omega)
      have j2 := HJ.out.2.1 (by omega)
      have j3 := HJ.out.2.2 (by omega)
      have HZ := hid (HY.out j1 j2 j3)
      unfold inS at j1 j2 j3
      simp only [decide_eq_true_eq] at j1 j2 j3
      clear i0 i1 i2
      by_cases hs : p + f + k < 256
      · have d0 : decide (256 ≤ p + f + k) = false := decide_eq_false (by omega)
        have HS := hid hs
        clear hs
        go_wp2
        go_ret
        exact ⟨ret_int (by rw [HZ.out, if_pos HS.out]), (Gr.refl w).alloc _⟩
      · have d0 : decide (256 ≤ p + f + k) = true := decide_eq_true (by omega)
        have HS := hid hs
        clear hs
        go_wp2
        go_ret
        exact ⟨ret_int (by rw [HZ.out, if_neg (by have := HS.out; omega)]), (Gr.refl w).alloc _⟩
set_option maxRecDepth 100000 in
set_option maxHeartbeats 1600000 in
theorem hdr_size (h : Hdr) (w : World) : Calls Tryz.prog 55 #[hdrV h] w fun e w' => e = .returned (.int .i64 (hdrN h)) ∧ Gr w w' := by
  have HC := hid (fun W => hdr_check h W)
  rcases hdrE_two h with he | he
  · obtain ⟨a, b, c, rfl, hs⟩ := hdrE_zero he
    have HE := hid he
    have HN : Hid (hdrN ⟨a, b, c⟩ = 1 + (a : Int) + b + c) := ⟨if_pos he⟩
    unfold hdrV at HC ⊢
    clear he
    go_enter Tryz.func55, Tryz.ntmps55
    go_wp2_with (go_at_call 118; refine (HC.out _).mono ?_; rintro e w1 ⟨rfl, hg1⟩; rw [HE.out]; have hl := (Gr.refl w).alloc (.cells #[.int .i64 a, .int .i64 b, .int .i64 c] 90); have k0 := (hg1.cell (b := w.heap.size) (by simp) 0).trans (World.cell?_alloc_at _ _ _ 0 rfl); have k1 := (hg1.cell (b := w.heap.size) (by simp) 1).trans (World.cell?_alloc_at _ _ _ 1 rfl); have k2 := (hg1.cell (b := w.heap.size) (by simp) 2).trans (World.cell?_alloc_at _ _ _ 2 rfl); have HG1 := hid (hl.trans hg1); clear hg1 hl)
    go_ret
    exact ⟨ret_int (by rw [HN.out]), HG1.out⟩
  · have HE := hid he
    have HN : Hid (hdrN h = 0) := ⟨if_neg (by rw [he]; decide)⟩
    unfold hdrV at HC ⊢
    clear he
    go_enter Tryz.func55, Tryz.ntmps55
    go_wp2_with (go_at_call 118; refine (HC.out _).mono ?_; rintro e w1 ⟨rfl, hg1⟩; rw [HE.out]; have HG1 := hid (((Gr.refl w).alloc _).trans hg1); clear hg1)
    go_ret
    exact ⟨ret_int (by rw [HN.out]), HG1.out⟩
end
end Go.Proofs.YtbmidhlilafgeaaGreatDoor
end

section
namespace Go.Proofs.YtbmidhlilafgeaaGreatDoor
open Go.RowKit Word

/-- The low half of a header's word. -/
def hdrL (a b c : Nat) : Nat := a + 256 * b + 65536 * c + 2768240640
def hdrW (a b c : Nat) : Nat := (4294967295 - hdrL a b c) * 4294967296 + hdrL a b c
def kindOf (h : Hdr) (i : Int) : Int := if 0 ≤ i ∧ i < hdrN h - 1 then (if i < h.p then 1 else if i < h.p + h.f then 2 else 3) else 0
theorem or_mulT (a b i m : Nat) (hm : m = 2 ^ i) (h : a < m) : a ||| (b * m) = b * m + a := by
  subst hm
  rw [Nat.or_comm, ← Nat.shiftLeft_eq, Nat.shiftLeft_add_eq_or_of_lt h]
theorem u32_not (n : Nat) (hn : n < 4294967296) : bits .xor .u32 IntKind.u32.max (n : Int) = ((4294967295 - n : Nat) : Int) := by
  have h1 : (BitVec.ofInt 32 (n : Int)).toNat = n := by
    rw [BitVec.ofInt_natCast, BitVec.toNat_ofNat]; exact Nat.mod_eq_of_lt (by omega)
  have h2 : BitVec.ofInt 32 IntKind.u32.max = BitVec.allOnes 32 := by decide
  show IntKind.u32.wrap ((BitVec.ofInt 32 IntKind.u32.max ^^^ BitVec.ofInt 32 (n : Int)).toNat : Int) = _
  rw [h2, BitVec.allOnes_xor, BitVec.toNat_not, h1, IntKind.wrap_u32]
  omega
theorem hdrL_bits {a b c : Nat} (hs : a + b + c ≤ 255) : bits .or .u32 (bits .or .u32 (bits .or .u32 (a : Int) ((b : Int) * 256)) ((c : Int) * 65536)) 2768240640 = ((hdrL a b c : Nat) : Int) := by
  have e1 : ((b : Int) * 256) = ((b * 256 : Nat) : Int) := by omega
  have e2 : ((c : Int) * 65536) = ((c * 65536 : Nat) : Int) := by omega
  have e3 : (2768240640 : Int) = ((165 * 16777216 : Nat) : Int) := by omega
  rw [e1, e2, e3, u32_or_nat a (b * 256) (by omega) (by omega), or_mulT a b 8 256 (by decide) (by omega), u32_or_nat _ (c * 65536) (by omega) (by omega), or_mulT _ c 16 65536 (by decide) (by omega), u32_or_nat _ (165 * 16777216) (by omega) (by omega), or_mulT _ 165 24 16777216 (by decide) (by omega)]
  unfold hdrL
  omega
theorem hdrL_lt {a b c : Nat} (hs : a + b + c ≤ 255) : hdrL a b c < 4294967296 := by unfold hdrL; omega
theorem hdrW_bits {n : Nat} (hn : n < 4294967296) : bits .or .u64 (((4294967295 - n : Nat) : Int) * 4294967296) (n : Int) = (((4294967295 - n) * 4294967296 + n : Nat) : Int) := by
  have e1 : (((4294967295 - n : Nat) : Int) * 4294967296) = (((4294967295 - n) * 4294967296 : Nat) : Int) := by omega
  rw [e1, bits_or_u64_nat _ _ (by omega) (by omega), Nat.or_comm, or_mulT _ _ 32 4294967296 (by decide) hn]
set_option maxRecDepth 100000 in
set_option maxHeartbeats 1600000 in
theorem hdr_put_ok {a b c : Nat} (hs : a + b + c ≤ 255) (w : World) : Calls Tryz.prog 124 #[hdrV ⟨a, b, c⟩] w fun e w' => e = .returned (.tuple #[.int .u64 (hdrW a b c : Nat), .int .i64 0]) ∧ Gr w w' := by
  have HC := hid (fun W => hdr_check ⟨a, b, c⟩ W)
  have HE := hid (hdrE_of hs)
  have f1 := hdrL_bits hs
  have hn := hdrL_lt hs
  have HW : Hid (hdrW a b c = (4294967295 - hdrL a b c) * 4294967296 + hdrL a b c) := ⟨rfl⟩
  obtain ⟨n, hnn⟩ : ∃ n, n = hdrL a b c := ⟨_, rfl⟩
  rw [← hnn] at f1 hn HW
  have f2 := u32_not n hn
  have f3 := hdrW_bits hn
  have f4 : IntKind.u64.wrap (((4294967295 - n : Nat) : Int)) = ((4294967295 - n : Nat) : Int) := by rw [IntKind.wrap_u64]; omega
  have f5 : IntKind.u64.wrap (((4294967295 - n : Nat) : Int) * 4294967296) = ((4294967295 - n : Nat) : Int) * 4294967296 := by rw [IntKind.wrap_u64]; omega
  have f6 : IntKind.u64.wrap (n : Int) = (n : Int) := by rw [IntKind.wrap_u64]; omega
  generalize 4294967295 - n = m at f2 f3 f4 f5 HW
  clear hnn hn
  unfold hdrV at HC ⊢
  go_enter Tryz.func124, Tryz.ntmps124
  go_wp2_with (go_at_call 118; refine (HC.out _).mono ?_; rintro e w1 ⟨rfl, hg1⟩; rw [HE.out]; have hl := (Gr.refl w).alloc (.cells #[.int .i64 a, .int .i64 b, .int .i64 c] 90); have k0 := (hg1.cell (b := w.heap.size) (by simp) 0).trans (World.cell?_alloc_at _ _ _ 0 rfl); have k1 := (hg1.cell (b := w.heap.size) (by simp) 1).trans (World.cell?_alloc_at _ _ _ 1 rfl); have k2 := (hg1.cell (b := w.heap.size) (by simp) 2).trans (World.cell?_alloc_at _ _ _ 2 rfl); have HG1 := hid (hl.trans hg1); clear hg1 hl)
  go_ret2
  exact ⟨ret2 (by rw [HW.out]; rfl) rfl, HG1.out⟩
/-- Whether a word is a header's, and the header. -/
def tkOk (x : Nat) : Bool := decide (x % 4294967296 / 16777216 = 165) && decide (x / 4294967296 = 4294967295 - x % 4294967296) && decide (x % 256 + x / 256 % 256 + x / 65536 % 256 ≤ 255)
def tkH (x : Nat) : Hdr := if tkOk x then ⟨(x % 256 : Nat), (x / 256 % 256 : Nat), (x / 65536 % 256 : Nat)⟩ else ⟨0, 0, 0⟩
def tkE (x : Nat) : Int := if tkOk x then 0 else 16
theorem u32_low (n : Nat) (hn : n < 4294967296) : bits .and .u32 (n : Int) 255 = ((n % 256 : Nat) : Int) := by
  rw [show (255 : Int) = ((255 : Nat) : Int) from rfl, u32_and_nat n 255 hn (by omega)]
  have : n &&& 255 = n % 256 := Nat.and_two_pow_sub_one_eq_mod n 8
  skip
  rw [this]
theorem load_hdr (W : World) (blk : Nat) (p q r : Value) (h0 : W.cell? ⟨blk, 0, none⟩ = some p) (h1 : W.cell? ⟨blk, 1, none⟩ = some q) (h2 : W.cell? ⟨blk, 2, none⟩ = some r) : (loadVar 90 ⟨blk, 0, none⟩).run Tryz.prog W = .ok (.agg #[p, q, r]) W := by
  have a1 : (isAgg 90).run Tryz.prog W = .ok true W := by kernel_rfl
  have a2 : (sizeOf 90).run Tryz.prog W = .ok 3 W := by kernel_rfl
  simp [loadVar, Sem.run_bind, a1, a2, Result.andThen, loadCells, go_sem, h0, h1, h2]
theorem tk_recs {w w1 : World} {xs ys : List Value} (hg : Gr ((w.alloc (.cells xs.toArray 90)).alloc (.cells ys.toArray 90)) w1) : Rec w1 w.heap.size 90 xs ∧ Rec w1 (w.heap.size + 1) 90 ys := by
  refine ⟨((Rec.new w _ xs).gr ((Gr.refl _).alloc _)).gr hg, ?_⟩
  have := (Rec.new (w.alloc (.cells xs.toArray 90)) 90 ys).gr hg
  rw [World.size_alloc] at this
  exact this
theorem tk_gr {w w1 : World} {o o2 : Obj} (hg : Gr ((w.alloc o).alloc o2) w1) {x y z : Value} : Gr w (((w1.setCell ⟨w.heap.size, 0, none⟩ x).setCell ⟨w.heap.size, 1, none⟩ y).setCell ⟨w.heap.size, 2, none⟩ z) := by
  have h1 : Touch (fun k => w.heap.size ≤ k) w w1 := ((((Gr.refl w).alloc o).alloc o2).trans hg).touch _
  have h2 := ((h1.setCell (a := ⟨w.heap.size, 0, none⟩) (fun _ => Nat.le_refl _) x).setCell (a := ⟨w.heap.size, 1, none⟩) (fun _ => Nat.le_refl _) y).setCell (a := ⟨w.heap.size, 2, none⟩) (fun _ => Nat.le_refl _) z
  exact (h2.mono (fun k hk h => by omega)).gr
set_option maxRecDepth 100000 in
set_option maxHeartbeats 1600000 in
theorem hdr_take {x : Nat} (hx : x < 18446744073709551616) (w : World) : Calls Tryz.prog 165 #[.int .u64 x] w fun e w' => e = .returned (.tuple #[hdrV (tkH x), .int .i64 (tkE x)]) ∧ Gr w w' := by
  obtain ⟨n, hn⟩ : ∃ n, n = x % 4294967296 := ⟨_, rfl⟩
  obtain ⟨h, hh⟩ : ∃ h, h = x / 4294967296 := ⟨_, rfl⟩
  obtain ⟨a, ha⟩ : ∃ a, a = n % 256 := ⟨_, rfl⟩
  obtain ⟨b, hb⟩ : ∃ b, b = n / 256 % 256 := ⟨_, rfl⟩
  obtain ⟨c, hc⟩ : ∃ c, c = n / 65536 % 256 := ⟨_, rfl⟩
  obtain ⟨d, hd⟩ : ∃ d, d = n / 16777216 := ⟨_, rfl⟩
  obtain ⟨m, hm⟩ : ∃ m, m = 4294967295 - n := ⟨_, rfl⟩
  have hnl : n < 4294967296 := by omega
  have HT : Hid (tkOk x = (decide (d = 165) && decide (h = m) && decide (a + b + c ≤ 255)) ∧ tkH x = if tkOk x then ⟨(a : Nat), (b : Nat), (c : Nat)⟩ else ⟨0, 0, 0⟩) := ⟨by
    have e1 : x % 256 = a := by omega
    have e2 : x / 256 % 256 = b := by omega
    have e3 : x / 65536 % 256 = c := by omega
    unfold tkH tkOk
    rw [e1, e2, e3, ← hn, ← hd, ← hh, ← hm]
    exact ⟨rfl, rfl⟩⟩
  have g0 : (x : Int) % 4294967296 = (n : Int) := by omega
  have g5 : (x : Int) / 4294967296 = (h : Int) := by omega
  have g1 : bits .and .u32 (n : Int) 255 = (a : Int) := by rw [u32_low n hnl, ha]
  have g2 : bits .and .u32 ((n : Int) / 256) 255 = (b : Int) := by
    rw [show (n : Int) / 256 = ((n / 256 : Nat) : Int) by omega, u32_low _ (by omega), hb]
  have g3 : bits .and .u32 ((n : Int) / 65536) 255 = (c : Int) := by
    rw [show (n : Int) / 65536 = ((n / 65536 : Nat) : Int) by omega, u32_low _ (by omega), hc]
  have g4 : (n : Int) / 16777216 = (d : Int) := by omega
  have g6 : bits .xor .u32 IntKind.u32.max (n : Int) = (m : Int) := by rw [u32_not n hnl, hm]
  have ba : a ≤ 255 := by omega
  have bb : b ≤ 255 := by omega
  have bc : c ≤ 255 := by omega
  have HC := hid (fun W => hdr_check ⟨a, b, c⟩ W)
  have hEE : hdrE ⟨a, b, c⟩ = if a + b + c ≤ 255 then 0 else 15 := by
    unfold hdrE inS
    simp only []
    rw [decide_eq_true (by omega), decide_eq_true (by omega), decide_eq_true (by omega)]
    by_cases h : a + b + c ≤ 255
    · rw [if_pos h, decide_eq_true (by omega)]; rfl
    · rw [if_neg h, decide_eq_false (by omega)]; rfl
  have HEE := hid hEE
  clear hEE
  unfold hdrV at HC
  have KL := hid (show ∀ (W : World) (blk : Nat) (p q r : Value), W.cell? ⟨blk, 0, none⟩ = some p → W.cell? ⟨blk, 1, none⟩ = some q → W.cell? ⟨blk, 2, none⟩ = some r → (loadVar 90 ⟨blk, 0, none⟩).run Tryz.prog W = .ok (.agg #[p, q, r]) W by
    intro W blk p q r h0 h1 h2
    exact load_hdr W blk p q r h0 h1 h2)
  clear hn hh ha hb hc hd hm hnl
  by_cases t1 : d = 165
  · have HT1 := hid t1
    have d1 : ((d : Int) != 165) = false := by rw [t1]; rfl
    by_cases t2 : h = m
    · have HT2 := hid t2
      have d2 : ((h : Int) != (m : Int)) = false := by rw [t2]; simp
      have d3 : ¬ ¬ ((h : Int) = bits .xor .u32 IntKind.u32.max (n : Int)) := by rw [g6, t2]; simp
      by_cases t3 : a + b + c ≤ 255
      · have HK : Hid (hdrE ⟨a, b, c⟩ = 0) := ⟨by rw [HEE.out, if_pos t3]⟩
        have HE : Hid (tkH x = ⟨(a : Nat), (b : Nat), (c : Nat)⟩ ∧ tkE x = 0) := ⟨by
          have : tkOk x = true := by rw [HT.out.1, decide_eq_true t1, decide_eq_true t2, decide_eq_true t3]; rfl
          unfold tkE; rw [HT.out.2, this]; exact ⟨rfl, rfl⟩⟩
        clear t1 t2 t3 HT
        go_enter Tryz.func165, Tryz.ntmps165
        go_wp2_with (go_at_call 118; refine (HC.out _).mono ?_; rintro e w1 ⟨rfl, hg1⟩; rw [HK.out]; obtain ⟨r1, r2⟩ := tk_recs (xs := [.int .i64 0, .int .i64 0, .int .i64 0]) (ys := [.int .i64 a, .int .i64 b, .int .i64 c]) hg1; have k0 := r1.cell (j := 0) rfl; have k1 := r1.cell (j := 1) rfl; have k2 := r1.cell (j := 2) rfl; have kf := r1.free; have k3 := r2.cell (j := 0) rfl; have k4 := r2.cell (j := 1) rfl; have k5 := r2.cell (j := 2) rfl; have HR1 := hid r1; have HG1 := hid hg1; clear hg1 r1 r2)
        have R3 := Rec.set (Rec.set (Rec.set HR1.out 0 (.int .i64 a)) 1 (.int .i64 b)) 2 (.int .i64 c)
        refine bodyPost_ret (v := .tuple #[hdrV ⟨a, b, c⟩, .int .i64 0]) ?_ rfl ?_
        · rw [results_cell_tmp rfl]
          have hl := KL.out _ w.heap.size _ _ _ (R3.cell (j := 0) rfl) (R3.cell (j := 1) rfl) (R3.cell (j := 2) rfl)
          simp [asAddr, Result.andThen, hl, hdrV]
        · exact ⟨by rw [HE.out.1, HE.out.2], tk_gr HG1.out⟩
      · have HK : Hid (hdrE ⟨a, b, c⟩ = 15) := ⟨by rw [HEE.out, if_neg t3]⟩
        have HE : Hid (tkH x = ⟨0, 0, 0⟩ ∧ tkE x = 16) := ⟨by
          have : tkOk x = false := by rw [HT.out.1, decide_eq_false t3]; simp
          unfold tkE; rw [HT.out.2, this]; exact ⟨rfl, rfl⟩⟩
        clear t1 t2 t3 HT
        go_enter Tryz.func165, Tryz.ntmps165
        go_wp2_with (go_at_call 118; refine (HC.out _).mono ?_; rintro e w1 ⟨rfl, hg1⟩; rw [HK.out]; obtain ⟨r1, r2⟩ := tk_recs (xs := [.int .i64 0, .int .i64 0, .int .i64 0]) (ys := [.int .i64 a, .int .i64 b, .int .i64 c]) hg1; have k0 := r1.cell (j := 0) rfl; have k1 := r1.cell (j := 1) rfl; have k2 := r1.cell (j := 2) rfl; have kf := r1.free; have k3 := r2.cell (j := 0) rfl; have k4 := r2.cell (j := 1) rfl; have k5 := r2.cell (j := 2) rfl; have HR1 := hid r1; have HG1 := hid hg1; clear hg1 r1 r2)
        have R3 := Rec.set (Rec.set (Rec.set HR1.out 0 (.int .i64 0)) 1 (.int .i64 0)) 2 (.int .i64 0)
        refine bodyPost_ret (v := .tuple #[hdrV ⟨0, 0, 0⟩, .int .i64 16]) ?_ rfl ?_
        · rw [results_cell_tmp rfl]
          have hl := KL.out _ w.heap.size _ _ _ (R3.cell (j := 0) rfl) (R3.cell (j := 1) rfl) (R3.cell (j := 2) rfl)
          simp [asAddr, Result.andThen, hl, hdrV]
        · exact ⟨by rw [HE.out.1, HE.out.2], tk_gr HG1.out⟩
    · have d2 : ((h : Int) != (m : Int)) = true := by simp; omega
      have d3 : ¬ ((h : Int) = bits .xor .u32 IntKind.u32.max (n : Int)) := by rw [g6]; omega
      have HE : Hid (tkH x = ⟨0, 0, 0⟩ ∧ tkE x = 16) := ⟨by
        have : tkOk x = false := by rw [HT.out.1, decide_eq_false t2]; simp
        unfold tkE; rw [HT.out.2, this]; exact ⟨rfl, rfl⟩⟩
      clear t1 t2 HT
      go_enter Tryz.func165, Tryz.ntmps165
      go_wp2
      refine bodyPost_ret (v := .tuple #[hdrV ⟨0, 0, 0⟩, .int .i64 16]) ?_ rfl ?_
      · rw [results_cell_tmp rfl]
        simp [asAddr, Result.andThen, go_sem]
        rfl
      · exact ⟨by rw [HE.out.1, HE.out.2], ((Gr.refl w).alloc _).alloc _⟩
  · have d1 : ((d : Int) != 165) = true := by simp; omega
    have d3 : ¬ ((d : Int) = 165) := by omega
    have d4 : ¬ ((n : Int) / 16777216 = 165) := by omega
    have HE : Hid (tkH x = ⟨0, 0, 0⟩ ∧ tkE x = 16) := ⟨by
      have : tkOk x = false := by rw [HT.out.1, decide_eq_false t1]; simp
      unfold tkE; rw [HT.out.2, this]; exact ⟨rfl, rfl⟩⟩
    clear t1 HT
    go_enter Tryz.func165, Tryz.ntmps165
    go_wp2
    refine bodyPost_ret (v := .tuple #[hdrV ⟨0, 0, 0⟩, .int .i64 16]) ?_ rfl ?_
    · rw [results_cell_tmp rfl]
      simp [asAddr, Result.andThen, go_sem]
      rfl
    · exact ⟨by rw [HE.out.1, HE.out.2], ((Gr.refl w).alloc _).alloc _⟩
set_option maxRecDepth 100000 in
set_option maxHeartbeats 1600000 in
theorem hdr_kind {a b c : Nat} (hs : a + b + c ≤ 255) (i : Int) (w : World) : Calls Tryz.prog 154 #[hdrV ⟨a, b, c⟩, .int .i64 i] w fun e w' => e = .returned (.int .i64 (kindOf ⟨a, b, c⟩ i)) ∧ Gr w w' := by
  have hN : hdrN ⟨a, b, c⟩ = 1 + (a : Int) + b + c := if_pos (hdrE_of hs)
  have HZ := hid (fun W => hdr_size ⟨a, b, c⟩ W)
  have HK : Hid (kindOf ⟨a, b, c⟩ i = if 0 ≤ i ∧ i < (a : Int) + b + c then (if i < a then 1 else if i < (a : Int) + b then 2 else 3) else 0) := ⟨by
    unfold kindOf
    rw [hN]
    simp only []
    by_cases h : 0 ≤ i ∧ i < (a : Int) + b + c
    · rw [if_pos h, if_pos (by omega)]
    · rw [if_neg h, if_neg (by omega)]⟩
  rw [hN] at HZ
  unfold hdrV at HZ ⊢
  clear hN
  by_cases h0 : i < 0
  · have d0 : decide (i < 0) = true := decide_eq_true h0
    have HE : Hid (kindOf ⟨a, b, c⟩ i = 0) := ⟨by rw [HK.out, if_neg (by omega)]⟩
    clear HK
    go_enter Tryz.func154, Tryz.ntmps154
    go_wp2
    go_ret
    exact ⟨ret_int (by rw [HE.out]), (Gr.refl w).alloc _⟩
  · have d0 : decide (i < 0) = false := decide_eq_false h0
    by_cases h1 : (a : Int) + b + c ≤ i
    · have HE : Hid (kindOf ⟨a, b, c⟩ i = 0) := ⟨by rw [HK.out, if_neg (by omega)]⟩
      have d1 : decide (1 + (a : Int) + b + c - 1 ≤ i) = true := decide_eq_true (by omega)
      clear HK
      go_enter Tryz.func154, Tryz.ntmps154
      go_wp2_with (go_at_call 55; refine (HZ.out _).mono ?_; rintro e w1 ⟨rfl, hg1⟩; have HG1 := hid (((Gr.refl w).alloc _).trans hg1); clear hg1)
      go_ret
      exact ⟨ret_int (by rw [HE.out]), HG1.out⟩
    · have d1 : decide (1 + (a : Int) + b + c - 1 ≤ i) = false := decide_eq_false (by omega)
      have HE : Hid (kindOf ⟨a, b, c⟩ i = if i < a then 1 else if i < (a : Int) + b then 2 else 3) := ⟨by rw [HK.out, if_pos (by omega)]⟩
      clear HK
      by_cases h2 : i < a
      · have d2 : decide (i < (a : Int)) = true := decide_eq_true h2
        go_enter Tryz.func154, Tryz.ntmps154
        go_wp2_with (go_at_call 55; refine (HZ.out _).mono ?_; rintro e w1 ⟨rfl, hg1⟩; have k0 := (hg1.cell (b := w.heap.size) (by simp) 0).trans (World.cell?_alloc_at _ _ _ 0 rfl); have k1 := (hg1.cell (b := w.heap.size) (by simp) 1).trans (World.cell?_alloc_at _ _ _ 1 rfl); have HG1 := hid (((Gr.refl w).alloc _).trans hg1); clear hg1)
        go_ret
        exact ⟨ret_int (by rw [HE.out, if_pos h2]), HG1.out⟩
      · have d2 : decide (i < (a : Int)) = false := decide_eq_false h2
        by_cases h3 : i < (a : Int) + b
        · have d3 : decide (i < (a : Int) + (b : Int)) = true := decide_eq_true h3
          go_enter Tryz.func154, Tryz.ntmps154
          go_wp2_with (go_at_call 55; refine (HZ.out _).mono ?_; rintro e w1 ⟨rfl, hg1⟩; have k0 := (hg1.cell (b := w.heap.size) (by simp) 0).trans (World.cell?_alloc_at _ _ _ 0 rfl); have k1 := (hg1.cell (b := w.heap.size) (by simp) 1).trans (World.cell?_alloc_at _ _ _ 1 rfl); have HG1 := hid (((Gr.refl w).alloc _).trans hg1); clear hg1)
          go_ret
          exact ⟨ret_int (by rw [HE.out, if_neg (by omega), if_pos h3]), HG1.out⟩
        · have d3 : decide (i < (a : Int) + (b : Int)) = false := decide_eq_false h3
          go_enter Tryz.func154, Tryz.ntmps154
          go_wp2_with (go_at_call 55; refine (HZ.out _).mono ?_; rintro e w1 ⟨rfl, hg1⟩; have k0 := (hg1.cell (b := w.heap.size) (by simp) 0).trans (World.cell?_alloc_at _ _ _ 0 rfl); have k1 := (hg1.cell (b := w.heap.size) (by simp) 1).trans (World.cell?_alloc_at _ _ _ 1 rfl); have HG1 := hid (((Gr.refl w).alloc _).trans hg1); clear hg1)
          go_ret
          exact ⟨ret_int (by rw [HE.out, if_neg (by omega), if_neg (by omega)]), HG1.out⟩
end Go.Proofs.YtbmidhlilafgeaaGreatDoor
end

section
namespace Go.Proofs.YtbmidhlilafgeaaGreatDoor
open Go.RowKit Word

/-- A paged memory as a trap.Space. -/
def spV (q : Nat) : Value := .iface 31 (.pointer (some ⟨q, 0, none⟩))
theorem nil_load (n : Nat) (a : Addr) (w : World) : (nilAhead (n + 1) 31 (.pointer (some a)) "Load").run Tryz.prog w = .ok (some false) w := by kernel_rfl
theorem method_load (n : Nat) (a : Addr) (w : World) : (method (n + 1) 31 (.pointer (some a)) "Load").run Tryz.prog w = .ok (64, .pointer (some a)) w := by kernel_rfl
def Vm.rdH (v : Vm) (a : Int) : Hdr := if 0 < a ∧ v.ldE a = 0 then tkH (v.ldV a) else ⟨0, 0, 0⟩
def Vm.rdE (v : Vm) (a : Int) : Int := if a = 0 then 18 else if a < 0 then 5 else if v.ldE a = 0 then tkE (v.ldV a) else v.ldE a
theorem VmOk.ldV_lt {v : Vm} (h : VmOk v) (a : Int) : v.ldV a < 18446744073709551616 := by
  unfold Vm.ldV
  split
  · rw [List.getD_eq_getElem?_getD]
    rcases Nat.lt_or_ge (v.at a) v.pl.wd.length with hl | hl
    · rw [List.getElem?_eq_getElem hl]; exact h.pl.w64 _ (List.getElem_mem hl)
    · rw [List.getElem?_eq_none hl]; decide
  · decide
theorem rd_gr {w w1 : World} (hg : Gr w w1) {x y z : Value} : Gr w (((w1.setCell ⟨w.heap.size, 0, none⟩ x).setCell ⟨w.heap.size, 1, none⟩ y).setCell ⟨w.heap.size, 2, none⟩ z) := by
  have h1 : Touch (fun k => w.heap.size ≤ k) w w1 := hg.touch _
  have h2 := ((h1.setCell (a := ⟨w.heap.size, 0, none⟩) (fun _ => Nat.le_refl _) x).setCell (a := ⟨w.heap.size, 1, none⟩) (fun _ => Nat.le_refl _) y).setCell (a := ⟨w.heap.size, 2, none⟩) (fun _ => Nat.le_refl _) z
  exact (h2.mono (fun k hk h => by omega)).gr
section
variable {w : World} {S : Nat → Prop} {q : Nat} {v : Vm}
set_option maxRecDepth 100000 in
set_option maxHeartbeats 1600000 in
theorem obj_read (hV : VmAt w S q v) (a : Int) : Calls Tryz.prog 108 #[spV q, .int .i64 a] w fun e w' => e = .returned (.tuple #[hdrV (v.rdH a), .int .i64 (v.rdE a)]) ∧ Gr w w' := by
  have HV := hid hV
  have hx := hV.ok.ldV_lt a
  unfold spV
  have n1 := nil_load
  have n2 := method_load
  clear hV
  have KL := hid (fun (W : World) (blk : Nat) (p q r : Value) => load_hdr W blk p q r)
  rcases (by omega : a = 0 ∨ a < 0 ∨ 0 < a) with h0 | h0 | h0
  · subst h0
    go_enter Tryz.func108, Tryz.ntmps108
    go_wp2
    refine bodyPost_ret (v := .tuple #[hdrV ⟨0, 0, 0⟩, .int .i64 18]) ?_ rfl ?_
    · rw [results_cell_tmp rfl]
      simp [asAddr, Result.andThen, go_sem]
      rfl
    · exact ⟨rfl, (Gr.refl w).alloc _⟩
  · have d0 : (a == 0) = false := by simp; omega
    have d1 : decide (a < 0) = true := decide_eq_true h0
    have HE : Hid (v.rdH a = ⟨0, 0, 0⟩ ∧ v.rdE a = 5) := ⟨⟨if_neg (by omega), by unfold Vm.rdE; rw [if_neg (by omega), if_pos h0]⟩⟩
    go_enter Tryz.func108, Tryz.ntmps108
    go_wp2
    refine bodyPost_ret (v := .tuple #[hdrV ⟨0, 0, 0⟩, .int .i64 5]) ?_ rfl ?_
    · rw [results_cell_tmp rfl]
      simp [asAddr, Result.andThen, go_sem]
      rfl
    · exact ⟨by rw [HE.out.1, HE.out.2], (Gr.refl w).alloc _⟩
  · have d0 : (a == 0) = false := by simp; omega
    have d1 : decide (a < 0) = false := decide_eq_false (by omega)
    by_cases hE : v.ldE a = 0
    · have HE : Hid (v.rdH a = tkH (v.ldV a) ∧ v.rdE a = tkE (v.ldV a)) := ⟨⟨if_pos ⟨h0, hE⟩, by unfold Vm.rdE; rw [if_neg (by omega), if_neg (by omega), if_pos hE]⟩⟩
      have HL := hid hE
      have HT := hid (fun W => hdr_take hx W)
      have hh : hdrV (tkH (v.ldV a)) = .agg #[.int .i64 (tkH (v.ldV a)).p, .int .i64 (tkH (v.ldV a)).f, .int .i64 (tkH (v.ldV a)).k] := rfl
      rw [hh] at HT
      generalize tkH (v.ldV a) = h at HT HE
      generalize tkE (v.ldV a) = er at HT HE
      obtain ⟨p, f, k⟩ := h
      clear hE hh
      go_enter Tryz.func108, Tryz.ntmps108
      go_wp2_with (first
        | (go_at_call 64; refine (vm_load (HV.out.gr ((Gr.refl w).alloc _)) a).mono ?_; rintro e w1 ⟨rfl, hg1⟩; rw [HL.out]; have HG1 := hid (((Gr.refl w).alloc _).trans hg1); have HR1 := hid ((Rec.new w 90 [.int .i64 0, .int .i64 0, .int .i64 0]).gr hg1); clear hg1)
        | (go_at_call 165; refine (HT.out _).mono ?_; rintro e w2 ⟨rfl, hg2⟩; have r2 := HR1.out.gr hg2; have k0 := r2.cell (j := 0) rfl; have k1 := r2.cell (j := 1) rfl; have k2 := r2.cell (j := 2) rfl; have kf := r2.free; have HR2 := hid r2; have HG2 := hid hg2; clear hg2 r2))
      have R3 := Rec.set (Rec.set (Rec.set HR2.out 0 (.int .i64 p)) 1 (.int .i64 f)) 2 (.int .i64 k)
      refine bodyPost_ret (v := .tuple #[hdrV ⟨p, f, k⟩, .int .i64 er]) ?_ rfl ?_
      · rw [results_cell_tmp rfl]
        have hl := KL.out _ w.heap.size _ _ _ (R3.cell (j := 0) rfl) (R3.cell (j := 1) rfl) (R3.cell (j := 2) rfl)
        simp [asAddr, Result.andThen, hl, hdrV]
      · exact ⟨by rw [HE.out.1, HE.out.2], rd_gr (HG1.out.trans HG2.out)⟩
    · have HE : Hid (v.rdH a = ⟨0, 0, 0⟩ ∧ v.rdE a = v.ldE a) := ⟨⟨if_neg (fun h => hE h.2), by unfold Vm.rdE; rw [if_neg (by omega), if_neg (by omega), if_neg hE]⟩⟩
      obtain ⟨y, hy⟩ : ∃ y, y = v.ldE a := ⟨_, rfl⟩
      have d2 : (y == 0) = false := by rw [hy]; simpa using hE
      have HY := hid hy
      clear hE hy
      go_enter Tryz.func108, Tryz.ntmps108
      go_wp2_with (go_at_call 64; refine (vm_load (HV.out.gr ((Gr.refl w).alloc _)) a).mono ?_; rintro e w1 ⟨rfl, hg1⟩; rw [← HY.out]; have r2 := (Rec.new w 90 [.int .i64 0, .int .i64 0, .int .i64 0]).gr hg1; have k0 := r2.cell (j := 0) rfl; have k1 := r2.cell (j := 1) rfl; have k2 := r2.cell (j := 2) rfl; have kf := r2.free; have HR1 := hid r2; have HG1 := hid (((Gr.refl w).alloc _).trans hg1); clear hg1 r2)
      have R3 := Rec.set (Rec.set (Rec.set HR1.out 0 (.int .i64 0)) 1 (.int .i64 0)) 2 (.int .i64 0)
      refine bodyPost_ret (v := .tuple #[hdrV ⟨0, 0, 0⟩, .int .i64 y]) ?_ rfl ?_
      · rw [results_cell_tmp rfl]
        have hl := KL.out _ w.heap.size _ _ _ (R3.cell (j := 0) rfl) (R3.cell (j := 1) rfl) (R3.cell (j := 2) rfl)
        simp [asAddr, Result.andThen, hl, hdrV]
      · exact ⟨by rw [HE.out.1, HE.out.2, HY.out], rd_gr HG1.out⟩
end
end Go.Proofs.YtbmidhlilafgeaaGreatDoor
end

section
namespace Go.Proofs.YtbmidhlilafgeaaGreatDoor
open Go.RowKit Word

def Vm.plE (v : Vm) (a i kd : Int) : Int := if v.rdE a ≠ 0 then v.rdE a else if kindOf (v.rdH a) i = kd then 0 else if kindOf (v.rdH a) i = 0 then 19 else 20
def Vm.plA (v : Vm) (a i kd : Int) : Int := if v.plE a i kd = 0 then a + 1 + i else 0
def Vm.gtE (v : Vm) (a i kd : Int) : Int := if v.plE a i kd ≠ 0 then v.plE a i kd else v.ldE (a + 1 + i)
def Vm.gtV (v : Vm) (a i kd : Int) : Nat := if v.plE a i kd ≠ 0 then 0 else v.ldV (a + 1 + i)
def Vm.ptE (v : Vm) (a i : Int) : Int := if v.gtE a i 1 ≠ 0 then v.gtE a i 1 else if 2147483647 < v.gtV a i 1 then 25 else 0
def Vm.ptV (v : Vm) (a i : Int) : Nat := if v.ptE a i = 0 then v.gtV a i 1 else 0
theorem tkE_zero {x : Nat} (h : tkE x = 0) : ∃ p f k : Nat, tkH x = ⟨p, f, k⟩ ∧ p + f + k ≤ 255 := by
  unfold tkE at h
  split at h
  · rename_i ho
    refine ⟨x % 256, x / 256 % 256, x / 65536 % 256, if_pos ho, ?_⟩
    unfold tkOk at ho
    simp only [Bool.and_eq_true, decide_eq_true_eq] at ho
    exact ho.2
  · cases h
theorem rdE_zero {v : Vm} {a : Int} (h : v.rdE a = 0) : 0 < a ∧ v.ldE a = 0 ∧ ∃ p f k : Nat, v.rdH a = ⟨p, f, k⟩ ∧ p + f + k ≤ 255 := by
  unfold Vm.rdE at h
  split at h
  · cases h
  · split at h
    · cases h
    · split at h
      · rename_i h0
        have ha : 0 < a := by omega
        refine ⟨ha, h0, ?_⟩
        obtain ⟨p, f, k, e1, e2⟩ := tkE_zero h
        exact ⟨p, f, k, by unfold Vm.rdH; rw [if_pos ⟨ha, h0⟩]; exact e1, e2⟩
      · rename_i h0
        exact absurd h h0
theorem ldE_in {v : Vm} {a : Int} (h : v.ldE a = 0) : 0 ≤ a ∧ a < v.n := by
  obtain ⟨j, rfl, hj, -⟩ := VmOk.hit h
  omega
section
variable {w : World} {S : Nat → Prop} {q : Nat} {v : Vm}
set_option maxRecDepth 100000 in
set_option maxHeartbeats 1600000 in
theorem obj_place (hV : VmAt w S q v) (a i kd : Int) (hk : kd ≠ 0) : Calls Tryz.prog 184 #[spV q, .int .i64 a, .int .i64 i, .int .i64 kd] w fun e w' => e = .returned (.tuple #[.int .i64 (v.plA a i kd), .int .i64 (v.plE a i kd)]) ∧ Gr w w' := by
  have HV := hid hV
  have hn := hV.ok.n2
  have HRD := hid (fun (w' : World) (g : Gr w w') => obj_read (hV.gr g) a)
  by_cases hE : v.rdE a = 0
  · obtain ⟨ha, hl, p, f, k, hh, hs⟩ := rdE_zero hE
    have hr := ldE_in hl
    rw [hh] at HRD
    have HP : Hid (v.plE a i kd = if kindOf ⟨p, f, k⟩ i = kd then 0 else if kindOf ⟨p, f, k⟩ i = 0 then 19 else 20) := ⟨by unfold Vm.plE; rw [if_neg (fun h => h hE), hh]⟩
    have HA : Hid (v.plA a i kd = if v.plE a i kd = 0 then a + 1 + i else 0) := ⟨rfl⟩
    have HK := hid (fun W => hdr_kind hs i W)
    have hN : hdrN ⟨p, f, k⟩ = 1 + (p : Int) + f + k := if_pos (hdrE_of hs)
    have hki : kindOf ⟨p, f, k⟩ i ≠ 0 → 0 ≤ i ∧ i < 255 := fun h => by
      unfold kindOf at h
      split at h
      · rename_i h'
        rw [hN] at h'
        omega
      · exact absurd rfl h
    generalize kindOf ⟨(p : Int), (f : Int), (k : Int)⟩ i = kk at HP HK hki
    have HE := hid hE
    clear hE hl hh hs hN hV
    unfold hdrV at HRD HK
    by_cases h1 : kk = kd
    · have e0 : v.plE a i kd = 0 := by rw [HP.out, if_pos h1]
      have HE0 : Hid (v.plE a i kd = 0 ∧ v.plA a i kd = a + 1 + i) := ⟨⟨e0, by rw [HA.out, if_pos e0]⟩⟩
      have hii := hki (by rw [h1]; exact hk)
      have d0 : (kk == kd) = true := by simpa using h1
      clear h1 hki HP HA e0
      go_enter Tryz.func184, Tryz.ntmps184
      go_wp2_with (first
        | (go_at_call 108; refine (HRD.out _ (Gr.refl w)).mono ?_; rintro e w1 ⟨rfl, hg1⟩; rw [HE.out]; have HG1 := hid hg1; clear hg1)
        | (go_at_call 154; refine (HK.out _).mono ?_; rintro e w2 ⟨rfl, hg2⟩; have HG2 := hid hg2; clear hg2))
      go_ret2
      exact ⟨ret2 (vint (by rw [HE0.out.2])) (vint (by rw [HE0.out.1])), (HG1.out.alloc _).trans HG2.out⟩
    · have d0 : (kk == kd) = false := by simpa using h1
      by_cases h2 : kk = 0
      · have e0 : v.plE a i kd = 19 := by rw [HP.out, if_neg h1, if_pos h2]
        have HE0 : Hid (v.plE a i kd = 19 ∧ v.plA a i kd = 0) := ⟨⟨e0, by rw [HA.out, if_neg (by rw [e0]; decide)]⟩⟩
        have d1 : (kk == 0) = true := by simpa using h2
        clear h1 h2 hki HP HA e0
        go_enter Tryz.func184, Tryz.ntmps184
        go_wp2_with (first
          | (go_at_call 108; refine (HRD.out _ (Gr.refl w)).mono ?_; rintro e w1 ⟨rfl, hg1⟩; rw [HE.out]; have HG1 := hid hg1; clear hg1)
          | (go_at_call 154; refine (HK.out _).mono ?_; rintro e w2 ⟨rfl, hg2⟩; have HG2 := hid hg2; clear hg2))
        go_ret2
        exact ⟨ret2 (vint (by rw [HE0.out.2])) (vint (by rw [HE0.out.1])), (HG1.out.alloc _).trans HG2.out⟩
      · have e0 : v.plE a i kd = 20 := by rw [HP.out, if_neg h1, if_neg h2]
        have HE0 : Hid (v.plE a i kd = 20 ∧ v.plA a i kd = 0) := ⟨⟨e0, by rw [HA.out, if_neg (by rw [e0]; decide)]⟩⟩
        have d1 : (kk == 0) = false := by simpa using h2
        clear h1 h2 hki HP HA e0
        go_enter Tryz.func184, Tryz.ntmps184
        go_wp2_with (first
          | (go_at_call 108; refine (HRD.out _ (Gr.refl w)).mono ?_; rintro e w1 ⟨rfl, hg1⟩; rw [HE.out]; have HG1 := hid hg1; clear hg1)
          | (go_at_call 154; refine (HK.out _).mono ?_; rintro e w2 ⟨rfl, hg2⟩; have HG2 := hid hg2; clear hg2))
        go_ret2
        exact ⟨ret2 (vint (by rw [HE0.out.2])) (vint (by rw [HE0.out.1])), (HG1.out.alloc _).trans HG2.out⟩
  · have e1 : v.plE a i kd = v.rdE a := by unfold Vm.plE; rw [if_pos hE]
    have HE0 : Hid (v.plE a i kd = v.rdE a ∧ v.plA a i kd = 0) := ⟨⟨e1, by unfold Vm.plA; rw [if_neg (by rw [e1]; exact hE)]⟩⟩
    obtain ⟨y, hy⟩ : ∃ y, y = v.rdE a := ⟨_, rfl⟩
    have d2 : (y == 0) = false := by rw [hy]; simpa using hE
    rw [← hy] at HE0 HRD
    clear hE hy e1 hV
    unfold hdrV at HRD
    go_enter Tryz.func184, Tryz.ntmps184
    go_wp2_with (go_at_call 108; refine (HRD.out _ (Gr.refl w)).mono ?_; rintro e w1 ⟨rfl, hg1⟩; have HG1 := hid hg1; clear hg1)
    go_ret2
    exact ⟨ret2 (vint (by rw [HE0.out.2])) (vint (by rw [HE0.out.1])), HG1.out.alloc _⟩
set_option maxRecDepth 100000 in
set_option maxHeartbeats 1600000 in
theorem obj_get (hV : VmAt w S q v) (a i kd : Int) (hk : kd ≠ 0) : Calls Tryz.prog 183 #[spV q, .int .i64 a, .int .i64 i, .int .i64 kd] w fun e w' => e = .returned (.tuple #[.int .u64 (v.gtV a i kd : Nat), .int .i64 (v.gtE a i kd)]) ∧ Gr w w' := by
  have HV := hid hV
  have HRD := hid (fun (w' : World) (g : Gr w w') => obj_place (hV.gr g) a i kd hk)
  have n1 := nil_load
  have n2 := method_load
  unfold spV at HRD ⊢
  by_cases hE : v.plE a i kd = 0
  · have HE : Hid (v.gtE a i kd = v.ldE (a + 1 + i) ∧ v.gtV a i kd = v.ldV (a + 1 + i)) := ⟨⟨if_neg (fun h => h hE), if_neg (fun h => h hE)⟩⟩
    have HA : Hid (v.plA a i kd = a + 1 + i) := ⟨if_pos hE⟩
    rw [hE, HA.out] at HRD
    have HL := hid (fun (w' : World) (g : Gr w w') => vm_load (hV.gr g) (a + 1 + i))
    generalize a + 1 + i = at' at HE HRD HL
    clear hE hV HA
    go_enter Tryz.func183, Tryz.ntmps183
    go_wp2_with (first
      | (go_at_call 184; refine (HRD.out _ (Gr.refl w)).mono ?_; rintro e w1 ⟨rfl, hg1⟩; have HG1 := hid hg1; clear hg1)
      | (go_at_call 64; refine (HL.out _ HG1.out).mono ?_; rintro e w2 ⟨rfl, hg2⟩; have HG2 := hid hg2; clear hg2))
    go_ret2
    exact ⟨ret2 (congrArg (fun n : Nat => Value.int .u64 (n : Int)) HE.out.2.symm) (vint HE.out.1.symm), HG1.out.trans HG2.out⟩
  · have HE : Hid (v.gtE a i kd = v.plE a i kd ∧ v.gtV a i kd = 0) := ⟨⟨if_pos hE, if_pos hE⟩⟩
    obtain ⟨y, hy⟩ : ∃ y, y = v.plE a i kd := ⟨_, rfl⟩
    have d2 : (y == 0) = false := by rw [hy]; simpa using hE
    rw [← hy] at HE HRD
    clear hE hy hV
    go_enter Tryz.func183, Tryz.ntmps183
    go_wp2_with (go_at_call 184; refine (HRD.out _ (Gr.refl w)).mono ?_; rintro e w1 ⟨rfl, hg1⟩; have HG1 := hid hg1; clear hg1)
    go_ret2
    exact ⟨ret2 (congrArg (fun n : Nat => Value.int .u64 (n : Int)) HE.out.2.symm) (vint HE.out.1.symm), HG1.out⟩
theorem gtV_lt (hok : VmOk v) (a i kd : Int) : v.gtV a i kd < 18446744073709551616 := by
  unfold Vm.gtV
  split
  · decide
  · exact hok.ldV_lt _
set_option maxRecDepth 100000 in
set_option maxHeartbeats 1600000 in
theorem obj_pointer (hV : VmAt w S q v) (a i : Int) : Calls Tryz.prog 134 #[spV q, .int .i64 a, .int .i64 i] w fun e w' => e = .returned (.tuple #[.int .i64 (v.ptV a i : Nat), .int .i64 (v.ptE a i)]) ∧ Gr w w' := by
  have HRD := hid (fun (w' : World) (g : Gr w w') => obj_get (hV.gr g) a i 1 (by decide))
  have hx := gtV_lt hV.ok a i 1
  unfold spV at HRD ⊢
  by_cases hE : v.gtE a i 1 = 0
  · by_cases hb : 2147483647 < v.gtV a i 1
    · have e1 : v.ptE a i = 25 := by unfold Vm.ptE; rw [if_neg (fun h => h hE), if_pos hb]
      have HE : Hid (v.ptE a i = 25 ∧ v.ptV a i = 0) := ⟨⟨e1, by unfold Vm.ptV; rw [if_neg (by rw [e1]; decide)]⟩⟩
      rw [hE] at HRD
      generalize v.gtV a i 1 = x at HRD hb hx
      have d0 : decide (2147483647 < (x : Int)) = true := decide_eq_true (by omega)
      clear hE hV e1
      go_enter Tryz.func134, Tryz.ntmps134
      go_wp2_with (go_at_call 183; refine (HRD.out _ (Gr.refl w)).mono ?_; rintro e w1 ⟨rfl, hg1⟩; have HG1 := hid hg1; clear hg1)
      go_ret2
      exact ⟨ret2 (congrArg (fun n : Nat => Value.int .i64 (n : Int)) HE.out.2.symm) (vint HE.out.1.symm), HG1.out⟩
    · have e1 : v.ptE a i = 0 := by unfold Vm.ptE; rw [if_neg (fun h => h hE), if_neg hb]
      have HE : Hid (v.ptE a i = 0 ∧ v.ptV a i = v.gtV a i 1) := ⟨⟨e1, by unfold Vm.ptV; rw [if_pos e1]⟩⟩
      rw [hE] at HRD
      generalize v.gtV a i 1 = x at HRD hb hx HE
      have d0 : decide (2147483647 < (x : Int)) = false := decide_eq_false (by omega)
      clear hE hV e1
      go_enter Tryz.func134, Tryz.ntmps134
      go_wp2_with (go_at_call 183; refine (HRD.out _ (Gr.refl w)).mono ?_; rintro e w1 ⟨rfl, hg1⟩; have HG1 := hid hg1; clear hg1)
      go_ret2
      exact ⟨ret2 (congrArg (fun n : Nat => Value.int .i64 (n : Int)) HE.out.2.symm) (vint HE.out.1.symm), HG1.out⟩
  · have e1 : v.ptE a i = v.gtE a i 1 := by unfold Vm.ptE; rw [if_pos hE]
    have HE : Hid (v.ptE a i = v.gtE a i 1 ∧ v.ptV a i = 0) := ⟨⟨e1, by unfold Vm.ptV; rw [if_neg (by rw [e1]; exact hE)]⟩⟩
    obtain ⟨y, hy⟩ : ∃ y, y = v.gtE a i 1 := ⟨_, rfl⟩
    have d2 : (y == 0) = false := by rw [hy]; simpa using hE
    rw [← hy] at HE HRD
    clear hE hy hV e1
    go_enter Tryz.func134, Tryz.ntmps134
    go_wp2_with (go_at_call 183; refine (HRD.out _ (Gr.refl w)).mono ?_; rintro e w1 ⟨rfl, hg1⟩; have HG1 := hid hg1; clear hg1)
    go_ret2
    exact ⟨ret2 (congrArg (fun n : Nat => Value.int .i64 (n : Int)) HE.out.2.symm) (vint HE.out.1.symm), HG1.out⟩
end
end Go.Proofs.YtbmidhlilafgeaaGreatDoor
end
end
section
section
namespace Go.Proofs.YtbmidhlilafgeaaGreatDoor
open Go.RowKit Word

/-- A map m lies in w: of n words, with the objects L. -/
structure Ext (w : World) (m p1 b1 p2 b2 n : Nat) (L : List Ob) : Prop where
  good : Good n L
  v1 : Vec w p1 b1 (startsL n L)
  v2 : Vec w p2 b2 (endsL n L)
  hm : m < w.heap.size
  c0 : w.cell? ⟨m, 0, none⟩ = some (.pointer (some ⟨p1, 0, none⟩))
  c1 : w.cell? ⟨m, 1, none⟩ = some (.pointer (some ⟨p2, 0, none⟩))
  c2 : w.cell? ⟨m, 2, none⟩ = some (.int .i64 L.length)
  fr : w.frozen? ⟨m, 2, none⟩ = false
  am : m ≠ p1 ∧ m ≠ b1 ∧ m ≠ p2 ∧ m ≠ b2
  ab : p1 ≠ b2 ∧ p2 ≠ b1 ∧ b1 ≠ b2
theorem Ext.touch {S : Nat → Prop} {w w' : World} {m p1 b1 p2 b2 n : Nat} {L : List Ob} (h : Ext w m p1 b1 p2 b2 n L) (t : Touch S w w') (h1 : ¬ S m) (h2 : ¬ S p1) (h3 : ¬ S b1) (h4 : ¬ S p2) (h5 : ¬ S b2) : Ext w' m p1 b1 p2 b2 n L :=
  ⟨h.good, h.v1.touch t h2 h3, h.v2.touch t h4 h5, Nat.lt_of_lt_of_le h.hm t.size, (t.cell h.hm h1 0).trans h.c0, (t.cell h.hm h1 1).trans h.c1, (t.cell h.hm h1 2).trans h.c2, (t.frozen h.hm h1 2).trans h.fr, h.am, h.ab⟩
theorem Ext.gr {w w' : World} {m p1 b1 p2 b2 n : Nat} {L : List Ob} (h : Ext w m p1 b1 p2 b2 n L) (t : Gr w w') : Ext w' m p1 b1 p2 b2 n L :=
  h.touch (t.touch (fun _ => False)) (fun h => h) (fun h => h) (fun h => h) (fun h => h) (fun h => h)
theorem Ext.nb {w : World} {m p1 b1 p2 b2 n : Nat} {L : List Ob} (h : Ext w m p1 b1 p2 b2 n L) : 1 ≤ n ∧ n ≤ 1048576 := by
  have h1 := h.v1.n1
  have h2 := h.v1.n2
  rw [startsL_len] at h1 h2
  exact ⟨h1, h2⟩
/-- What is told of the object number j: none behind the last. -/
def obS (L : List Ob) (j : Nat) : Int := ((L[j]?.getD (0, 0)).1 : Nat)
def obZ (L : List Ob) (j : Nat) : Int := ((L[j]?.getD (0, 0)).2 : Nat)
theorem obS_in {L : List Ob} {j : Nat} (h : j < L.length) : obS L j = (L[j].1 : Nat) ∧ obZ L j = (L[j].2 : Nat) := by unfold obS obZ; rw [List.getElem?_eq_getElem h]; exact ⟨rfl, rfl⟩
theorem obS_out {L : List Ob} {j : Nat} (h : ¬ j < L.length) : obS L j = 0 ∧ obZ L j = 0 := by unfold obS obZ; rw [List.getElem?_eq_none (by omega)]; exact ⟨rfl, rfl⟩
def tellO (L : List Ob) (j : Nat) : Value := .tuple #[.int .i64 (obS L j), .int .i64 (obZ L j), .bool (decide (j < L.length))]
theorem tellO_in {L : List Ob} {j : Nat} (h : j < L.length) : tellO L j = .tuple #[.int .i64 (L[j].1 : Nat), .int .i64 (L[j].2 : Nat), .bool true] := by unfold tellO; rw [(obS_in h).1, (obS_in h).2, decide_eq_true h]
theorem tellO_out {L : List Ob} {j : Nat} (h : ¬ j < L.length) : tellO L j = .tuple #[.int .i64 0, .int .i64 0, .bool false] := by unfold tellO; rw [(obS_out h).1, (obS_out h).2, decide_eq_false h]

section
variable {w : World} {m p1 b1 p2 b2 n : Nat} {L : List Ob}
theorem ext_none (hE : Ext w m p1 b1 p2 b2 n L) : Calls Tryz.prog 151 #[.pointer (some ⟨m, 0, none⟩)] w fun e w' => e = .returned (.bool false) ∧ w = w' := by
  have c0 := hE.c0
  have HE := hid hE
  clear hE
  go_enter Tryz.func151, Tryz.ntmps151
  go_wp2
  go_ret
  exact ⟨rfl, rfl⟩
theorem ext_words (hE : Ext w m p1 b1 p2 b2 n L) : Calls Tryz.prog 147 #[.pointer (some ⟨m, 0, none⟩)] w fun e w' => e = .returned (.int .i64 n) ∧ w = w' := by
  have c0 := hE.c0
  have HE := hid hE
  have HL := hid (startsL_len n L)
  clear hE
  go_enter Tryz.func147, Tryz.ntmps147
  go_wp2_with (first
    | (go_at_call 151; refine (ext_none HE.out).mono ?_; rintro e w' ⟨rfl, rfl⟩)
    | (go_at_call 194; refine (len_vec HE.out.v1).mono ?_; rintro e w' ⟨rfl, rfl⟩; rw [HL.out]))
  go_ret
  exact ⟨rfl, rfl⟩
set_option maxHeartbeats 400000 in
theorem ext_size (hE : Ext w m p1 b1 p2 b2 n L) (hT : TabAt w) {j : Nat} (hj : j < L.length) :
    Calls Tryz.prog 153 #[.pointer (some ⟨m, 0, none⟩), .int .i64 (L[j].1 : Nat)] w fun e w' => e = .returned (.int .i64 (L[j].2 : Nat)) ∧ w = w' := by
  have c1 := hE.c1
  have hm := List.getElem_mem hj
  obtain ⟨hn1, hn2⟩ := next_end hE.good hm
  have hs := hE.good.sz _ hm
  have hb := hE.nb
  obtain ⟨s, hs'⟩ : ∃ s, s = L[j].1 := ⟨_, rfl⟩
  obtain ⟨z, hz'⟩ : ∃ z, z = L[j].2 := ⟨_, rfl⟩
  rw [← hs', ← hz'] at hn1 hn2 hs ⊢
  rw [← hn1] at hn2
  have HE := hid hE
  have HT := hid hT
  have HV := hid (And.intro (valN_yes hn2) hn1)
  have hsb : s + z ≤ 1048576 := by omega
  have hz1 : 1 ≤ z := hs.1
  clear hE hT hn1 hn2 hs' hz' hm hj
  go_enter Tryz.func153, Tryz.ntmps153
  go_wp2_with (go_at_call 191; refine (next_vec HE.out.v2 HT.out _).mono ?_; rintro e w' ⟨rfl, rfl⟩; rw [HV.out.1, HV.out.2])
  go_ret
  exact ⟨ret_int (by omega), rfl⟩
set_option maxHeartbeats 800000 in
theorem ext_next (hE : Ext w m p1 b1 p2 b2 n L) (hT : TabAt w) (a : Int) :
    Calls Tryz.prog 144 #[.pointer (some ⟨m, 0, none⟩), .int .i64 a] w fun e w' => e = .returned (tellO L (nextO L a)) ∧ w = w' := by
  have c0 := hE.c0
  have HE := hid hE
  have HT := hid hT
  by_cases hj : nextO L a < L.length
  · obtain ⟨h1, h2⟩ := next_start_yes hE.good hj
    rw [tellO_in hj]
    have HZ := hid (ext_size hE hT hj)
    have HV := hid (And.intro (valN_yes h2) (And.intro h1 (decide_eq_true h2)))
    clear hE hT h1 h2
    go_enter Tryz.func144, Tryz.ntmps144
    go_wp2_with (first
      | (go_at_call 151; refine (ext_none HE.out).mono ?_; rintro e w' ⟨rfl, rfl⟩)
      | (go_at_call 191; refine (next_vec HE.out.v1 HT.out _).mono ?_; rintro e w' ⟨rfl, rfl⟩; rw [HV.out.1, HV.out.2.2, HV.out.2.1])
      | (go_at_call 153; refine HZ.out.mono ?_; rintro e w' ⟨rfl, rfl⟩))
    go_ret3
    exact ⟨rfl, rfl⟩
  · have h1 := next_start_no hE.good hj
    rw [tellO_out hj]
    have HV : Hid (valN (startsL n L).length (nextL (startsL n L) a) = 0 ∧ decide (nextL (startsL n L) a < (startsL n L).length) = false) := ⟨by rw [h1]; exact ⟨valN_no (by omega), decide_eq_false (by omega)⟩⟩
    clear hE hT h1
    go_enter Tryz.func144, Tryz.ntmps144
    go_wp2_with (first
      | (go_at_call 151; refine (ext_none HE.out).mono ?_; rintro e w' ⟨rfl, rfl⟩)
      | (go_at_call 191; refine (next_vec HE.out.v1 HT.out _).mono ?_; rintro e w' ⟨rfl, rfl⟩; rw [HV.out.1, HV.out.2]))
    go_ret3
    exact ⟨rfl, rfl⟩
set_option maxHeartbeats 800000 in
theorem ext_find (hE : Ext w m p1 b1 p2 b2 n L) (hT : TabAt w) (a : Int) :
    Calls Tryz.prog 111 #[.pointer (some ⟨m, 0, none⟩), .int .i64 a] w fun e w' => e = .returned (tellO L (findO L a)) ∧ w = w' := by
  have c0 := hE.c0
  have hb := hE.nb
  have HE := hid hE
  have HT := hid hT
  by_cases h0 : a < 0
  · have d0 : decide (a < 0) = true := by simp [h0]
    rw [tellO_out (by rw [findO_none (fun o _ => by omega)]; omega)]
    clear hE hT
    go_enter Tryz.func111, Tryz.ntmps111
    go_wp2_with (go_at_call 151; refine (ext_none HE.out).mono ?_; rintro e w' ⟨rfl, rfl⟩)
    go_ret3
    exact ⟨rfl, rfl⟩
  · have d0 : decide (a < 0) = false := by simp; omega
    by_cases h1 : (n : Int) ≤ a
    · have d1 : decide ((n : Int) ≤ a) = true := by simp [h1]
      rw [tellO_out (by rw [findO_none (fun o ho => by have := hE.good.sz o ho; omega)]; omega)]
      clear hE hT
      go_enter Tryz.func111, Tryz.ntmps111
      go_wp2_with (first
        | (go_at_call 151; refine (ext_none HE.out).mono ?_; rintro e w' ⟨rfl, rfl⟩)
        | (go_at_call 147; refine (ext_words HE.out).mono ?_; rintro e w' ⟨rfl, rfl⟩))
      go_ret3
      exact ⟨rfl, rfl⟩
    · have d1 : decide ((n : Int) ≤ a) = false := by simp; omega
      rcases last_of hE.good a with ⟨hl, hall⟩ | ⟨j, hj, hl, hle, hall⟩
      · rw [tellO_out (by rw [findO_none (fun o ho => by have := hall o ho; omega)]; omega)]
        have HV : Hid (valI (lastL (startsL n L) (a + 1)) = 0 ∧ decide (0 ≤ lastL (startsL n L) (a + 1)) = false) := ⟨by rw [hl]; exact ⟨rfl, rfl⟩⟩
        clear hE hT hl hall
        go_enter Tryz.func111, Tryz.ntmps111
        go_wp2_with (first
          | (go_at_call 151; refine (ext_none HE.out).mono ?_; rintro e w' ⟨rfl, rfl⟩)
          | (go_at_call 147; refine (ext_words HE.out).mono ?_; rintro e w' ⟨rfl, rfl⟩)
          | (go_at_call 167; refine (last_vec HE.out.v1 _).mono ?_; rintro e w' ⟨rfl, rfl⟩; rw [HV.out.1, HV.out.2]))
        go_ret3
        exact ⟨rfl, rfl⟩
      · have HZ := hid (ext_size hE hT hj)
        have hs := hE.good.sz _ (List.getElem_mem hj)
        have HV : Hid (valI (lastL (startsL n L) (a + 1)) = (L[j].1 : Nat) ∧ decide (0 ≤ lastL (startsL n L) (a + 1)) = true) := ⟨by rw [hl]; exact ⟨if_pos (by omega), decide_eq_true (by omega)⟩⟩
        have hgood := hE.good
        by_cases hin : a < L[j].1 + L[j].2
        · have hf := findO_eq hgood hj hle hin
          rw [hf, tellO_in hj]
          generalize L[j].1 = s at *
          generalize L[j].2 = z at *
          have d2 : decide (((s : Int) + (z : Int)) ≤ a) = false := by simp; omega
          clear hE hT hl hall hgood hf
          go_enter Tryz.func111, Tryz.ntmps111
          go_wp2_with (first
            | (go_at_call 151; refine (ext_none HE.out).mono ?_; rintro e w' ⟨rfl, rfl⟩)
            | (go_at_call 147; refine (ext_words HE.out).mono ?_; rintro e w' ⟨rfl, rfl⟩)
            | (go_at_call 167; refine (last_vec HE.out.v1 _).mono ?_; rintro e w' ⟨rfl, rfl⟩; rw [HV.out.1, HV.out.2])
            | (go_at_call 153; refine HZ.out.mono ?_; rintro e w' ⟨rfl, rfl⟩))
          go_ret3
          exact ⟨rfl, rfl⟩
        · have hf : ¬ findO L a < L.length := by
            rw [findO_none (fun o ho => ?_)]; · omega
            obtain ⟨i, hi, rfl⟩ := List.getElem_of_mem ho
            rcases Nat.lt_trichotomy i j with h3 | rfl | h3
            · have := hgood.at hi hj h3; omega
            · omega
            · have := hall i hi h3; omega
          rw [tellO_out hf]
          generalize L[j].1 = s at *
          generalize L[j].2 = z at *
          have d2 : decide (((s : Int) + (z : Int)) ≤ a) = true := by simp; omega
          clear hE hT hl hall hgood hf
          go_enter Tryz.func111, Tryz.ntmps111
          go_wp2_with (first
            | (go_at_call 151; refine (ext_none HE.out).mono ?_; rintro e w' ⟨rfl, rfl⟩)
            | (go_at_call 147; refine (ext_words HE.out).mono ?_; rintro e w' ⟨rfl, rfl⟩)
            | (go_at_call 167; refine (last_vec HE.out.v1 _).mono ?_; rintro e w' ⟨rfl, rfl⟩; rw [HV.out.1, HV.out.2])
            | (go_at_call 153; refine HZ.out.mono ?_; rintro e w' ⟨rfl, rfl⟩))
          go_ret3
          exact ⟨rfl, rfl⟩
end
end Go.Proofs.YtbmidhlilafgeaaGreatDoor
end

section
namespace Go.Proofs.YtbmidhlilafgeaaGreatDoor
open Go.RowKit Word

section
variable {w : World} {m p1 b1 p2 b2 n : Nat} {L : List Ob}
def okV : Value → Bool
  | .bool b => b
  | _ => false
theorem obS_bd {n : Nat} {L : List Ob} (h : Good n L) (hn : n ≤ 1048576) (j : Nat) : 0 ≤ obS L j ∧ 0 ≤ obZ L j ∧ obS L j + obZ L j ≤ 1048576 := by
  by_cases hj : j < L.length
  · rw [(obS_in hj).1, (obS_in hj).2]
    have := h.sz _ (List.getElem_mem hj); omega
  · rw [(obS_out hj).1, (obS_out hj).2]; omega
/-- The tail of Live: the loop over the objects, from number nextO on. -/
theorem overs_bd {n : Nat} {L : List Ob} (h : Good n L) (hn : n ≤ 1048576) (j : Nat) (f t : Int) : 0 ≤ overs (L.take j) f t ∧ overs (L.take j) f t ≤ 1048576 := by
  have hg : Good n (L.take j) := ⟨h.pw.sublist (List.take_sublist ..), fun o ho => h.sz o (List.mem_of_mem_take ho)⟩
  have h1 := liveN_eq hg f t
  have h2 : liveN (L.take j) n f t ≤ n := cnt_le _ _
  omega
set_option maxRecDepth 100000 in
set_option maxHeartbeats 3200000 in
theorem ext_live (hE : Ext w m p1 b1 p2 b2 n L) (hT : TabAt w) (f t : Int) (hf : f ≤ 9223372036854775807) (ht : -9223372036854775808 ≤ t) :
    Calls Tryz.prog 145 #[.pointer (some ⟨m, 0, none⟩), .int .i64 f, .int .i64 t] w fun e w' => e = .returned (.int .i64 (overs L f t)) ∧ w = w' := by
  have hb := hE.nb
  have hg := hE.good
  have HE := hid hE
  have HT := hid hT
  rw [← overs_clip hg f t]
  obtain ⟨lo, hlo⟩ : ∃ lo, lo = max f 0 := ⟨_, rfl⟩
  obtain ⟨hi, hhi⟩ : ∃ hi, hi = min t (n : Int) := ⟨_, rfl⟩
  have hlo0 : 0 ≤ lo ∧ lo ≤ 9223372036854775807 := by omega
  have hhib : hi ≤ 1048576 ∧ -9223372036854775808 ≤ hi := by omega
  have HLO := hid hlo
  have HHI := hid hhi
  have hmax : ∀ w', (Builtin.max_ #[3, 3] 3 #[.int .i64 f, .int .i64 0]).run Tryz.prog w' = .ok (.int .i64 lo) w' := fun w' => by rw [run_maxB2, hlo]
  have hmin : ∀ w', (Builtin.min_ #[3, 3] 3 #[.int .i64 t, .int .i64 n]).run Tryz.prog w' = .ok (.int .i64 hi) w' := fun w' => by rw [run_minB2, hhi]
  rw [← hlo, ← hhi]
  have hmin2 := fun x y => run_minB2 Tryz.prog #[3, 3] 3 .i64 x y
  obtain ⟨jf, hjf⟩ : ∃ j, j = findO L lo := ⟨_, rfl⟩
  obtain ⟨jn, hjn⟩ : ∃ j, j = nextO L lo := ⟨_, rfl⟩
  have hjnl : jn ≤ L.length := by rw [hjn]; exact nextO_le _ _
  have hhead := overs_head hg (f := lo) (t := hi)
  rw [← hjf, ← hjn] at hhead
  have hss : ((L[jf]?.getD (0, 0)).1 : Int) = obS L jf := rfl
  have hzz : ((L[jf]?.getD (0, 0)).2 : Int) = obZ L jf := rfl
  rw [hss, hzz] at hhead
  have hbf := obS_bd hg hb.2 jf
  obtain ⟨s, hs⟩ : ∃ s, s = obS L jf := ⟨_, rfl⟩
  obtain ⟨z, hz⟩ : ∃ z, z = obZ L jf := ⟨_, rfl⟩
  obtain ⟨bf, hbff⟩ : ∃ b, b = decide (jf < L.length) := ⟨_, rfl⟩
  rw [← hs, ← hz] at hhead hbf
  have HF : Hid (tellO L (findO L lo) = .tuple #[.int .i64 s, .int .i64 z, .bool bf]) := ⟨by rw [hs, hz, hbff, hjf]; rfl⟩
  obtain ⟨s1, hs1⟩ : ∃ s, s = obS L jn := ⟨_, rfl⟩
  obtain ⟨z1, hz1⟩ : ∃ z, z = obZ L jn := ⟨_, rfl⟩
  obtain ⟨bn, hbn⟩ : ∃ b, b = decide (jn < L.length) := ⟨_, rfl⟩
  have HN : Hid (tellO L (nextO L lo) = .tuple #[.int .i64 s1, .int .i64 z1, .bool bn]) := ⟨by rw [hs1, hz1, hbn, hjn]; rfl⟩
  have HN1 := hid (And.intro hs1 (And.intro hz1 hbn))
  obtain ⟨v0, hv0⟩ : ∃ v, v = overs (L.take jn) lo hi := ⟨_, rfl⟩
  rw [← hv0] at hhead
  have HV0 := hid hv0
  have HJN := hid hjn
  have hpart : (bf = true ∧ s < lo ∧ lo < hi ∧ v0 = min (s + z) hi - lo) ∨ (bf = false ∧ v0 = 0) ∨ (bf = true ∧ lo ≤ s ∧ v0 = 0) ∨ (bf = true ∧ s < lo ∧ hi ≤ lo ∧ v0 = 0) := by
    by_cases h1 : jf < L.length
    · have e1 : bf = true := by rw [hbff, decide_eq_true h1]
      by_cases h2 : s < lo
      · by_cases h3 : lo < hi
        · left; rw [if_pos ⟨h1, h2, h3⟩] at hhead; exact ⟨e1, h2, h3, hhead⟩
        · right; right; right; rw [if_neg (fun h => h3 h.2.2)] at hhead; exact ⟨e1, h2, by omega, hhead⟩
      · right; right; left; rw [if_neg (fun h => h2 h.2.1)] at hhead; exact ⟨e1, by omega, hhead⟩
    · right; left; rw [if_neg (fun h => h1 h.1)] at hhead; exact ⟨by rw [hbff, decide_eq_false h1], hhead⟩
  have HG := hid hg
  clear hE hT hlo hhi hjf hjn hhead hss hzz hs hz hbff hs1 hz1 hbn hv0 hg
  rcases hpart with ⟨rfl, h2, h3, rfl⟩ | ⟨rfl, rfl⟩ | ⟨rfl, h2, rfl⟩ | ⟨rfl, h2, h3, rfl⟩
  all_goals
    have hmm : min (s + z) hi ≤ 1048576 := by omega
    go_enter Tryz.func145, Tryz.ntmps145
    go_wp2_with (first
      | (go_at_call 151; refine (ext_none HE.out).mono ?_; rintro e w' ⟨rfl, rfl⟩)
      | (go_at_call 147; refine (ext_words HE.out).mono ?_; rintro e w' ⟨rfl, rfl⟩)
      | (go_at_call 111; refine (ext_find HE.out HT.out _).mono ?_; rintro e w' ⟨rfl, rfl⟩; rw [HF.out])
      | (go_at_call 144; refine (ext_next HE.out HT.out _).mono ?_; rintro e w' ⟨rfl, rfl⟩; rw [HN.out]))
    clear hmax hmin
  all_goals
    go_loop [7, 11, 12, 13] (fun s7 s11 s12 s13 => ∃ j, jn ≤ j ∧ j ≤ L.length ∧ s7 = .int .i64 (overs (L.take j) lo hi) ∧ s11 = .int .i64 (obS L j) ∧ s12 = .int .i64 (obZ L j) ∧ s13 = .bool (decide (j < L.length))) (fun _ s11 _ s13 => if okV s13 then 1048577 - (intOf s11).toNat else 0)
    case atStart => exact ⟨jn, Nat.le_refl _, hjnl, by rw [← HV0.out], by rw [HN1.out.1], by rw [HN1.out.2.1], by rw [HN1.out.2.2]⟩
    case round =>
      obtain ⟨j, hj1, hj2, rfl, rfl, rfl, rfl⟩ := hrel
      have hbo := overs_bd HG.out hb.2 j lo hi
      have hbj := obS_bd HG.out hb.2 j
      by_cases hj : j < L.length
      · rw [decide_eq_true hj]
        obtain ⟨o1, o2⟩ := obS_in hj
        have hsz := HG.out.sz _ (List.getElem_mem hj)
        obtain ⟨sj, hsj⟩ : ∃ s, s = obS L j := ⟨_, rfl⟩
        obtain ⟨zj, hzj⟩ : ∃ z, z = obZ L j := ⟨_, rfl⟩
        obtain ⟨vj, hvj⟩ : ∃ v, v = overs (L.take j) lo hi := ⟨_, rfl⟩
        have hge : lo ≤ sj := by
          rw [hsj, o1]
          have hjn2 : nextO L lo < L.length := by have := HJN.out; omega
          have hy := nextO_yes hjn2
          rcases Nat.lt_or_ge (nextO L lo) j with h | h
          · have := HG.out.at hjn2 hj h; omega
          · have e : L[nextO L lo]'hjn2 = L[j] := by congr 1; have := HJN.out; omega
            rw [e] at hy; exact hy
        have hz1 : 1 ≤ zj := by rw [hzj, o2]; omega
        have htk := overs_take hj lo hi
        have hov : over L[j] lo hi = max 0 (min (sj + zj) hi - sj) := by
          unfold over
          rw [hsj, hzj, o1, o2] at *
          omega
        rw [hov, ← hvj] at htk
        have hbo2 := overs_bd HG.out hb.2 (j + 1) lo hi
        have hnx : nextO L (sj + zj) = j + 1 := by rw [hsj, hzj, o1, o2]; exact next_after_ob HG.out hj
        obtain ⟨s2, hs2⟩ : ∃ s, s = obS L (j + 1) := ⟨_, rfl⟩
        obtain ⟨z2, hz2⟩ : ∃ z, z = obZ L (j + 1) := ⟨_, rfl⟩
        obtain ⟨b2', hb2⟩ : ∃ b, b = decide (j + 1 < L.length) := ⟨_, rfl⟩
        have HX : Hid (tellO L (nextO L (sj + zj)) = .tuple #[.int .i64 s2, .int .i64 z2, .bool b2']) := ⟨by rw [hnx, hs2, hz2, hb2]; rfl⟩
        have HX2 := hid (And.intro hs2 (And.intro hz2 hb2))
        have hlt2 : b2' = true → sj + zj ≤ s2 := fun h => by
          rw [hb2] at h
          have h := of_decide_eq_true h
          have := HG.out.at hj h (Nat.lt_succ_self j)
          rw [hsj, hzj, hs2, o1, o2, (obS_in h).1]; omega
        have HLT := hid hlt2
        rw [← hsj, ← hzj] at hbj ⊢
        rw [← hvj] at hbo ⊢
        have HVJ := hid hvj
        have HSJ := hid hsj
        by_cases hhi : sj < hi
        · have hmj : min (sj + zj) hi ≤ 1048576 ∧ sj ≤ min (sj + zj) hi := by omega
          have htk' : overs (L.take (j + 1)) lo hi = vj + (min (sj + zj) hi - sj) := by rw [htk]; omega
          have hsum : 0 ≤ vj + (min (sj + zj) hi - sj) ∧ vj + (min (sj + zj) hi - sj) ≤ 1048576 := by rw [← htk']; exact hbo2
          have HTK := hid htk'
          clear hsj hzj hvj hov htk htk' hbo2 hnx hs2 hz2 hb2 hlt2 o1 o2 hsz
          go_wp2_with (go_at_call 144; refine (ext_next HE.out HT.out _).mono ?_; rintro e w' ⟨rfl, rfl⟩; rw [HX.out])
          go_round
          case rel => exact ⟨j + 1, by omega, by omega, by rw [HTK.out], by rw [HX2.out.1], by rw [HX2.out.2.1], by rw [HX2.out.2.2]⟩
          case measure =>
            have e0 : okV (Value.bool true) = true := rfl
            rw [if_pos e0]
            by_cases h : b2' = true
            · have := HLT.out h
              rw [if_pos (show okV (Value.bool b2') = true from h)]
              simp only [intOf]; omega
            · rw [if_neg (show ¬ okV (Value.bool b2') = true from h)]
              simp only [intOf]; omega
        · have htl := overs_tail HG.out (j := j) (f := lo) (t := hi) (fun hl => by
            have := HSJ.out; rw [(obS_in hl).1] at this; omega)
          have hE : Hid (overs L lo hi = vj) := ⟨by rw [overs_split L j, htl, ← HVJ.out]; omega⟩
          clear hsj hzj hvj hov htk hbo2 hnx hs2 hz2 hb2 hlt2 o1 o2 hsz htl
          go_wp2
          go_ret
          exact ⟨ret_int hE.out.symm, rfl⟩
      · rw [decide_eq_false hj]
        have htl := overs_tail HG.out (j := j) (f := lo) (t := hi) (fun hl => absurd hl hj)
        have hE : Hid (overs L lo hi = overs (L.take j) lo hi) := ⟨by rw [overs_split L j, htl]; omega⟩
        obtain ⟨vj, hvj⟩ : ∃ v, v = overs (L.take j) lo hi := ⟨_, rfl⟩
        rw [← hvj] at hbo ⊢ hE
        clear htl hvj
        go_wp2
        go_ret
        exact ⟨ret_int hE.out.symm, rfl⟩
end
end Go.Proofs.YtbmidhlilafgeaaGreatDoor
end

section
namespace Go.Proofs.YtbmidhlilafgeaaGreatDoor
open Go.RowKit Word

/-- The blocks that a map's own methods may write. -/
def mine (m b1 b2 : Nat) (k : Nat) : Prop := k = m ∨ k = b1 ∨ k = b2
section
variable {w : World} {m p1 b1 p2 b2 n : Nat} {L : List Ob}
theorem Ext.changed (hE : Ext w m p1 b1 p2 b2 n L) {w1 w2 : World} {L' : List Ob} (hg : Good n L') (t1 : Touch (fun k => k = b1) w w1) (v1 : Vec w1 p1 b1 (startsL n L')) (t2 : Touch (fun k => k = b2) w1 w2) (v2 : Vec w2 p2 b2 (endsL n L')) {z : Int} (hz : z = L'.length) :
    Ext (w2.setCell ⟨m, 2, none⟩ (.int .i64 z)) m p1 b1 p2 b2 n L' ∧ Touch (mine m b1 b2) w (w2.setCell ⟨m, 2, none⟩ (.int .i64 z)) := by
  have t3 : Touch (fun k => k = m) w2 (w2.setCell ⟨m, 2, none⟩ (.int .i64 z)) := (Touch.refl (fun k => k = m) w2).setCell (a := ⟨m, 2, none⟩) (fun _ => rfl) _
  obtain ⟨a1, a2, a3, a4⟩ := hE.am
  obtain ⟨a5, a6, a7⟩ := hE.ab
  have hm1 : m < w1.heap.size := Nat.lt_of_lt_of_le hE.hm t1.size
  have hm2 : m < w2.heap.size := Nat.lt_of_lt_of_le hm1 t2.size
  have e : ∀ o, w2.cell? ⟨m, o, none⟩ = w.cell? ⟨m, o, none⟩ := fun o => (t2.cell hm1 (by omega) o).trans (t1.cell hE.hm (by omega) o)
  have o : ∀ o, o ≠ 2 → (w2.setCell ⟨m, 2, none⟩ (.int .i64 z)).cell? ⟨m, o, none⟩ = w.cell? ⟨m, o, none⟩ := fun o ho => by
    rw [World.cell?_setCell_other (h := by intro e2; injection e2 with _ e3; omega), e o]
  refine ⟨⟨hg, (v1.touch t2 (by omega) (by omega)).touch t3 (by omega) (by omega), v2.touch t3 (by omega) (by omega), by simpa [World.setCell] using hm2, (o 0 (by omega)).trans hE.c0, (o 1 (by omega)).trans hE.c1, ?_, ?_, hE.am, hE.ab⟩, ?_⟩
  · rw [hz]; exact World.cell?_setCell_same (h := (e 2).trans hE.c2) ..
  · rw [World.frozen?_setCell, t2.frozen hm1 (by omega), t1.frozen hE.hm (by omega)]; exact hE.fr
  · exact ((t1.mono (fun k _ h => .inr (.inl h))).trans (t2.mono (fun k _ h => .inr (.inr h)))).trans (t3.mono (fun k _ h => .inl h))
/-- Behind Add. -/
def AddEnd (w : World) (m p1 b1 p2 b2 n : Nat) (L : List Ob) (s z : Int) (e : Ending) (w' : World) : Prop :=
  e = .returned (.int .i64 (addE L n s z)) ∧ Touch (mine m b1 b2) w w' ∧ Ext w' m p1 b1 p2 b2 n (addL L n s z)
theorem addEnd_no (hE : Ext w m p1 b1 p2 b2 n L) {s z c : Int} (h : addE L n s z = c) (hc : c ≠ 0) : AddEnd w m p1 b1 p2 b2 n L s z (.returned (.int .i64 c)) w := by
  refine ⟨by rw [h], Touch.refl _ _, ?_⟩
  unfold addL
  rw [if_neg (by rw [h]; exact hc)]
  exact hE
set_option maxRecDepth 100000 in
set_option maxHeartbeats 3200000 in
theorem ext_add (hE : Ext w m p1 b1 p2 b2 n L) (hT : TabAt w) (s z : Int) :
    Calls Tryz.prog 148 #[.pointer (some ⟨m, 0, none⟩), .int .i64 s, .int .i64 z] w (AddEnd w m p1 b1 p2 b2 n L s z) := by
  have hb := hE.nb
  have HE := hid hE
  have HT := hid hT
  by_cases h0 : z < 1
  · have d0 : decide (z < 1) = true := by simp [h0]
    have HR := hid (addEnd_no hE (s := s) (z := z) (c := 15) (by unfold addE; rw [if_pos h0]) (by decide))
    clear hE hT
    go_enter Tryz.func148, Tryz.ntmps148
    go_wp2_with (go_at_call 151; refine (ext_none HE.out).mono ?_; rintro e w' ⟨rfl, rfl⟩)
    go_ret
    exact HR.out
  · have d0 : decide (z < 1) = false := by simp; omega
    by_cases h1 : s < 0
    · have d1 : decide (s < 0) = true := by simp [h1]
      have HR := hid (addEnd_no hE (s := s) (z := z) (c := 11) (by unfold addE; rw [if_neg h0, if_pos (.inl h1)]) (by decide))
      clear hE hT
      go_enter Tryz.func148, Tryz.ntmps148
      go_wp2_with (go_at_call 151; refine (ext_none HE.out).mono ?_; rintro e w' ⟨rfl, rfl⟩)
      go_ret
      exact HR.out
    · have d1 : decide (s < 0) = false := by simp; omega
      by_cases h2 : (n : Int) ≤ s
      · have d2 : decide ((n : Int) ≤ s) = true := by simp [h2]
        have HR := hid (addEnd_no hE (s := s) (z := z) (c := 11) (by unfold addE; rw [if_neg h0, if_pos (.inr (.inl h2))]) (by decide))
        clear hE hT
        go_enter Tryz.func148, Tryz.ntmps148
        go_wp2_with (first
          | (go_at_call 151; refine (ext_none HE.out).mono ?_; rintro e w' ⟨rfl, rfl⟩)
          | (go_at_call 147; refine (ext_words HE.out).mono ?_; rintro e w' ⟨rfl, rfl⟩))
        go_ret
        exact HR.out
      · have d2 : decide ((n : Int) ≤ s) = false := by simp; omega
        obtain ⟨sn, rfl⟩ : ∃ k : Nat, s = k := ⟨s.toNat, by omega⟩
        by_cases h3 : (n : Int) - sn < z
        · have d3 : decide ((n : Int) - (sn : Int) < z) = true := by simp; omega
          have HR := hid (addEnd_no hE (s := sn) (z := z) (c := 11) (by unfold addE; rw [if_neg h0, if_pos (.inr (.inr h3))]) (by decide))
          clear hE hT
          go_enter Tryz.func148, Tryz.ntmps148
          go_wp2_with (first
            | (go_at_call 151; refine (ext_none HE.out).mono ?_; rintro e w' ⟨rfl, rfl⟩)
            | (go_at_call 147; refine (ext_words HE.out).mono ?_; rintro e w' ⟨rfl, rfl⟩))
          go_ret
          exact HR.out
        · have d3 : decide ((n : Int) - (sn : Int) < z) = false := by simp; omega
          obtain ⟨zn, rfl⟩ : ∃ k : Nat, z = k := ⟨z.toNat, by omega⟩
          have hcl := clash_find hE.good (s := (sn : Int)) (z := (zn : Int)) (by omega)
          have hbn := obS_bd hE.good hb.2 (nextO L (sn : Int))
          have hsn : ((L[nextO L (sn : Int)]?.getD (0, 0)).1 : Int) = obS L (nextO L (sn : Int)) := rfl
          rw [hsn] at hcl
          obtain ⟨s1, hs1⟩ : ∃ v, v = obS L (findO L (sn : Int)) := ⟨_, rfl⟩
          obtain ⟨z1, hz1⟩ : ∃ v, v = obZ L (findO L (sn : Int)) := ⟨_, rfl⟩
          obtain ⟨f1, hf1⟩ : ∃ v, v = decide (findO L (sn : Int) < L.length) := ⟨_, rfl⟩
          obtain ⟨s2, hs2⟩ : ∃ v, v = obS L (nextO L (sn : Int)) := ⟨_, rfl⟩
          obtain ⟨z2, hz2⟩ : ∃ v, v = obZ L (nextO L (sn : Int)) := ⟨_, rfl⟩
          obtain ⟨f2, hf2⟩ : ∃ v, v = decide (nextO L (sn : Int) < L.length) := ⟨_, rfl⟩
          have HF : Hid (tellO L (findO L (sn : Int)) = .tuple #[.int .i64 s1, .int .i64 z1, .bool f1]) := ⟨by rw [hs1, hz1, hf1]; rfl⟩
          have HN : Hid (tellO L (nextO L (sn : Int)) = .tuple #[.int .i64 s2, .int .i64 z2, .bool f2]) := ⟨by rw [hs2, hz2, hf2]; rfl⟩
          rw [← hf1, ← hf2, ← hs2] at hcl
          rw [← hs2, ← hz2] at hbn
          have hzb : zn ≤ 1048576 ∧ sn ≤ 1048576 ∧ sn + zn ≤ n := by omega
          have hadd : ∀ c, clashB L (sn : Int) (zn : Int) = c → addE L n (sn : Int) (zn : Int) = if c then 7 else 0 := fun c hc => by
            unfold addE; rw [if_neg h0, if_neg (by omega), hc]
          clear hs1 hz1 hf1 hs2 hz2 hf2 hsn
          cases hc : clashB L (sn : Int) (zn : Int) with
          | true =>
            have HR := hid (addEnd_no hE (s := (sn : Int)) (z := (zn : Int)) (c := 7) (hadd true hc) (by decide))
            rw [hc] at hcl
            clear hE hT hadd hc
            cases f1 with
            | true =>
              clear hcl
              go_enter Tryz.func148, Tryz.ntmps148
              go_wp2_with (first
                | (go_at_call 151; refine (ext_none HE.out).mono ?_; rintro e w' ⟨rfl, rfl⟩)
                | (go_at_call 147; refine (ext_words HE.out).mono ?_; rintro e w' ⟨rfl, rfl⟩)
                | (go_at_call 111; refine (ext_find HE.out HT.out _).mono ?_; rintro e w' ⟨rfl, rfl⟩; rw [HF.out])
                | (go_at_call 144; refine (ext_next HE.out HT.out _).mono ?_; rintro e w' ⟨rfl, rfl⟩; rw [HN.out]))
              go_ret
              exact HR.out
            | false =>
              have hf2 : f2 = true ∧ s2 < (sn : Int) + zn := by simpa using hcl.symm
              obtain ⟨rfl, hlt⟩ := hf2
              have d4 : decide (s2 < (sn : Int) + (zn : Int)) = true := by simp [hlt]
              clear hcl
              go_enter Tryz.func148, Tryz.ntmps148
              go_wp2_with (first
                | (go_at_call 151; refine (ext_none HE.out).mono ?_; rintro e w' ⟨rfl, rfl⟩)
                | (go_at_call 147; refine (ext_words HE.out).mono ?_; rintro e w' ⟨rfl, rfl⟩)
                | (go_at_call 111; refine (ext_find HE.out HT.out _).mono ?_; rintro e w' ⟨rfl, rfl⟩; rw [HF.out])
                | (go_at_call 144; refine (ext_next HE.out HT.out _).mono ?_; rintro e w' ⟨rfl, rfl⟩; rw [HN.out]))
              go_ret
              exact HR.out
          | false =>
            have hap := add_apart (L := L) (s := (sn : Int)) (z := (zn : Int)) (by omega) (by omega) hc
            simp only [Int.toNat_natCast] at hap
            have hz1 : 1 ≤ zn := by omega
            have hgood := insO_good hE.good (o := (sn, zn)) hz1 hzb.2.2 hap
            have hst := starts_ins hE.good (o := (sn, zn)) hz1 hzb.2.2 hap
            have hen := ends_ins hE.good (o := (sn, zn)) hz1 hzb.2.2 hap
            have hlen := insO_len L (sn, zn)
            have hadd0 : addE L n (sn : Int) (zn : Int) = 0 := hadd false hc
            have hL : addL L n (sn : Int) (zn : Int) = insO L (sn, zn) := by unfold addL; rw [if_pos hadd0]; rfl
            rw [hc] at hcl
            obtain ⟨rfl, hor⟩ : f1 = false ∧ (f2 = false ∨ (f2 = true ∧ (sn : Int) + zn ≤ s2)) := by
              cases f1 with
              | true => rw [Bool.true_or] at hcl; cases hcl
              | false =>
                refine ⟨rfl, ?_⟩
                cases f2 with
                | false => exact .inl rfl
                | true =>
                  right
                  rw [Bool.false_or, Bool.true_and] at hcl
                  have := of_decide_eq_false hcl.symm
                  exact ⟨rfl, by omega⟩
            obtain ⟨e, he⟩ : ∃ e, e = sn + zn - 1 := ⟨_, rfl⟩
            have HIE : Hid ((sn : Int) + (zn : Int) - 1 = (e : Int)) := ⟨by omega⟩
            have hen' : endsL n (insO L (sn, zn)) = (endsL n L).set e true := by rw [he]; exact hen
            have hst' : startsL n (insO L (sn, zn)) = (startsL n L).set sn true := hst
            have K1 : Hid (sn < (startsL n L).length) := ⟨by rw [startsL_len]; omega⟩
            have K2 : Hid (e < (endsL n L).length) := ⟨by rw [endsL_len]; omega⟩
            have KG := hid hgood
            have KS := hid hst'
            have KE := hid hen'
            have KL := hid (And.intro hlen (And.intro hadd0 hL))
            obtain ⟨a1, a2, a3, a4⟩ := hE.am
            obtain ⟨a5, a6, a7⟩ := hE.ab
            have hmw := hE.hm
            have cc1 := hE.c1
            have cc2 := hE.c2
            have cfr := hE.fr
            have cc0 := hE.c0
            have HA : Hid (m ≠ b1 ∧ m ≠ b2 ∧ p2 ≠ b1 ∧ b2 ≠ b1) := ⟨⟨a2, a4, a6, fun h => a7 h.symm⟩⟩
            have hLn := hE.good.len
            clear hE hT hadd hc hcl hap hgood hst hen hen' hst' hlen hadd0 hL he a1 a2 a3 a4 a5 a6 a7
            rcases hor with rfl | ⟨rfl, hge⟩
            all_goals try have d4 : decide (s2 < (sn : Int) + (zn : Int)) = false := by simp; omega
            all_goals
              go_enter Tryz.func148, Tryz.ntmps148
              go_wp2_with (first
                | (go_at_call 151; refine (ext_none HE.out).mono ?_; rintro e w' ⟨rfl, rfl⟩)
                | (go_at_call 147; refine (ext_words HE.out).mono ?_; rintro e w' ⟨rfl, rfl⟩)
                | (go_at_call 111; refine (ext_find HE.out HT.out _).mono ?_; rintro e w' ⟨rfl, rfl⟩; rw [HF.out])
                | (go_at_call 144; refine (ext_next HE.out HT.out _).mono ?_; rintro e w' ⟨rfl, rfl⟩; rw [HN.out])
                | (go_at_call 195; rw [HIE.out]; refine (set_in (HE.out.v2.touch HT1.out HA.out.2.2.1 HA.out.2.2.2) e K2.out).mono ?_; rintro e' w2 ⟨rfl, ht2, hv2⟩; rw [← KE.out] at hv2; have e2 := (ht2.cell HM1.out HA.out.2.1 2).trans e12; have ef := (ht2.frozen HM1.out HA.out.2.1 2).trans ef1; have HT2 := hid ht2; have HV2 := hid hv2; clear ht2 hv2)
                | (go_at_call 195; refine (set_in HE.out.v1 sn K1.out).mono ?_; rintro e' w1 ⟨rfl, ht1, hv1⟩; rw [← KS.out] at hv1; have e11 := (ht1.cell hmw HA.out.1 1).trans cc1; have e12 := (ht1.cell hmw HA.out.1 2).trans cc2; have ef1 := (ht1.frozen hmw HA.out.1 2).trans cfr; have HT1 := hid ht1; have HV1 := hid hv1; have HM1 := hid (Nat.lt_of_lt_of_le hmw ht1.size); clear ht1 hv1))
              go_ret
              have hch := HE.out.changed KG.out HT1.out HV1.out HT2.out HV2.out (z := ((L.length : Int) + 1)) (by rw [KL.out.1]; push_cast; rfl)
              exact ⟨by rw [KL.out.2.1]; rfl, hch.2, by rw [KL.out.2.2]; exact hch.1⟩

/-! Drop -/
theorem none_raw {w : World} {m p : Nat} (c0 : w.cell? ⟨m, 0, none⟩ = some (.pointer (some ⟨p, 0, none⟩))) : Calls Tryz.prog 151 #[.pointer (some ⟨m, 0, none⟩)] w fun e w' => e = .returned (.bool false) ∧ w = w' := by
  go_enter Tryz.func151, Tryz.ntmps151
  go_wp2
  go_ret
  exact ⟨rfl, rfl⟩
theorem words_raw {w : World} {m p b n : Nat} {l : List Bool} (c0 : w.cell? ⟨m, 0, none⟩ = some (.pointer (some ⟨p, 0, none⟩))) (hV : Vec w p b l) (hl : l.length = n) :
    Calls Tryz.prog 147 #[.pointer (some ⟨m, 0, none⟩)] w fun e w' => e = .returned (.int .i64 n) ∧ w = w' := by
  have HL := hid hl
  have HV := hid hV
  clear hl hV
  go_enter Tryz.func147, Tryz.ntmps147
  go_wp2_with (first
    | (go_at_call 151; refine (none_raw c0).mono ?_; rintro e w' ⟨rfl, rfl⟩)
    | (go_at_call 194; refine (len_vec HV.out).mono ?_; rintro e w' ⟨rfl, rfl⟩; rw [HL.out]))
  go_ret
  exact ⟨rfl, rfl⟩
/-! Wipe -/
theorem lay_all_off (l : List Bool) (n : Nat) (h : l.length = n) : layL l 0 n false = List.replicate n false :=
  ext_at (by rw [layL_length, h]; simp) (fun i hi => by
    rw [layL_length] at hi
    rw [layL_at _ _ _ _ _ hi, if_pos (by omega)]
    simp [at_, List.getD_eq_getElem?_getD, List.getElem?_replicate]; split <;> rfl)
def WipeEnd (w : World) (m p1 b1 p2 b2 n : Nat) (e : Ending) (w' : World) : Prop := e = .returned (.tuple #[]) ∧ Touch (mine m b1 b2) w w' ∧ Ext w' m p1 b1 p2 b2 n []
set_option maxRecDepth 100000 in
set_option maxHeartbeats 1600000 in
theorem ext_wipe (hE : Ext w m p1 b1 p2 b2 n L) :
    Calls Tryz.prog 179 #[.pointer (some ⟨m, 0, none⟩)] w (WipeEnd w m p1 b1 p2 b2 n) := by
  have hb := hE.nb
  have HE := hid hE
  have cc0 := hE.c0
  have cc1 := hE.c1
  have cc2 := hE.c2
  have cfr := hE.fr
  obtain ⟨a1, a2, a3, a4⟩ := hE.am
  obtain ⟨a5, a6, a7⟩ := hE.ab
  have hmw := hE.hm
  have HA : Hid (m ≠ b1 ∧ m ≠ b2 ∧ p2 ≠ b1 ∧ b2 ≠ b1) := ⟨⟨a2, a4, a6, fun h => a7 h.symm⟩⟩
  have KS : Hid (layL (startsL n L) 0 (n : Int) false = startsL n []) := ⟨by rw [lay_all_off _ n (startsL_len ..), starts_nil]⟩
  have KE : Hid (layL (endsL n L) 0 (n : Int) false = endsL n []) := ⟨by rw [lay_all_off _ n (endsL_len ..), ends_nil]⟩
  clear hE a1 a2 a3 a4 a5 a6 a7
  go_enter Tryz.func179, Tryz.ntmps179
  go_upto_region 1 with (go_at_call 151; refine (ext_none HE.out).mono ?_; rintro e w' ⟨rfl, rfl⟩)
  obtain ⟨S, hS⟩ : ∃ S : World → Prop, S = fun W' => W'.cell? ⟨m, 0, none⟩ = some (.pointer (some ⟨p1, 0, none⟩)) := ⟨_, rfl⟩
  have x0 : ∀ p : Held S, p.w.cell? ⟨m, 0, none⟩ = some (.pointer (some ⟨p1, 0, none⟩)) := fun p => Held.get hS p
  have hS0 : S w.drew := by rw [hS]; exact cc0
  have inst : Inhabited (Held S) := ⟨⟨_, hS0⟩⟩
  clear hS
  refine wp_region_mixS S 6 [([0, 1, 2, 3, 4], 5), ([], 6)] [] (by kernel_rfl) (by kernel_rfl) hS0 ?_
  refine segs_step ?_
  simp only [opsAt, List.getElem?_cons_zero, List.getElem?_cons_succ]
  repeat (go_big_quiet_step (fail))
  refine wpQuiet_nil ?_
  go_wp2_with (go_at_call 147; refine (ext_words (HE.out.gr (Gr.refl w).drew)).mono ?_; rintro e w' ⟨rfl, rfl⟩)
  refine ⟨.inr (Held.of hS0), ?_⟩
  refine segs_step ?_
  simp only [opsAt, List.getElem?_cons_zero, List.getElem?_cons_succ]
  refine wpQuiet_nil ?_
  go_wp2_with (go_at_call 207; refine (wipe_vec (HE.out.v1.gr (Gr.refl w).drew) 0 (n : Int) (by decide)).mono ?_; rintro e' w1 ⟨rfl, ht1, hv1⟩; rw [KS.out] at hv1; have hg0 := ((Gr.refl w).drew.touch (fun k => k = b1)).trans ht1; have e11 := (hg0.cell hmw HA.out.1 1).trans cc1; have e12 := (hg0.cell hmw HA.out.1 2).trans cc2; have e10 := (hg0.cell hmw HA.out.1 0).trans cc0; have ef1 := (hg0.frozen hmw HA.out.1 2).trans cfr; have HT1 := hid hg0; have HV1 := hid hv1; have HM1 := hid (Nat.lt_of_lt_of_le hmw hg0.size); clear ht1 hv1 hg0)
  refine ⟨.inl trivial, ?_⟩
  refine segs_end ?_
  refine wpQuiet_nil ?_
  refine NoPanic.normal ?_
  clear x0 hS0 inst
  clear S
  go_upto_region 2 with (fail)
  obtain ⟨S, hS⟩ : ∃ S : World → Prop, S = fun W' => W'.cell? ⟨m, 1, none⟩ = some (.pointer (some ⟨p2, 0, none⟩)) := ⟨_, rfl⟩
  have x0 : ∀ p : Held S, p.w.cell? ⟨m, 1, none⟩ = some (.pointer (some ⟨p2, 0, none⟩)) := fun p => Held.get hS p
  have hS0 : S w1.drew := by rw [hS]; exact e11
  have inst : Inhabited (Held S) := ⟨⟨_, hS0⟩⟩
  clear hS
  refine wp_region_mixS S 6 [([0, 1, 2, 3, 4], 5), ([], 6)] [] (by kernel_rfl) (by kernel_rfl) hS0 ?_
  refine segs_step ?_
  simp only [opsAt, List.getElem?_cons_zero, List.getElem?_cons_succ]
  repeat (go_big_quiet_step (fail))
  refine wpQuiet_nil ?_
  go_wp2_with (go_at_call 147; refine (words_raw (w := w1.drew) e10 (HV1.out.gr (Gr.refl w1).drew) (startsL_len n [])).mono ?_; rintro e w' ⟨rfl, rfl⟩)
  refine ⟨.inr (Held.of hS0), ?_⟩
  refine segs_step ?_
  simp only [opsAt, List.getElem?_cons_zero, List.getElem?_cons_succ]
  refine wpQuiet_nil ?_
  go_wp2_with (go_at_call 207; refine (wipe_vec ((HE.out.v2.touch HT1.out HA.out.2.2.1 HA.out.2.2.2).gr (Gr.refl w1).drew) 0 (n : Int) (by decide)).mono ?_; rintro e' w2 ⟨rfl, ht2, hv2⟩; rw [KE.out] at hv2; have hg0 := ((Gr.refl w1).drew.touch (fun k => k = b2)).trans ht2; have e2 := (hg0.cell HM1.out HA.out.2.1 2).trans e12; have ef := (hg0.frozen HM1.out HA.out.2.1 2).trans ef1; have HT2 := hid hg0; have HV2 := hid hv2; clear ht2 hv2 hg0)
  refine ⟨.inl trivial, ?_⟩
  refine segs_end ?_
  refine wpQuiet_nil ?_
  refine NoPanic.normal ?_
  clear x0 hS0 inst
  clear S
  go_wp2
  refine bodyPost_end (results_none rfl _ _ _) rfl ?_
  have hch := HE.out.changed (Good.nil n) HT1.out HV1.out HT2.out HV2.out (z := 0) rfl
  exact ⟨rfl, hch.2, hch.1⟩

/-! New -/
def NewExt (w : World) (n : Nat) (e : Ending) (w' : World) : Prop :=
  ∃ m p1 b1 p2 b2, e = .returned (.tuple #[.pointer (some ⟨m, 0, none⟩), .int .i64 0]) ∧ Gr w w' ∧ Ext w' m p1 b1 p2 b2 n [] ∧ w.heap.size ≤ m ∧ w.heap.size ≤ p1 ∧ w.heap.size ≤ b1 ∧ w.heap.size ≤ p2 ∧ w.heap.size ≤ b2
set_option maxRecDepth 100000 in
set_option maxHeartbeats 800000 in
theorem ext_new (n : Nat) (h1 : 1 ≤ n) (h2 : n ≤ 1048576) (w : World) : Calls Tryz.prog 131 #[.int .i64 n] w (NewExt w n) := by
  have HN := hid (And.intro h1 h2)
  clear h1 h2
  go_enter Tryz.func131, Tryz.ntmps131
  go_wp2_with (first
    | (go_at_call 177; refine (new_vec n HN.out.1 HN.out.2 w1).mono ?_; rintro e w2 ⟨p2, b2, rfl, hg2, hV2, hp2, hb2⟩)
    | (go_at_call 177; refine (new_vec n HN.out.1 HN.out.2 _).mono ?_; rintro e w1 ⟨p1, b1, rfl, hg1, hV1, hp1, hb1⟩))
  go_ret2
  have hV1' := hV1.gr hg2
  have s1 := hV1.hp
  have s2 := hV1.hb
  have s3 := hV2.hp
  have s4 := hV2.hb
  have sg1 := hg1.size
  have sg2 := hg2.size
  refine ⟨_, p1, b1, p2, b2, ret2 rfl rfl, (hg1.trans hg2).alloc _, ⟨Good.nil n, ?_, ?_, by simp, World.cell?_alloc_new .., World.cell?_alloc_new .., World.cell?_alloc_new .., World.frozen?_alloc_new .., by omega, by omega⟩, by omega, by omega, by omega, by omega, by omega⟩
  · rw [starts_nil]; exact hV1'.gr ((Gr.refl _).alloc _)
  · rw [ends_nil]; exact hV2.gr ((Gr.refl _).alloc _)
end
end Go.Proofs.YtbmidhlilafgeaaGreatDoor
end

section
namespace Go.Proofs.YtbmidhlilafgeaaGreatDoor
open Go.RowKit Go.Shelf Word
attribute [local go_sem] Oper.semAt_some

/-- What the iterator of a vector wants of the world. -/
def OnesInv (box p b N : Nat) (s : List Bool × Nat) (W : World) : Prop :=
  Vec W p b s.1 ∧ s.1.length = N ∧ TabAt W ∧ W.cell? ⟨box, 0, none⟩ = some (.pointer (some ⟨p, 0, none⟩)) ∧ s.2 ≤ N
def OnesGives (s : List Bool × Nat) (x : Nat) : Prop := x = nextL s.1 s.2 ∧ nextL s.1 s.2 < s.1.length
def OnesNext (_ : List Bool × Nat) (x : Nat) (s' : List Bool × Nat) : Prop := s'.2 = x + 1
theorem next_at {l : List Bool} {a : Int} (h : nextL l a < l.length) : at_ l (nextL l a) = true ∧ a ≤ (nextL l a : Nat) := by
  have := first_at (fun i => at_ l i && decide (a ≤ (i : Nat))) l.length h
  simp only [Bool.and_eq_true, decide_eq_true_eq] at this
  exact this
theorem next_ge {l : List Bool} {a : Int} (h : nextL l a < l.length) : a ≤ (nextL l a : Nat) := (next_at h).2
def okOf : Value → Bool
  | .bool b => b
  | _ => false
def OnesFin (s : List Bool × Nat) : Prop := ¬ nextL s.1 s.2 < s.1.length

set_option maxRecDepth 100000 in
set_option maxHeartbeats 1600000 in
theorem ones_seq (n : Nat) (box p b N : Nat) (l0 : List Bool) (w : World) :
    SeqS Fence.wide n Tryz.prog 197 #[.pointer (some ⟨box, 0, none⟩)] (fun x : Nat => #[.int .i64 (x : Int)]) (OnesInv box p b N) OnesGives OnesNext OnesFin (l0, 0) w := by
  intro l J Jx W hg hJ hJx hI hY h0
  refine callsIn_of_wp Tryz.func197 rfl trivial ?_ rfl
  have hi0 := hI _ _ h0
  have c0 := hi0.2.2.2.1
  have HI0 := hid hi0
  clear hi0
  simp only [Tryz.ntmps197, List.size_toArray, List.length_cons, List.length_nil, Nat.reduceAdd, Nat.reduceSub, Array.replicate_succ, Array.replicate_zero, List.push_toArray, List.append_toArray, List.nil_append, List.cons_append]
  gi_wp2_with (refine ⟨trivial, fun h => Bool.noConfusion h, ?_⟩; gi_at_call 191; refine (callsIn_wide.2 (next_vec HI0.out.1 HI0.out.2.2.1 _)).mono ?_; rintro e w1 ⟨rfl, rfl⟩)
  gi_loopw [3, 4] (fun x3 x4 wr => ∃ s : List Bool × Nat, J s wr ∧ x3 = .int .i64 (valN s.1.length (nextL s.1 s.2)) ∧ x4 = .bool (decide (nextL s.1 s.2 < s.1.length))) (fun x3 x4 _ => if okOf x4 then N - (intOf x3).toNat + 1 else 0)
  case atStart => exact ⟨(l0, 0), h0, rfl, rfl⟩
  case round =>
    obtain ⟨s, hs, rfl, rfl⟩ := hrel
    have hi := hI _ _ hs
    have c1 := hi.2.2.2.1
    have HI := hid hi
    clear hi
    by_cases hlt : nextL s.1 s.2 < s.1.length
    · obtain ⟨x, hx⟩ : ∃ x, x = nextL s.1 s.2 := ⟨_, rfl⟩
      obtain ⟨fn, tmps, assign, body, hy, hR⟩ := hY s x wr hs ⟨hx, hlt⟩
      have e1 : valN s.1.length (nextL s.1 s.2) = (x : Int) := by rw [hx]; exact valN_yes hlt
      have e2 : decide (nextL s.1 s.2 < s.1.length) = true := by simp [hlt]
      rw [e1, e2]
      have hxN : x < N := by rw [← HI.out.2.1, hx]; exact hlt
      have HN := hid hI
      have HX := hid hx
      clear hx e1 e2 hI
      gi_wp2
      refine ⟨fun h => Bool.noConfusion h, hR.mono ?_⟩
      rintro e W3 (⟨rfl, s', hn', hJ'⟩ | ⟨rfl, hx'⟩)
      · have hi' := HN.out _ _ hJ'
        have c3 := hi'.2.2.2.1
        have HI' := hid hi'
        have hn2 : s'.2 = x + 1 := hn'
        have hN2 : (N : Int) ≤ 1048576 := by have := hi'.1.n2; have := hi'.2.1; omega
        have hx2 : (x : Int) < N := by omega
        have HS' := hid hn2
        clear hi' hn2 hn'
        gi_wp2_with (refine ⟨trivial, fun h => Bool.noConfusion h, ?_⟩; gi_at_call 191; refine (callsIn_wide.2 (next_vec HI'.out.1 HI'.out.2.2.1 ((x : Int) + 1))).mono ?_; rintro e w1 ⟨rfl, rfl⟩)
        go_roundw
        case rel => exact ⟨s', hJ', by rw [HS'.out]; rfl, by rw [HS'.out]; rfl⟩
        case measure =>
          have e0 : okOf (Value.bool true) = true := rfl
          rw [if_pos e0]
          by_cases h : nextL s'.1 ((x : Int) + 1) < s'.1.length
          · have hge := next_ge h
            have h2 := HI'.out.2.1
            rw [valN_yes h, if_pos (by simp [okOf, h])]
            simp only [intOf]
            omega
          · rw [if_neg (by simp [okOf]; omega)]
            omega
      · gi_wp2
        go_end0
        exact ⟨⟨_, rfl⟩, .inr hx'⟩
    · have e1 : valN s.1.length (nextL s.1 s.2) = 0 := valN_no hlt
      have e2 : decide (nextL s.1 s.2 < s.1.length) = false := by simp; omega
      rw [e1, e2]
      gi_wp2
      refine ⟨fun _ h => (by cases h), ?_⟩
      gi_wp2
      go_end0
      exact ⟨⟨_, rfl⟩, .inl ⟨s, hlt, hs⟩⟩
/-- Ones: the iterator's value; its box is new. -/
theorem ones_call {w : World} (q : Option Addr) :
    Calls Tryz.prog 152 #[.pointer q] w fun e w' => e = .returned (.func (.func 197) #[] #[.pointer (some ⟨w.heap.size, 0, none⟩)]) ∧ w' = w.alloc (.cells #[.pointer q] 198) := by
  have hmf : ∀ (fn : Fn) (first cap : Array Value) (w : World), (Instr.makeFunc fn first cap).run Tryz.prog w = .ok (.func fn first cap) w := fun _ _ _ _ => rfl
  go_enter Tryz.func152, Tryz.ntmps152
  go_wp2
  go_ret
  exact ⟨rfl, rfl⟩
end Go.Proofs.YtbmidhlilafgeaaGreatDoor
end

section
namespace Go.Proofs.YtbmidhlilafgeaaGreatDoor
open Go.RowKit Go.Shelf Word
attribute [local go_sem] Oper.semAt_some

def AllInv (box m p1 b1 p2 b2 n : Nat) (L : List Ob) (j : Nat) (W : World) : Prop :=
  Ext W m p1 b1 p2 b2 n L ∧ TabAt W ∧ W.cell? ⟨box, 0, none⟩ = some (.pointer (some ⟨m, 0, none⟩)) ∧ j ≤ L.length
def AllGives (L : List Ob) (j : Nat) (x : Ob) : Prop := L[j]? = some x
def encO (x : Ob) : Array Value := #[.int .i64 (x.1 : Nat), .int .i64 (x.2 : Nat)]
theorem next_succ_ob {n : Nat} {L : List Ob} (h : Good n L) {j : Nat} (hj : j < L.length) : nextO L ((L[j].1 : Int) + 1) = j + 1 := by
  refine nextO_eq (by omega) (fun i hi hij => ?_) (fun h2 => ?_)
  · rcases Nat.lt_or_ge i j with h1 | h1
    · have := h.at hi hj h1; omega
    · have : i = j := by omega
      subst this; omega
  · have := h.at hj h2 (Nat.lt_succ_self j); have := h.sz _ (List.getElem_mem hj); omega
theorem yieldAt_wide {m m' l l2 : Nat} {P : Program} {args : Array Value} {W : World} {R : Ending → World → Prop} (h : YieldAt Fence.wide m P l args W R) : YieldAt (Fence.wide.inRound l2) m' P l args W R := by
  obtain ⟨fn, tmps, assign, body, hy, hR⟩ := h
  exact ⟨fn, tmps, assign, body, hy, hR.1, fun c cs _ => hR.2 c cs (room_wide _)⟩
/-- Between two rounds of the inner loop. -/
structure InAll (n : Nat) (L : List Ob) (J : Nat → World → Prop) (B0 B1 p1 : Nat) (y : Value) (s : List Bool × Nat) (A : World) : Prop where
  st : s.1 = startsL n L
  ps : s.2 ≤ n
  j : ∃ j, J j A ∧ nextO L (s.2 : Int) = j
  y : A.cell? ⟨B0, 0, none⟩ = some y
  v : A.cell? ⟨B1, 0, none⟩ = some (.pointer (some ⟨p1, 0, none⟩))

set_option maxRecDepth 100000 in
set_option maxHeartbeats 3200000 in
theorem all_seq (n' : Nat) (box m p1 b1 p2 b2 n : Nat) (L : List Ob) (w : World) :
    SeqT Fence.wide n' Tryz.prog 150 #[.pointer (some ⟨box, 0, none⟩)] encO (AllInv box m p1 b1 p2 b2 n L) (AllGives L) (fun j _ j' => j' = j + 1) (fun j => j = L.length) 0 w := by
  intro l J Jx W hg hJ hJx hI hY h0
  refine callsIn_wide.2 ((callsIn_wide (n := 5)).1 ?_)
  refine callsIn_of_wp_marks Tryz.func150 rfl trivial ?_ rfl
  have hi0 := hI _ _ h0
  have c0 := hi0.2.2.1
  have k0 := hi0.1.c0
  have HI0 := hid hi0
  have HJ0 := hid h0
  have HII := hid hI
  clear hi0 h0 hI
  simp only [Tryz.ntmps150, List.size_toArray, List.length_cons, List.length_nil, Nat.reduceAdd, Nat.reduceSub, Array.replicate_succ, Array.replicate_zero, List.push_toArray, List.append_toArray, List.nil_append, List.cons_append]
  have hbox : box < W.heap.size := lt_cell c0
  have hmw := HI0.out.1.hm
  gi_wp2_with (first
    | (refine ⟨trivial, ?_⟩; gi_at_call 151; refine (callsIn_wide.2 (ext_none (HI0.out.1.gr ((Gr.refl W).alloc _)))).mono ?_; rintro e w1 ⟨rfl, rfl⟩)
    | (refine ⟨trivial, ?_⟩; gi_at_call 152; refine (callsIn_wide.2 (ones_call (some ⟨p1, 0, none⟩))).mono ?_; rintro e w1 ⟨rfl, rfl⟩))
  obtain ⟨W0, hW0⟩ : ∃ W0, W0 = (W.alloc (.cells #[.func (.yield l) #[] #[]] 56)).alloc (.cells #[.pointer (some ⟨p1, 0, none⟩)] 198) := ⟨_, rfl⟩
  have hg0 : Gr W W0 := by rw [hW0]; exact ((Gr.refl W).alloc _).alloc _
  have hsz0 : W0.heap.size = W.heap.size + 2 := by rw [hW0]; simp
  have bY : W0.cell? ⟨W.heap.size, 0, none⟩ = some (.func (.yield l) #[] #[]) := by rw [hW0]; exact ((Boxed.new W _ _).alloc _).cell
  have bV : W0.cell? ⟨W.heap.size + 1, 0, none⟩ = some (.pointer (some ⟨p1, 0, none⟩)) := by
    rw [hW0]
    have := Boxed.new (W.alloc (.cells #[.func (.yield l) #[] #[]] 56)) 198 (.pointer (some ⟨p1, 0, none⟩))
    rw [World.size_alloc] at this
    exact this.cell
  rw [← hW0]
  have hgood := HI0.out.1.good
  have hnb := HI0.out.1.nb
  have hJ00 : J 0 W0 := hJ _ _ _ HJ0.out (hg0.touch _)
  have HH0 := hid hW0
  clear hW0 c0 k0
  have hn0 : nextO L ((0 : Nat) : Int) = 0 := nextO_eq (Nat.zero_le _) (fun i hi h => by omega) (fun h => by omega)
  have tI : ∀ s A B, InAll n L J W.heap.size (W.heap.size + 1) p1 (.func (.yield l) #[] #[]) s A → Touch (fun k => W0.heap.size ≤ k) A B → InAll n L J W.heap.size (W.heap.size + 1) p1 (.func (.yield l) #[] #[]) s B := fun s A B h t =>
    ⟨h.st, h.ps, by obtain ⟨j, hj, e⟩ := h.j; exact ⟨j, hJ _ _ _ hj (t.mono (fun k _ h => by omega)), e⟩, (t.cell (lt_cell h.y) (by show ¬ W0.heap.size ≤ W.heap.size; omega) 0).trans h.y, (t.cell (lt_cell h.v) (by show ¬ W0.heap.size ≤ W.heap.size + 1; omega) 0).trans h.v⟩
  refine range_lawT (s0 := (startsL n L, 0)) rfl (by omega) (gf := 197) (lb := #[.pointer (some ⟨W.heap.size + 1, 0, none⟩)]) rfl trivial (enters_of Tryz.func197 (by kernel_rfl) rfl)
    (ones_seq _ (W.heap.size + 1) p1 b1 n (startsL n L) _).toT (fun _ => rfl)
    (InAll n L J W.heap.size (W.heap.size + 1) p1 (.func (.yield l) #[] #[])) (fun c A => c = .ret ∧ Jx A) tI (fun c A B h t => ⟨h.1, hJx _ _ h.2 (t.mono (fun k _ h => by omega))⟩)
    (fun s A h => by
      obtain ⟨j, hj, -⟩ := h.j
      have hi := HII.out _ _ hj
      exact ⟨by rw [h.st]; exact hi.1.v1, by rw [h.st, startsL_len], hi.2.1, h.v, h.ps⟩)
    ⟨rfl, Nat.zero_le _, ⟨0, hJ00, hn0⟩, bY, bV⟩ ?round ?done ?stop
  case round =>
    intro lp s x W3 hsz3 hI3 hgv
    gi_wp2
    refine ⟨Gr.refl _, fun W4 ht4 hI4 => ?_⟩
    obtain ⟨hst, hps, ⟨j, hj, hnx⟩, hy, hv⟩ := hI4
    obtain ⟨hx, hlt⟩ := hgv
    have hi4 := HII.out _ _ hj
    rw [hst] at hx hlt
    have hjl : j < L.length := by
      rcases Nat.lt_or_ge j L.length with h | h
      · exact h
      · have := next_start_no hgood (a := (s.2 : Int)) (by rw [hnx]; omega)
        omega
    have hxj : x = L[j].1 := by
      have := (next_start_yes hgood (a := (s.2 : Int)) (by rw [hnx]; exact hjl)).1
      rw [hx, this]; congr 2
    subst hxj
    have hJd : J j W4.drew := hJ _ _ _ hj ((Gr.refl W4).drew.touch _)
    have hsz4 : W.heap.size ≤ W4.drew.heap.size := Nat.le_of_lt (lt_cell hy)
    obtain ⟨fn, tmps, assign, body, hyy, hR⟩ := yieldAt_wide (m' := 2) (l2 := lp) (hY j L[j] W4.drew hJd hsz4 (List.getElem?_eq_getElem hjl))
    have HZ := hid (ext_size (hi4.1.gr (Gr.refl W4).drew) ((Gr.refl W4).drew.tab hi4.2.1.lt hi4.2.1) hjl)
    have cbx := hi4.2.2.1
    have hbxs := hsz0
    have HS := hid (And.intro hst (And.intro hnx hjl))
    clear hst hnx hj hi4 hx hlt hI3
    dsimp only [encO] at hyy
    have hR2 := hR.mono (R' := fun e W' => ∃ bb : Bool, e = .returned (.bool bb) ∧ ((bb = true ∧ J (j + 1) W') ∨ (bb = false ∧ Jx W')) ∧ Touch (fun k => k < W.heap.size) W4.drew W') (by
      rintro e W' ⟨⟨he, s', rfl, hs'⟩ | ⟨he, hx⟩, ht⟩
      · exact ⟨true, he, .inl ⟨rfl, hs'⟩, ht⟩
      · exact ⟨false, he, .inr ⟨rfl, hx⟩, ht⟩)
    clear hR
    gi_wp2
    obtain ⟨Sx, hSx⟩ : ∃ S : World → Prop, S = fun A => A.cell? ⟨W.heap.size, 0, none⟩ = some (.func (.yield l) #[] #[]) := ⟨_, rfl⟩
    have x1 : ∀ p : Held Sx, p.w.cell? ⟨W.heap.size, 0, none⟩ = some (.func (.yield l) #[] #[]) := fun p => Held.get hSx p
    have hS0 : Sx W4.drew := by rw [hSx]; exact hy
    have HSx := hid hSx
    clear hSx
    have inst : Inhabited (Held Sx) := ⟨⟨_, hS0⟩⟩
    refine wpIn_region_mixS Sx 7 [([0, 1, 3], 2), ([], 4), ([], 5)] [6] (fun _ => trivial) (by kernel_rfl) (by kernel_rfl) hS0 ?_
    refine segsIn_step ?_
    simp only [opsAt, List.getElem?_cons_zero, List.getElem?_cons_succ]
    repeat (go_big_quiet_step (fail))
    refine wpQuiet_nil ?_
    gi_wp2
    refine ⟨.inr (Held.of hS0), ?_⟩
    refine segsIn_step ?_
    simp only [opsAt, List.getElem?_cons_zero, List.getElem?_cons_succ]
    refine wpQuiet_nil ?_
    gi_wp2_with (refine ⟨trivial, ?_⟩; gi_at_call 153; refine (CallsIn.inRound lp (callsIn_wide.2 HZ.out)).mono ?_; rintro e w' ⟨rfl, rfl⟩)
    refine ⟨.inr (Held.of hS0), ?_⟩
    refine segsIn_step ?_
    simp only [opsAt, List.getElem?_cons_zero, List.getElem?_cons_succ]
    refine wpQuiet_nil ?_
    gi_wp2
    refine hR2.mono ?_
    rintro e W5 ⟨bb, rfl, hor, ht5⟩
    have hy5 := (ht5.cell (lt_cell hy) (Nat.lt_irrefl _) 0).trans hy
    have hv5 := (ht5.cell (lt_cell hv) (by show ¬ W.heap.size + 1 < W.heap.size; omega) 0).trans hv
    gi_wp2
    refine ⟨.inr (Held.of (by rw [HSx.out]; exact hy5)), ?_⟩
    refine segsIn_end ?_
    simp only [opsAt, List.getElem?_cons_zero, List.getElem?_cons_succ]
    repeat (go_big_quiet_step (fail))
    refine wpQuiet_nil ?_
    refine NoPanic.normal ?_
    have T5 := hid (((Gr.refl W4).drew.touch (fun k => k < W0.heap.size)).trans (ht5.mono (fun k _ h => by omega)))
    have HSZ := hid (hgood.sz _ (List.getElem_mem hjl))
    clear x1 hS0 HSx inst hR2 ht5
    clear Sx
    cases bb with
    | true =>
      have hJ5 : J (j + 1) W5 := by
        rcases hor with ⟨_, h⟩ | ⟨h, _⟩
        · exact h
        · cases h
      have HJ5 := hid hJ5
      clear hor hJ5
      gi_wp2
      exact ⟨T5.out, (startsL n L, L[j].1 + 1), rfl, rfl, by have := HSZ.out; show L[j].1 + 1 ≤ n; omega, ⟨j + 1, HJ5.out, by have := next_succ_ob hgood hjl; push_cast; exact this⟩, hy5, hv5⟩
    | false =>
      have hJ5 : Jx W5 := by
        rcases hor with ⟨h, _⟩ | ⟨_, h⟩
        · cases h
        · exact h
      have HJ5 := hid hJ5
      clear hor hJ5
      gi_wp2
      exact ⟨T5.out, rfl, HJ5.out⟩
  case done =>
    rintro D s W3 hD hfin hI3 hK
    obtain ⟨hst, hps, ⟨j, hj, hnx⟩, hy, hv⟩ := hI3
    have hjl : ¬ j < L.length := fun h => by
      have := next_start_yes hgood (a := (s.2 : Int)) (by rw [hnx]; exact h)
      unfold OnesFin at hfin
      rw [hst] at hfin
      exact hfin this.2
    have hje : j = L.length := by have := nextO_le L (s.2 : Int); omega
    have HE := hid (And.intro hje hj)
    have HK := hid hK
    have HD := hid hD
    clear hst hps hnx hy hv hfin hje hj hK hD hjl
    gi_wp2
    refine ⟨by simp, .inl ⟨_, _, rfl, run_takeDeferred HK.out, ?_⟩⟩
    refine ⟨.tuple #[], results_none rfl _ _ _, ⟨_, rfl⟩, .inl ⟨j, HE.out.1, hJ _ _ _ HE.out.2 ((touch_putObj W3 D _ (Nat.le_refl D)).mono (fun k _ h => by have := HD.out; omega))⟩⟩
  case stop =>
    rintro D c W3 hD ⟨rfl, hx⟩ hK
    have HE := hid hx
    have HK := hid hK
    have HD := hid hD
    clear hx hK hD
    gi_wp2
    refine ⟨by simp, .inl ⟨_, _, rfl, run_takeDeferred HK.out, ?_⟩⟩
    refine ⟨.tuple #[], results_none rfl _ _ _, ⟨_, rfl⟩, .inr (hJx _ _ HE.out ((touch_putObj W3 D _ (Nat.le_refl D)).mono (fun k _ h => by have := HD.out; omega)))⟩
end Go.Proofs.YtbmidhlilafgeaaGreatDoor
end

section
namespace Go.Proofs.YtbmidhlilafgeaaGreatDoor
open Go.RowKit Go.Shelf Word
attribute [local go_sem] Oper.semAt_some

theorem all_call {w : World} (q : Option Addr) :
    Calls Tryz.prog 86 #[.pointer q] w fun e w' => e = .returned (.func (.func 150) #[] #[.pointer (some ⟨w.heap.size, 0, none⟩)]) ∧ w' = w.alloc (.cells #[.pointer q] 124) := by
  have hmf : ∀ (fn : Fn) (first cap : Array Value) (w : World), (Instr.makeFunc fn first cap).run Tryz.prog w = .ok (.func fn first cap) w := fun _ _ _ _ => rfl
  go_enter Tryz.func86, Tryz.ntmps86
  go_wp2
  go_ret
  exact ⟨rfl, rfl⟩
theorem TabAt.touch' {S : Nat → Prop} {w W : World} (ht : TabAt w) (h : Touch S w W) (hS : ¬ S 0) : TabAt W := h.tab ht.lt hS ht
end Go.Proofs.YtbmidhlilafgeaaGreatDoor
end

section
namespace Go.Proofs.YtbmidhlilafgeaaGreatDoor
open Go.RowKit Go.Shelf Word
attribute [local go_sem] Oper.semAt_some

end Go.Proofs.YtbmidhlilafgeaaGreatDoor
end
end
section
section
namespace Go.Proofs.YtbmidhlilafgeaaGreatDoor
open Go.RowKit Word

/-- The objects L lie behind A, two cells each. -/
def ObjsAt (w : World) (A : Option Addr) (L : List Ob) : Prop := ∀ i (h : i < L.length), ∃ g, A = some ⟨g, 0, none⟩ ∧ g < w.heap.size ∧
  w.cell? ⟨g, i * 2, none⟩ = some (.int .i64 (L[i].1 : Nat)) ∧ w.cell? ⟨g, i * 2 + 1, none⟩ = some (.int .i64 (L[i].2 : Nat))
theorem ObjsAt.touch {S : Nat → Prop} {w w' : World} {A : Option Addr} {L : List Ob} (h : ObjsAt w A L) (t : Touch S w w') (hS : ∀ a, A = some a → ¬ S a.block) : ObjsAt w' A L := fun i hi => by
  obtain ⟨g, rfl, h1, h2, h3⟩ := h i hi
  have hn := hS _ rfl
  exact ⟨g, rfl, Nat.lt_of_lt_of_le h1 t.size, (t.cell h1 hn _).trans h2, (t.cell h1 hn _).trans h3⟩
theorem ObjsAt.gr {w w' : World} {A : Option Addr} {L : List Ob} (h : ObjsAt w A L) (t : Gr w w') : ObjsAt w' A L := h.touch (t.touch (fun _ => False)) (fun _ _ h => h)
/-- The place number j, -1 behind the last. -/
def idxI (L : List Ob) (j : Nat) : Int := if j < L.length then j else -1

set_option maxRecDepth 100000 in
set_option maxHeartbeats 800000 in
theorem ref13_find {w : World} {A : Option Addr} {c : Nat} {L : List Ob} (hA : ObjsAt w A L) {n : Nat} (hg : Good n L) (hn : n ≤ 1048576) (a : Int) (ha : a ≤ 9223372036854775807) :
    Gets Tryz.prog 188 #[.slice A L.length c, .int .i64 a] w (.int .i64 (idxI L (findO L a))) := by
  unfold Gets
  have HA := hid hA
  have HG := hid hg
  have hlen := hg.len
  clear hA hg
  go_enter Tryz.func188, Tryz.ntmps188
  go_wp2
  go_loopw [5] (fun i wr => ∃ k : Nat, k ≤ L.length ∧ Hid (Gr w wr) ∧ Hid (∀ i (h : i < L.length), i < k → ¬ ((L[i].1 : Int) ≤ a ∧ a < L[i].1 + L[i].2)) ∧ i = .int .i64 k) (fun i _ => L.length - (intOf i).toNat)
  case atStart => exact ⟨0, by omega, ⟨Gr.refl w⟩, ⟨fun i _ h => by omega⟩, rfl⟩
  case round =>
    obtain ⟨k, hk, hgr, hno, rfl⟩ := hrel
    by_cases hlt : k < L.length
    · obtain ⟨g, rfl, -, q1, q2⟩ := (HA.out.gr hgr.out) k hlt
      have hsz := HG.out.sz _ (List.getElem_mem hlt)
      obtain ⟨s, hs⟩ : ∃ s, s = L[k].1 := ⟨_, rfl⟩
      obtain ⟨z, hz⟩ : ∃ z, z = L[k].2 := ⟨_, rfl⟩
      rw [← hs] at q1
      rw [← hz] at q2
      rw [← hs, ← hz] at hsz
      by_cases h1 : (s : Int) ≤ a
      · have d1 : decide ((s : Int) ≤ a) = true := by simp [h1]
        by_cases h2 : a - s < z
        · have d2 : decide (a - (s : Int) < (z : Int)) = true := by simp [h2]
          have E : Hid (findO L a = k) := ⟨findO_eq HG.out hlt (by rw [← hs]; exact h1) (by rw [← hs, ← hz]; omega)⟩
          clear hs hz hno
          go_wp2
          go_quiet (fail)
          go_wp2
          go_ret
          exact ⟨ret_int (by rw [E.out]; unfold idxI; rw [if_pos hlt]), hgr.out.drewN _⟩
        · have d2 : decide (a - (s : Int) < (z : Int)) = false := by simp; omega
          have HN : Hid (∀ i (h : i < L.length), i < k + 1 → ¬ ((L[i].1 : Int) ≤ a ∧ a < L[i].1 + L[i].2)) := ⟨fun i h hi => by
            rcases Nat.lt_or_ge i k with h3 | h3
            · exact hno.out i h h3
            · obtain rfl : i = k := by omega
              rw [← hs, ← hz]; omega⟩
          clear hs hz hno
          go_wp2
          go_quiet (fail)
          go_wp2
          go_roundw
          case rel => exact ⟨k + 1, by omega, ⟨hgr.out.drewN _⟩, HN, by go_num⟩
          case measure => simp [intOf]; omega
      · have d1 : decide ((s : Int) ≤ a) = false := by simp; omega
        have HN : Hid (∀ i (h : i < L.length), i < k + 1 → ¬ ((L[i].1 : Int) ≤ a ∧ a < L[i].1 + L[i].2)) := ⟨fun i h hi => by
          rcases Nat.lt_or_ge i k with h3 | h3
          · exact hno.out i h h3
          · obtain rfl : i = k := by omega
            rw [← hs, ← hz]; omega⟩
        clear hs hz hno
        go_wp2
        go_quiet (fail)
        go_wp2
        go_roundw
        case rel => exact ⟨k + 1, by omega, ⟨hgr.out.drewN _⟩, HN, by go_num⟩
        case measure => simp [intOf]; omega
    · have E : Hid (findO L a = L.length) := ⟨findO_none (fun o ho => by
        obtain ⟨i, hi, rfl⟩ := List.getElem_of_mem ho
        exact hno.out i hi (by omega))⟩
      clear hno
      go_wp2
      go_ret
      exact ⟨ret_int (by rw [E.out]; unfold idxI; rw [if_neg (Nat.lt_irrefl _)]), hgr.out⟩

end Go.Proofs.YtbmidhlilafgeaaGreatDoor
end

section
namespace Go.Proofs.YtbmidhlilafgeaaGreatDoor
open Go.RowKit Word

/-! A row that grows -/
def flatO (L : List Ob) : List Value := L.flatMap fun o => [.int .i64 (o.1 : Nat), .int .i64 (o.2 : Nat)]
theorem flatO_append (L M : List Ob) : flatO (L ++ M) = flatO L ++ flatO M := by simp [flatO]
theorem flatO_at {L : List Ob} {i : Nat} (h : i < L.length) : (flatO L)[i * 2]? = some (.int .i64 (L[i].1 : Nat)) ∧ (flatO L)[i * 2 + 1]? = some (.int .i64 (L[i].2 : Nat)) := by
  induction L generalizing i with
  | nil => exact absurd h (Nat.not_lt_zero _)
  | cons o r ih =>
    have e : flatO (o :: r) = .int .i64 (o.1 : Nat) :: .int .i64 (o.2 : Nat) :: flatO r := rfl
    rw [e]
    cases i with
    | zero => exact ⟨rfl, rfl⟩
    | succ i =>
      have := ih (i := i) (by simpa using h)
      rw [show (i + 1) * 2 = i * 2 + 1 + 1 by omega]
      simpa using this
def OwnO (w : World) (base : Nat) (v : Value) (L : List Ob) : Prop := w.ownsRow base 120 2 v L.length (flatO L)
theorem own_objs {w : World} {base : Nat} {v : Value} {L : List Ob} (h : OwnO w base v L) : ∃ A c, v = .slice A L.length c ∧ ObjsAt w A L ∧ ∀ a, A = some a → base ≤ a.block := by
  by_cases hn : L.length = 0
  · obtain ⟨_, ⟨rfl, _⟩ | ⟨g, c, cur, rfl, e2, _⟩⟩ := h
    · exact ⟨none, 0, by rw [hn], fun i hi => by omega, fun a e => by cases e⟩
    · exact ⟨some ⟨g, 0, none⟩, c, rfl, fun i hi => by omega, fun a e => by cases e; exact e2⟩
  · obtain ⟨g, c, rfl, h1, _, _, h4⟩ := own_form h hn
    exact ⟨_, c, rfl, fun i hi => ⟨g, rfl, h4, own_cell h (flatO_at hi).1, own_cell h (flatO_at hi).2⟩, fun a e => by cases e; exact h1⟩
theorem insO_step {M : List Ob} {o x : Ob} : (∃ y ∈ M, o.1 < y.1) → insO (M ++ [x]) o = insO M o ++ [x] := by
  induction M with
  | nil => rintro ⟨y, h, _⟩; cases h
  | cons q r ih =>
    rintro ⟨y, hy, hl⟩
    show insO (q :: (r ++ [x])) o = insO (q :: r) o ++ [x]
    unfold insO
    by_cases h : o.1 < q.1
    · rw [if_pos h, if_pos h]; rfl
    · rw [if_neg h, if_neg h]
      rcases List.mem_cons.1 hy with rfl | hy
      · exact absurd hl h
      · rw [ih ⟨y, hy, hl⟩]; rfl
theorem insO_last {M : List Ob} {o : Ob} (h : ∀ y ∈ M, ¬ o.1 < y.1) : insO M o = M ++ [o] := by
  induction M with
  | nil => rfl
  | cons q r ih =>
    unfold insO
    rw [if_neg (h q (by simp)), ih (fun y hy => h y (by simp [hy]))]; rfl
theorem insO_here {M : List Ob} {o x : Ob} (h : ∀ y ∈ M, ¬ o.1 < y.1) (hx : o.1 < x.1) : insO (M ++ [x]) o = M ++ [o] ++ [x] := by
  induction M with
  | nil => show insO [x] o = _; unfold insO; rw [if_pos hx]; rfl
  | cons q r ih =>
    show insO (q :: (r ++ [x])) o = _
    unfold insO
    rw [if_neg (h q (by simp)), ih (fun y hy => h y (by simp [hy]))]; rfl
theorem infoOb : (Tryz.prog.info? 120).map (fun i => (i.zero, i.size, i.bytes)) = some (some (.agg #[.int .i64 0, .int .i64 0]), 2, 16) := by kernel_rfl
end Go.Proofs.YtbmidhlilafgeaaGreatDoor
end

section
namespace Go.Proofs.YtbmidhlilafgeaaGreatDoor
open Go.RowKit Word

theorem OwnO.push {w : World} {base : Nat} {v : Value} {M : List Ob} {o : Ob} (h : w.ownsRow base 120 2 v (M.length + 1) (flatO M ++ [.int .i64 (o.1 : Nat), .int .i64 (o.2 : Nat)])) : OwnO w base v (M ++ [o]) := by
  unfold OwnO
  rw [flatO_append, List.length_append]
  exact h
theorem OwnO.gr {w w' : World} {base : Nat} {v : Value} {M : List Ob} (h : OwnO w base v M) (t : Gr w w') : OwnO w' base v M := own_gr h t
theorem OwnO.nil (w : World) (base : Nat) : OwnO w base (.slice none 0 0) [] := own_nil w base _ _
/-- Behind one more element. -/
theorem push_touch {w wr w1 : World} {o : Obj} {v : Value} {M : List Ob} (ht : Touch (fun k => w.heap.size ≤ k) w wr) (ho : OwnO wr w.heap.size v M) (hg : (wr.alloc o).grownBy w1 v.ownBlock) : Touch (fun k => w.heap.size ≤ k) w w1 :=
  (ht.alloc o).trans (grown_touch hg _ (fun _ e _ => (own_lt ho e).1))
theorem touch_old {w w' : World} (h : Touch (fun k => w.heap.size ≤ k) w w') : Gr w w' := (h.mono (T := fun _ => False) (fun k hk h => by omega)).gr

/-- What a list that comes back is: it lies, and its block is the old one or new. -/
def BackO (w : World) (A : Option Addr) (L : List Ob) (v : Value) (w' : World) : Prop :=
  Gr w w' ∧ ∃ A' c, v = .slice A' L.length c ∧ ObjsAt w' A' L ∧ ∀ a, A' = some a → A = some a ∨ w.heap.size ≤ a.block
theorem backO_own {w w' : World} {A : Option Addr} {L : List Ob} {v : Value} (ht : Touch (fun k => w.heap.size ≤ k) w w') (h : OwnO w' w.heap.size v L) : BackO w A L v w' := by
  obtain ⟨A', c, rfl, h1, h2⟩ := own_objs h
  exact ⟨touch_old ht, A', c, rfl, h1, fun a e => .inr (h2 a e)⟩
end Go.Proofs.YtbmidhlilafgeaaGreatDoor
end

section
namespace Go.Proofs.YtbmidhlilafgeaaGreatDoor
open Go.RowKit Word

/-- Where Add's second loop stands. -/
def addS (L : List Ob) (o : Ob) (k : Nat) (d : Bool) (M : List Ob) : Prop :=
  (d = false ∧ M = L.take k ∧ ∀ y ∈ L.take k, ¬ o.1 < y.1) ∨ (d = true ∧ M = insO (L.take k) o ∧ ∃ y ∈ L.take k, o.1 < y.1)
theorem addS_len {L : List Ob} {o : Ob} {k : Nat} {d : Bool} {M : List Ob} (h : addS L o k d M) : M.length ≤ L.length + 1 := by
  rcases h with ⟨_, rfl, _⟩ | ⟨_, rfl, _⟩
  · rw [List.length_take]; omega
  · rw [insO_len, List.length_take]; omega
theorem addS_here {L : List Ob} {o : Ob} {k : Nat} (hk : k < L.length) {M : List Ob} (h : addS L o k false M) (hl : o.1 < L[k].1) : addS L o (k + 1) true (M ++ [o] ++ [L[k]]) := by
  rcases h with ⟨_, rfl, h⟩ | ⟨h, _⟩
  · refine .inr ⟨rfl, ?_, L[k], ?_, hl⟩
    · rw [List.take_succ_eq_append_getElem hk, insO_here h hl]
    · rw [List.take_succ_eq_append_getElem hk]; exact List.mem_append_right _ (List.mem_singleton.2 rfl)
  · cases h
theorem addS_next {L : List Ob} {o : Ob} {k : Nat} (hk : k < L.length) {M : List Ob} (h : addS L o k false M) (hl : ¬ o.1 < L[k].1) : addS L o (k + 1) false (M ++ [L[k]]) := by
  rcases h with ⟨_, rfl, h⟩ | ⟨h, _⟩
  · refine .inl ⟨rfl, (List.take_succ_eq_append_getElem hk).symm, fun y hy => ?_⟩
    rw [List.take_succ_eq_append_getElem hk] at hy
    rcases List.mem_append.1 hy with hy | hy
    · exact h y hy
    · rw [List.mem_singleton.1 hy]; exact hl
  · cases h
theorem addS_on {L : List Ob} {o : Ob} {k : Nat} (hk : k < L.length) {M : List Ob} (h : addS L o k true M) : addS L o (k + 1) true (M ++ [L[k]]) := by
  rcases h with ⟨h, _⟩ | ⟨_, rfl, y, hy, hl⟩
  · cases h
  · refine .inr ⟨rfl, ?_, y, ?_, hl⟩
    · rw [List.take_succ_eq_append_getElem hk, insO_step ⟨y, hy, hl⟩]
    · rw [List.take_succ_eq_append_getElem hk]; exact List.mem_append_left _ hy
theorem addS_end {L : List Ob} {o : Ob} {M : List Ob} (h : addS L o L.length false M) : M ++ [o] = insO L o := by
  rcases h with ⟨_, rfl, h⟩ | ⟨h, _⟩
  · rw [List.take_length] at h ⊢; rw [insO_last h]
  · cases h
theorem addS_done {L : List Ob} {o : Ob} {M : List Ob} (h : addS L o L.length true M) : M = insO L o := by
  rcases h with ⟨h, _⟩ | ⟨_, rfl, _⟩
  · cases h
  · rw [List.take_length]

def AddBack (w : World) (A : Option Addr) (L : List Ob) (n : Nat) (s z : Int) (e : Ending) (w' : World) : Prop :=
  ∃ v, e = .returned (.tuple #[v, .int .i64 (addE L n s z)]) ∧ BackO w A (addL L n s z) v w'
theorem addBack_no {w w' : World} {A : Option Addr} {c : Nat} {L : List Ob} {n : Nat} {s z k : Int} (hA : ObjsAt w A L) (h : addE L n s z = k) (hk : k ≠ 0) (hg : Gr w w') : AddBack w A L n s z (.returned (.tuple #[.slice A L.length c, .int .i64 k])) w' := by
  refine ⟨_, by rw [h], hg, A, c, ?_, ?_, fun a e => .inl e⟩
  · unfold addL; rw [if_neg (by rw [h]; exact hk)]
  · unfold addL; rw [if_neg (by rw [h]; exact hk)]; exact hA.gr hg
set_option maxRecDepth 100000 in
set_option maxHeartbeats 3200000 in
theorem ref13_add {w : World} {A : Option Addr} {c : Nat} {L : List Ob} (hA : ObjsAt w A L) {n : Nat} (hg : Good n L) (hn : n ≤ 1048576) (s z : Int) :
    Calls Tryz.prog 141 #[.slice A L.length c, .int .i64 n, .int .i64 s, .int .i64 z] w (AddBack w A L n s z) := by
  have HA := hid hA
  have HG := hid hg
  have hlen := hg.len
  clear hA hg
  by_cases h0 : z < 1
  · have E : Hid (addE L n s z = 15) := ⟨by unfold addE; rw [if_pos h0]⟩
    go_enter Tryz.func141, Tryz.ntmps141
    go_wp2
    go_ret2
    exact addBack_no HA.out E.out (by decide) (Gr.refl _)
  by_cases h1 : s < 0 ∨ (n : Int) ≤ s ∨ (n : Int) - s < z
  · have E : Hid (addE L n s z = 11) := ⟨by unfold addE; rw [if_neg h0, if_pos h1]⟩
    by_cases h2 : s < 0
    · clear h1
      go_enter Tryz.func141, Tryz.ntmps141
      go_wp2
      go_ret2
      exact addBack_no HA.out E.out (by decide) (Gr.refl _)
    · by_cases h3 : (n : Int) ≤ s
      · clear h1
        go_enter Tryz.func141, Tryz.ntmps141
        go_wp2
        go_ret2
        exact addBack_no HA.out E.out (by decide) (Gr.refl _)
      · have h4 : (n : Int) - s < z := by omega
        clear h1
        go_enter Tryz.func141, Tryz.ntmps141
        go_wp2
        go_ret2
        exact addBack_no HA.out E.out (by decide) (Gr.refl _)
  · obtain ⟨s, rfl⟩ : ∃ q : Nat, s = q := ⟨s.toNat, by omega⟩
    obtain ⟨z, rfl⟩ : ∃ q : Nat, z = q := ⟨z.toNat, by omega⟩
    have hs : s < n := by omega
    have hz1 : 1 ≤ z := by omega
    have hz2 : s + z ≤ n := by omega
    have hz3 : (z : Int) ≤ (n : Int) - (s : Int) := by omega
    have hd0 : decide ((z : Int) < 1) = false := by simp; omega
    have hd1 : decide ((n : Int) - (s : Int) < (z : Int)) = false := by simp; omega
    have hd2 : decide ((s : Int) < 0) = false := by simp
    have hd3 : decide (n ≤ s) = false := by simp; omega
    have EE : Hid (∀ b, clashB L s z = b → addE L n s z = if b then 7 else 0) := ⟨fun b hb => by unfold addE; rw [if_neg h0, if_neg h1, hb]⟩
    clear h0 h1
    obtain ⟨i0, hi, hi0, hi1, hi2⟩ := info_parts infoOb
    go_enter Tryz.func141, Tryz.ntmps141
    go_wp2
    go_loopw [10] (fun s10 wr => ∃ k : Nat, k ≤ z ∧ Hid (Gr w wr) ∧ Hid (∀ o ∈ L, ∀ a : Nat, s ≤ a → a < s + k → ¬ (o.1 ≤ a ∧ a < o.1 + o.2)) ∧ s10 = .int .i64 ((s + k : Nat) : Int)) (fun s10 _ => 1048577 - (intOf s10).toNat)
    case atStart => exact ⟨0, by omega, ⟨Gr.refl w⟩, ⟨fun o _ a h1 h2 => by omega⟩, rfl⟩
    case round =>
      obtain ⟨k, hk, hgr, hno, rfl⟩ := hrel
      by_cases hlt : k < z
      · obtain ⟨a, ha⟩ : ∃ a, a = s + k := ⟨_, rfl⟩
        have hak : a < s + z := by omega
        rw [← ha]
        by_cases hf : findO L a < L.length
        · have E : Hid (addE L n s z = 7) := ⟨EE.out true (clash_iff.2 ⟨_, List.getElem_mem hf, by have := findO_yes hf; omega, by have := findO_yes hf; omega⟩)⟩
          have HD : Hid (idxI L (findO L a) = (findO L a : Nat)) := ⟨if_pos hf⟩
          have HA2 := hid (HA.out.gr hgr.out)
          clear hno hf ha
          go_wp2_with (go_at_call 188; refine (ref13_find HA2.out HG.out hn _ (by omega)).mono ?_; rintro e w1 ⟨rfl, hg1⟩; rw [HD.out]; have HG1 := hid (hgr.out.trans hg1); clear hg1)
          go_ret2
          exact addBack_no HA.out E.out (by decide) HG1.out
        · have HD : Hid (idxI L (findO L a) = -1) := ⟨if_neg hf⟩
          have HN : Hid (∀ o ∈ L, ∀ a : Nat, s ≤ a → a < s + (k + 1) → ¬ (o.1 ≤ a ∧ a < o.1 + o.2)) := ⟨fun o ho b h1 h2 => by
            rcases Nat.lt_or_ge b (s + k) with h3 | h3
            · exact hno.out o ho b h1 h3
            · obtain rfl : b = a := by omega
              obtain ⟨i, hi, rfl⟩ := List.getElem_of_mem ho
              have := findO_no (L := L) (a := b) (i := i) (by have := findO_le L b; omega) hi
              omega⟩
          have HA2 := hid (HA.out.gr hgr.out)
          have e1 : Hid (a + 1 = s + (k + 1)) := ⟨by omega⟩
          clear hno hf ha
          go_wp2_with (go_at_call 188; refine (ref13_find HA2.out HG.out hn _ (by omega)).mono ?_; rintro e w1 ⟨rfl, hg1⟩; rw [HD.out]; have HG1 := hid (hgr.out.trans hg1); clear hg1)
          go_roundw
          case rel => exact ⟨k + 1, by omega, HG1, HN, vint (by rw [← e1.out]; omega)⟩
          case measure => simp [intOf]; omega
      · obtain rfl : k = z := by omega
        have hcl : clashB L s k = false := by
          cases hc : clashB L s k with
          | false => rfl
          | true =>
            obtain ⟨o, ho, c1, c2⟩ := clash_iff.1 hc
            have hsz := HG.out.sz _ ho
            exact absurd ⟨by omega, by omega⟩ (hno.out o ho (max o.1 s) (by omega) (by omega))
        have E : Hid (addE L n s k = 0) := ⟨EE.out false hcl⟩
        have EL : Hid (addL L n s k = insO L (s, k)) := ⟨by unfold addL; rw [if_pos E.out, Int.toNat_natCast, Int.toNat_natCast]⟩
        have HG2 := hid (hgr.out.touch (fun k => w.heap.size ≤ k))
        clear hno hcl hgr EE
        rename Nat => z
        obtain ⟨ez, hez⟩ : ∃ e : Nat, e = s + z := ⟨_, rfl⟩
        have hd4 : decide ((ez : Int) < (s : Int) + (z : Int)) = false := by simp; omega
        rw [← hez]
        clear hez
        go_wp2
        go_loopw [11, 12, 13] (fun s11 s12 i w2 => ∃ (k : Nat) (d : Bool) (M : List Ob), k ≤ L.length ∧ Hid (addS L (s, z) k d M) ∧ Hid (OwnO w2 w.heap.size s11 M) ∧ Hid (Touch (fun k => w.heap.size ≤ k) w w2) ∧ s12 = .bool d ∧ i = .int .i64 k) (fun _ _ i _ => L.length - (intOf i).toNat)
        case atStart => exact ⟨0, false, [], by omega, ⟨.inl ⟨rfl, rfl, fun y hy => by cases hy⟩⟩, ⟨OwnO.nil _ _⟩, HG2, rfl, rfl⟩
        case round =>
          obtain ⟨k, d, M, hk, hS, hO, ht, rfl, rfl⟩ := hrel
          have hMl := addS_len hS.out
          have hws := ht.out.size
          by_cases hlt : k < L.length
          · obtain ⟨g, rfl, hgl, q1, q2⟩ := HA.out k hlt
            have q1 := (ht.out.cell hgl (by omega) _).trans q1
            have q2 := (ht.out.cell hgl (by omega) _).trans q2
            have HLT := hid hlt
            cases d with
            | false =>
              by_cases hl : s < L[k].1
              · have HS := hid (addS_here hlt hS.out hl)
                have d1 : decide ((s : Int) < (L[k].1 : Int)) = true := by simp; omega
                obtain ⟨o, ho⟩ : ∃ o, o = L[k] := ⟨_, rfl⟩
                rw [← ho] at q1 q2 hl d1 HS
                have HQ := hid (And.intro hgl (And.intro q1 q2))
                clear ho hS
                go_upto_region 18 with (first
                  | (at_builtin; refine wpList_append_own _ rfl _ _ 59 rfl w.heap.size 120 i0 _ 2 16 Tryz.underlying59 hi hi0 hi1 hi2 rfl (by decide) u11 _ (flatO M) rfl (hO.out.gr ((Gr.refl _).alloc _)) ⟨wr.heap.size, 0, none⟩ 1 1 [.int .i64 (s : Nat), .int .i64 (z : Nat)] rfl rfl (World.news_of_block (cs := #[.int .i64 (s : Nat), .int .i64 (z : Nat)]) (t := 120) (fr := (0, 0)) (heap_alloc_new wr _)) (by simp [Value.oneCell']) (by (try simp only [List.length_append, List.length_cons, List.length_nil]); unfold maxLen; omega) (by (try simp only [List.length_append, List.length_cons, List.length_nil]); omega) (by simp only [World.size_alloc]; omega) ?_; intro v1 x1 hown1 hgrow1 _; have HO1 := hid (OwnO.push (o := (s, z)) hown1); have HT1 := hid (push_touch ht.out hO.out hgrow1); have hws1 := HT1.out.size; clear hown1 hgrow1))
                have q1 := (HT1.out.cell HQ.out.1 (by omega) _).trans ((ht.out.cell HQ.out.1 (by omega) _).symm.trans HQ.out.2.1)
                have q2 := (HT1.out.cell HQ.out.1 (by omega) _).trans ((ht.out.cell HQ.out.1 (by omega) _).symm.trans HQ.out.2.2)
                go_wp2_with (first
                  | (at_builtin; refine wpList_append_own _ rfl _ _ 59 rfl w.heap.size 120 i0 _ 2 16 Tryz.underlying59 hi hi0 hi1 hi2 rfl (by decide) v1 _ (flatO (M ++ [(s, z)])) rfl (HO1.out.gr ((Gr.refl _).alloc _)) ⟨x1.heap.size, 0, none⟩ 1 1 [.int .i64 (o.1 : Nat), .int .i64 (o.2 : Nat)] rfl rfl (World.news_of_block (cs := #[.int .i64 (o.1 : Nat), .int .i64 (o.2 : Nat)]) (t := 120) (fr := (0, 0)) (heap_alloc_new x1 _)) (by simp [Value.oneCell']) (by (try simp only [List.length_append, List.length_cons, List.length_nil]); unfold maxLen; omega) (by (try simp only [List.length_append, List.length_cons, List.length_nil]); omega) (by simp only [World.size_alloc]; omega) ?_; intro v2 x2 hown2 hgrow2 _; have HO2 := hid (OwnO.push (o := o) hown2); have HT2 := hid (push_touch HT1.out HO1.out hgrow2); clear hown2 hgrow2))
                go_roundw
                case rel => exact ⟨k + 1, _, _, by omega, HS, HO2, HT2, rfl, by go_num⟩
                case measure => simp [intOf]; omega
              · have HS := hid (addS_next hlt hS.out hl)
                have d1 : decide ((s : Int) < (L[k].1 : Int)) = false := by simp; omega
                obtain ⟨o, ho⟩ : ∃ o, o = L[k] := ⟨_, rfl⟩
                rw [← ho] at q1 q2 hl d1 HS
                clear ho hS
                go_wp2_with (first
                  | (at_builtin; refine wpList_append_own _ rfl _ _ 59 rfl w.heap.size 120 i0 _ 2 16 Tryz.underlying59 hi hi0 hi1 hi2 rfl (by decide) u11 _ (flatO M) rfl (hO.out.gr ((Gr.refl _).alloc _)) ⟨wr.heap.size, 0, none⟩ 1 1 [.int .i64 (o.1 : Nat), .int .i64 (o.2 : Nat)] rfl rfl (World.news_of_block (cs := #[.int .i64 (o.1 : Nat), .int .i64 (o.2 : Nat)]) (t := 120) (fr := (0, 0)) (heap_alloc_new wr _)) (by simp [Value.oneCell']) (by (try simp only [List.length_append, List.length_cons, List.length_nil]); unfold maxLen; omega) (by (try simp only [List.length_append, List.length_cons, List.length_nil]); omega) (by simp only [World.size_alloc]; omega) ?_; intro v1 x1 hown1 hgrow1 _; have HO1 := hid (OwnO.push (o := o) hown1); have HT1 := hid (push_touch ht.out hO.out hgrow1); clear hown1 hgrow1))
                go_roundw
                case rel => exact ⟨k + 1, _, _, by omega, HS, HO1, HT1, rfl, by go_num⟩
                case measure => simp [intOf]; omega
            | true =>
              have HS := hid (addS_on hlt hS.out)
              obtain ⟨o, ho⟩ : ∃ o, o = L[k] := ⟨_, rfl⟩
              rw [← ho] at q1 q2 HS
              clear ho hS
              go_wp2_with (first
                | (at_builtin; refine wpList_append_own _ rfl _ _ 59 rfl w.heap.size 120 i0 _ 2 16 Tryz.underlying59 hi hi0 hi1 hi2 rfl (by decide) u11 _ (flatO M) rfl (hO.out.gr ((Gr.refl _).alloc _)) ⟨wr.heap.size, 0, none⟩ 1 1 [.int .i64 (o.1 : Nat), .int .i64 (o.2 : Nat)] rfl rfl (World.news_of_block (cs := #[.int .i64 (o.1 : Nat), .int .i64 (o.2 : Nat)]) (t := 120) (fr := (0, 0)) (heap_alloc_new wr _)) (by simp [Value.oneCell']) (by (try simp only [List.length_append, List.length_cons, List.length_nil]); unfold maxLen; omega) (by (try simp only [List.length_append, List.length_cons, List.length_nil]); omega) (by simp only [World.size_alloc]; omega) ?_; intro v1 x1 hown1 hgrow1 _; have HO1 := hid (OwnO.push (o := o) hown1); have HT1 := hid (push_touch ht.out hO.out hgrow1); clear hown1 hgrow1))
              go_roundw
              case rel => exact ⟨k + 1, _, _, by omega, HS, HO1, HT1, rfl, by go_num⟩
              case measure => simp [intOf]; omega
          · obtain rfl : k = L.length := by omega
            cases d with
            | false =>
              have HS := hid (addS_end hS.out)
              clear hS
              go_wp2_with (first
                | (at_builtin; refine wpList_append_own _ rfl _ _ 59 rfl w.heap.size 120 i0 _ 2 16 Tryz.underlying59 hi hi0 hi1 hi2 rfl (by decide) u11 _ (flatO M) rfl (hO.out.gr ((Gr.refl _).alloc _)) ⟨wr.heap.size, 0, none⟩ 1 1 [.int .i64 (s : Nat), .int .i64 (z : Nat)] rfl rfl (World.news_of_block (cs := #[.int .i64 (s : Nat), .int .i64 (z : Nat)]) (t := 120) (fr := (0, 0)) (heap_alloc_new wr _)) (by simp [Value.oneCell']) (by (try simp only [List.length_append, List.length_cons, List.length_nil]); unfold maxLen; omega) (by (try simp only [List.length_append, List.length_cons, List.length_nil]); omega) (by simp only [World.size_alloc]; omega) ?_; intro v1 x1 hown1 hgrow1 _; have HO1 := hid (OwnO.push (o := (s, z)) hown1); have HT1 := hid (push_touch ht.out hO.out hgrow1); have hws1 := HT1.out.size; clear hown1 hgrow1))
              go_ret2
              exact ⟨v1, by rw [E.out]; rfl, backO_own HT1.out (by rw [EL.out, ← HS.out]; exact HO1.out)⟩
            | true =>
              have HS := hid (addS_done hS.out)
              clear hS
              go_wp2
              go_ret2
              exact ⟨u11, by rw [E.out]; rfl, backO_own ht.out (by rw [EL.out, ← HS.out]; exact hO.out)⟩
end Go.Proofs.YtbmidhlilafgeaaGreatDoor
end
end
section
namespace Go.Proofs.YtbmidhlilafgeaaGreatDoor
open Go.RowKit Word

/-- An object points to another one. -/
def Points (v : Vm) (a b : Int) : Prop := v.rdE a = 0 ∧ ∃ i : Nat, (i : Int) < (v.rdH a).p ∧ v.ptE a i = 0 ∧ v.ptV a i ≠ 0 ∧ b = (v.ptV a i : Nat)
/-- What roots reach. -/
def Rch (v : Vm) (rs : List Int) (a : Int) : Prop := ∀ P : Int → Prop, (∀ r ∈ rs, r ≠ 0 → P r) → (∀ a b, P a → Points v a b → P b) → P a
theorem Rch.root {v : Vm} {rs : List Int} {r : Int} (h : r ∈ rs) (h0 : r ≠ 0) : Rch v rs r := fun _ h1 _ => h1 r h h0
theorem Rch.step {v : Vm} {rs : List Int} {a b : Int} (h : Rch v rs a) (hp : Points v a b) : Rch v rs b := fun P h1 h2 => h2 a b (h P h1 h2) hp
/-- An object's size. -/
def Vm.osz (v : Vm) (a : Int) : Int := hdrN (v.rdH a)
/-- A memory whose reached objects are whole, and lie apart. -/
structure Sound (v : Vm) (rs : List Int) (n : Nat) : Prop where
  rd : ∀ a, Rch v rs a → v.rdE a = 0
  pt : ∀ a, Rch v rs a → ∀ i : Nat, (i : Int) < (v.rdH a).p → v.ptE a i = 0
  rm : ∀ a, Rch v rs a → a + v.osz a ≤ n
  dj : ∀ a b, Rch v rs a → Rch v rs b → a = b ∨ a + v.osz a ≤ b ∨ b + v.osz b ≤ a
/-- An object starts there. -/
def Hs (L : List Ob) (a : Int) : Prop := ∃ o ∈ L, (o.1 : Int) = a
structure Mk (v : Vm) (rs : List Int) (n : Nat) (L : List Ob) : Prop where
  good : Good n L
  ats : ∀ o ∈ L, Rch v rs o.1 ∧ v.rdE o.1 = 0 ∧ (o.2 : Int) = v.osz o.1
theorem Mk.nil (v : Vm) (rs : List Int) (n : Nat) : Mk v rs n [] := ⟨Good.nil n, fun _ h => by cases h⟩
theorem osz_pos {v : Vm} {a : Int} (h : v.rdE a = 0) : 0 < a ∧ 1 ≤ v.osz a ∧ v.osz a ≤ 256 := by
  obtain ⟨h0, -, p, f, k, e, hs⟩ := rdE_zero h
  refine ⟨h0, ?_⟩
  unfold Vm.osz
  rw [e, show hdrN ⟨p, f, k⟩ = 1 + (p : Int) + f + k from if_pos (hdrE_of hs)]
  omega
theorem Mk.hs {v : Vm} {rs : List Int} {n : Nat} {L : List Ob} (h : Mk v rs n L) {a : Int} (ha : Hs L a) : Rch v rs a ∧ v.rdE a = 0 := by
  obtain ⟨o, ho, rfl⟩ := ha
  exact ⟨(h.ats o ho).1, (h.ats o ho).2.1⟩
theorem hs_add {v : Vm} {n : Nat} {L : List Ob} {a b : Int} (hr : v.rdE a = 0) (he : addE L n a (v.osz a) = 0) : Hs (addL L n a (v.osz a)) b ↔ b = a ∨ Hs L b := by
  have h0 := (osz_pos hr).1
  unfold addL Hs
  rw [if_pos he]
  constructor
  · rintro ⟨o, ho, rfl⟩
    rcases mem_insO.1 ho with rfl | ho
    · left; show (a.toNat : Int) = a; omega
    · exact .inr ⟨o, ho, rfl⟩
  · rintro (rfl | ⟨o, ho, rfl⟩)
    · exact ⟨_, mem_insO.2 (.inl rfl), by show (b.toNat : Int) = b; omega⟩
    · exact ⟨o, mem_insO.2 (.inr ho), rfl⟩
theorem Mk.add {v : Vm} {rs : List Int} {n : Nat} {L : List Ob} (h : Mk v rs n L) {a : Int} (ha : Rch v rs a) (hr : v.rdE a = 0) (he : addE L n a (v.osz a) = 0) : Mk v rs n (addL L n a (v.osz a)) := by
  refine ⟨addL_good h.good _ _, fun o ho => ?_⟩
  have hp := osz_pos hr
  unfold addL at ho
  rw [if_pos he] at ho
  rcases mem_insO.1 ho with rfl | ho
  · have e : ((a.toNat : Nat) : Int) = a := by omega
    show Rch v rs (a.toNat : Nat) ∧ v.rdE (a.toNat : Nat) = 0 ∧ (((v.osz a).toNat : Nat) : Int) = v.osz (a.toNat : Nat)
    rw [e]
    exact ⟨ha, hr, by omega⟩
  · exact h.ats o ho
theorem add_len {L : List Ob} {n : Nat} {s z : Int} (he : addE L n s z = 0) : (addL L n s z).length = L.length + 1 := by
  unfold addL; rw [if_pos he, insO_len]
/-- Where an object can't be marked, the memory is not sound. -/
theorem Mk.fail {v : Vm} {rs : List Int} {n : Nat} {L : List Ob} (h : Mk v rs n L) {a : Int} (ha : Rch v rs a) (hn : ¬ Hs L a) (he : addE L n a (v.osz a) ≠ 0) : ¬ Sound v rs n := fun hS => by
  have hr := hS.rd a ha
  have hp := osz_pos hr
  have hm := hS.rm a ha
  unfold addE at he
  rw [if_neg (by omega), if_neg (by omega)] at he
  split at he
  · rename_i hc
    obtain ⟨o, ho, h1, h2⟩ := clash_iff.1 hc
    obtain ⟨q1, q2, q3⟩ := h.ats o ho
    rcases hS.dj a o.1 ha q1 with e | e | e
    · exact hn ⟨o, ho, e.symm⟩
    · omega
    · omega
  · exact he rfl
/-- All that an object points to is marked. -/
def Cl (v : Vm) (L : List Ob) (a : Int) : Prop := ∀ i : Nat, (i : Int) < (v.rdH a).p → v.ptE a i = 0 ∧ (v.ptV a i ≠ 0 → Hs L (v.ptV a i : Nat))
structure Marks (v : Vm) (rs : List Int) (n : Nat) (L : List Ob) : Prop where
  mkd : Mk v rs n L
  all : ∀ a, Rch v rs a → Hs L a
  cl : ∀ o ∈ L, Cl v L o.1
theorem Marks.of {v : Vm} {rs : List Int} {n : Nat} {L : List Ob} (h : Mk v rs n L) (hr : ∀ r ∈ rs, r ≠ 0 → Hs L r) (hc : ∀ o ∈ L, Cl v L o.1) : Marks v rs n L := by
  refine ⟨h, fun a ha => ha (Hs L) hr ?_, hc⟩
  rintro a b ⟨o, ho, rfl⟩ ⟨-, i, hi, h0, h1, rfl⟩
  exact (hc o ho i hi).2 h1
theorem Marks.sound {v : Vm} {rs : List Int} {n : Nat} {L : List Ob} (h : Marks v rs n L) : Sound v rs n := by
  refine ⟨fun a ha => (h.mkd.hs (h.all a ha)).2, fun a ha i hi => ?_, fun a ha => ?_, fun a b ha hb => ?_⟩
  · obtain ⟨o, ho, rfl⟩ := h.all a ha
    exact (h.cl o ho i hi).1
  · obtain ⟨o, ho, rfl⟩ := h.all a ha
    have := (h.mkd.good.sz o ho).2
    have := (h.mkd.ats o ho).2.2
    omega
  · obtain ⟨o, ho, rfl⟩ := h.all a ha
    obtain ⟨q, hq, rfl⟩ := h.all b hb
    have := (h.mkd.ats o ho).2.2
    have := (h.mkd.ats q hq).2.2
    rcases h.mkd.good.disj ho hq with e | e | e
    · left; rw [e]
    · right; left; omega
    · right; right; omega
theorem pw_ext {L M : List Ob} (h1 : L.Pairwise (fun o q => o.1 < q.1)) (h2 : M.Pairwise (fun o q => o.1 < q.1)) (h : ∀ x, x ∈ L ↔ x ∈ M) : L = M := by
  induction L generalizing M with
  | nil =>
    cases M with
    | nil => rfl
    | cons m M => exact absurd ((h m).2 (List.mem_cons_self ..)) (by simp)
  | cons l L ih =>
    cases M with
    | nil => exact absurd ((h l).1 (List.mem_cons_self ..)) (by simp)
    | cons m M =>
      obtain ⟨a1, a2⟩ := List.pairwise_cons.1 h1
      obtain ⟨b1, b2⟩ := List.pairwise_cons.1 h2
      have e : l = m := by
        rcases List.mem_cons.1 ((h l).1 (List.mem_cons_self ..)) with e | hm
        · exact e
        · rcases List.mem_cons.1 ((h m).2 (List.mem_cons_self ..)) with e | hl
          · exact e.symm
          · have := b1 l hm; have := a1 m hl; omega
      subst e
      congr 1
      refine ih a2 b2 fun x => ⟨fun hx => ?_, fun hx => ?_⟩
      · rcases List.mem_cons.1 ((h x).1 (List.mem_cons_of_mem _ hx)) with e | hm
        · subst e; have := a1 _ hx; omega
        · exact hm
      · rcases List.mem_cons.1 ((h x).2 (List.mem_cons_of_mem _ hx)) with e | hm
        · subst e; have := b1 _ hx; omega
        · exact hm
theorem Good.lt {n : Nat} {L : List Ob} (h : Good n L) : L.Pairwise (fun o q => o.1 < q.1) := by
  refine List.pairwise_iff_getElem.2 fun i j hi hj hij => ?_
  have := h.at hi hj hij
  have := (h.sz _ (List.getElem_mem hi)).1
  omega
theorem Marks.unique {v : Vm} {rs : List Int} {n : Nat} {L M : List Ob} (h : Marks v rs n L) (h' : Marks v rs n M) : L = M := by
  have key : ∀ {L M : List Ob}, Marks v rs n L → Marks v rs n M → ∀ x ∈ L, x ∈ M := fun {L M} h h' x hx => by
    obtain ⟨q1, q2, q3⟩ := h.mkd.ats x hx
    obtain ⟨o, ho, e⟩ := h'.all _ q1
    obtain ⟨p1, p2, p3⟩ := h'.mkd.ats o ho
    rw [e] at p3
    have e1 : o = x := Prod.ext (by omega) (by omega)
    rw [← e1]; exact ho
  exact pw_ext h.mkd.good.lt h'.mkd.good.lt fun x => ⟨key h h' x, key h' h x⟩
/-! The program's marker -/
/-- What is marked, what is on the stack, and whether something was lost. -/
structure MkS where
  L : List Ob
  st : List Int
  lost : Bool
def MkS.push (s : MkS) (R : Nat) (L' : List Ob) (a : Int) : MkS := if s.st.length < R then ⟨L', s.st ++ [a], s.lost⟩ else ⟨L', s.st, true⟩
/-- How far a marker has got since. -/
structure Later (s s' : MkS) : Prop where
  sub : ∀ a, Hs s.L a → Hs s'.L a
  len : s.L.length ≤ s'.L.length
  los : s'.lost = true → s.lost = true ∨ s.L.length < s'.L.length
  mea : 2 * s.L.length + s'.st.length ≤ 2 * s'.L.length + s.st.length
theorem Later.refl (s : MkS) : Later s s := ⟨fun _ h => h, Nat.le_refl _, fun h => .inl h, Nat.le_refl _⟩
theorem Later.trans {s t u : MkS} (h : Later s t) (k : Later t u) : Later s u :=
  ⟨fun a ha => k.sub a (h.sub a ha), Nat.le_trans h.len k.len, fun hl => by
    rcases k.los hl with h1 | h1
    · rcases h.los h1 with h2 | h2
      · exact .inl h2
      · exact .inr (Nat.lt_of_lt_of_le h2 k.len)
    · exact .inr (Nat.lt_of_le_of_lt h.len h1), by have := h.mea; have := k.mea; omega⟩
theorem Cl.mono {v : Vm} {L M : List Ob} (hs : ∀ a, Hs L a → Hs M a) {a : Int} (h : Cl v L a) : Cl v M a := fun i hi => ⟨(h i hi).1, fun h0 => hs _ ((h i hi).2 h0)⟩
/-- A marker at work, all but some objects being done. -/
structure MarkInv (v : Vm) (rs : List Int) (n R : Nat) (X : Int → Prop) (s : MkS) : Prop where
  mkd : Mk v rs n s.L
  st : ∀ a ∈ s.st, Hs s.L a
  r : s.st.length ≤ R
  cl : ∀ a, Hs s.L a → Cl v s.L a ∨ a ∈ s.st ∨ s.lost = true ∨ X a
theorem MarkInv.weak {v : Vm} {rs : List Int} {n R : Nat} {X Y : Int → Prop} {s : MkS} (h : MarkInv v rs n R X s) (hX : ∀ a, X a → Y a) : MarkInv v rs n R Y s :=
  ⟨h.mkd, h.st, h.r, fun a ha => (h.cl a ha).imp id (Or.imp id (Or.imp id (hX a)))⟩
theorem MarkInv.push {v : Vm} {rs : List Int} {n R : Nat} {X : Int → Prop} {s : MkS} (h : MarkInv v rs n R X s) {a : Int} (ha : Rch v rs a) (hr : v.rdE a = 0) (he : addE s.L n a (v.osz a) = 0) :
    MarkInv v rs n R X (s.push R (addL s.L n a (v.osz a)) a) ∧ Later s (s.push R (addL s.L n a (v.osz a)) a) ∧ Hs (s.push R (addL s.L n a (v.osz a)) a).L a := by
  have hm := h.mkd.add ha hr he
  have hh := fun b => hs_add (b := b) hr he
  have hl := add_len he
  have hsub : ∀ b, Hs s.L b → Hs (addL s.L n a (v.osz a)) b := fun b hb => (hh b).2 (.inr hb)
  unfold MkS.push
  split
  · rename_i hR
    refine ⟨⟨hm, fun b hb => ?_, by show (s.st ++ [a]).length ≤ R; simp; omega, fun b hb => ?_⟩, ⟨hsub, by show _ ≤ (addL _ _ _ _).length; omega, fun h => .inl h, by show 2 * _ + (s.st ++ [a]).length ≤ 2 * (addL _ _ _ _).length + _; simp; omega⟩, (hh a).2 (.inl rfl)⟩
    · rcases List.mem_append.1 hb with hb | hb
      · exact hsub b (h.st b hb)
      · rw [List.mem_singleton.1 hb]; exact (hh a).2 (.inl rfl)
    · rcases (hh b).1 hb with rfl | hb
      · exact .inr (.inl (List.mem_append.2 (.inr (List.mem_singleton.2 rfl))))
      · rcases h.cl b hb with h1 | h1 | h1 | h1
        · exact .inl (h1.mono hsub)
        · exact .inr (.inl (List.mem_append.2 (.inl h1)))
        · exact .inr (.inr (.inl h1))
        · exact .inr (.inr (.inr h1))
  · refine ⟨⟨hm, fun b hb => hsub b (h.st b hb), h.r, fun b _ => .inr (.inr (.inl rfl))⟩, ⟨hsub, by show _ ≤ (addL _ _ _ _).length; omega, fun _ => .inr (by show _ < (addL _ _ _ _).length; omega), by show 2 * _ + s.st.length ≤ 2 * (addL _ _ _ _).length + _; omega⟩, (hh a).2 (.inl rfl)⟩
theorem MarkInv.pop {v : Vm} {rs : List Int} {n R : Nat} {X : Int → Prop} {L : List Ob} {st : List Int} {lost : Bool} {a : Int} (h : MarkInv v rs n R X ⟨L, st ++ [a], lost⟩) : MarkInv v rs n R (fun b => X b ∨ b = a) ⟨L, st, lost⟩ ∧ Hs L a := by
  refine ⟨⟨h.mkd, fun b hb => h.st b (List.mem_append.2 (.inl hb)), by have := h.r; simp at this; show st.length ≤ R; omega, fun b hb => ?_⟩, h.st a (List.mem_append.2 (.inr (List.mem_singleton.2 rfl)))⟩
  rcases h.cl b hb with h1 | h1 | h1 | h1
  · exact .inl h1
  · rcases List.mem_append.1 h1 with h2 | h2
    · exact .inr (.inl h2)
    · exact .inr (.inr (.inr (.inr (List.mem_singleton.1 h2))))
  · exact .inr (.inr (.inl h1))
  · exact .inr (.inr (.inr (.inl h1)))
/-- An object that was gone through is done. -/
theorem MarkInv.done {v : Vm} {rs : List Int} {n R : Nat} {X Y : Int → Prop} {s : MkS} {a : Int} (h : MarkInv v rs n R X s) (hc : Cl v s.L a) (hX : ∀ b, X b → Y b ∨ b = a) : MarkInv v rs n R Y s :=
  ⟨h.mkd, h.st, h.r, fun b hb => by
    rcases h.cl b hb with h1 | h1 | h1 | h1
    · exact .inl h1
    · exact .inr (.inl h1)
    · exact .inr (.inr (.inl h1))
    · rcases hX b h1 with h2 | rfl
      · exact .inr (.inr (.inr h2))
      · exact .inl hc⟩
/-- The first k pointers of an object. -/
def ClN (v : Vm) (L : List Ob) (a : Int) (k : Nat) : Prop := ∀ i : Nat, i < k → v.ptE a i = 0 ∧ (v.ptV a i ≠ 0 → Hs L (v.ptV a i : Nat))
theorem ClN.mono {v : Vm} {L M : List Ob} (hs : ∀ a, Hs L a → Hs M a) {a : Int} {k : Nat} (h : ClN v L a k) : ClN v M a k := fun i hi => ⟨(h i hi).1, fun h0 => hs _ ((h i hi).2 h0)⟩
theorem ClN.succ {v : Vm} {L : List Ob} {a : Int} {k : Nat} (h : ClN v L a k) (h0 : v.ptE a k = 0) (h1 : v.ptV a k ≠ 0 → Hs L (v.ptV a k : Nat)) : ClN v L a (k + 1) := fun i hi => by
  rcases Nat.lt_or_ge i k with h2 | h2
  · exact h i h2
  · have : i = k := by omega
    subst this; exact ⟨h0, h1⟩
theorem ClN.cl {v : Vm} {L : List Ob} {a : Int} {k : Nat} (h : ClN v L a k) (hk : (v.rdH a).p ≤ k) : Cl v L a := fun i hi => h i (by omega)
theorem MarkInv.marks {v : Vm} {rs : List Int} {n R : Nat} {X : Int → Prop} {s : MkS} (h : MarkInv v rs n R X s) (hX : ∀ a, ¬ X a) (hst : s.st = []) (hlost : s.lost = false) (hr : ∀ r ∈ rs, r ≠ 0 → Hs s.L r) : Marks v rs n s.L := by
  refine Marks.of h.mkd hr fun o ho => ?_
  rcases h.cl o.1 ⟨o, ho, rfl⟩ with h1 | h1 | h1 | h1
  · exact h1
  · rw [hst] at h1; cases h1
  · rw [hlost] at h1; cases h1
  · exact absurd h1 (hX _)
theorem not_sound_rd {v : Vm} {rs : List Int} {n : Nat} {a : Int} (ha : Rch v rs a) (h : v.rdE a ≠ 0) : ¬ Sound v rs n := fun hS => h (hS.rd a ha)
theorem not_sound_pt {v : Vm} {rs : List Int} {n : Nat} {a : Int} (ha : Rch v rs a) {i : Nat} (hi : (i : Int) < (v.rdH a).p) (h : v.ptE a i ≠ 0) : ¬ Sound v rs n := fun hS => h (hS.pt a ha i hi)
end Go.Proofs.YtbmidhlilafgeaaGreatDoor
end
section
section
namespace Go.Proofs.YtbmidhlilafgeaaGreatDoor
open Go.RowKit Word

/-- One more object that is met. -/
def addC (O : List Int) (a : Int) : List Int := if a = 0 ∨ a ∈ O then O else O ++ [a]
def addsC (O l : List Int) : List Int := l.foldl addC O
/-- An object's pointers. -/
def ptsC (v : Vm) (a : Int) : List Int := (List.range (v.rdH a).p.toNat).map fun i : Nat => (v.ldV (a + 1 + i) : Int)
/-- The objects that are met, behind k turned ones. -/
def ordC (v : Vm) (rs : List Int) : Nat → List Int
  | 0 => addsC [] rs
  | k + 1 => if k < (ordC v rs k).length then addsC (ordC v rs k) (ptsC v ((ordC v rs k).getD k 0)) else ordC v rs k
/-- The same pages. -/
structure SamePg (v v' : Vm) : Prop where
  n : v'.n = v.n
  pt : v'.pt = v.pt
  pg : v'.pl.pg = v.pl.pg
  rm : v'.pl.rm = v.pl.rm
theorem SamePg.refl (v : Vm) : SamePg v v := ⟨rfl, rfl, rfl, rfl⟩
theorem SamePg.trans {a b c : Vm} (h : SamePg a b) (k : SamePg b c) : SamePg a c := ⟨k.n.trans h.n, k.pt.trans h.pt, k.pg.trans h.pg, k.rm.trans h.rm⟩
theorem SamePg.st (v : Vm) (a : Int) (x : Nat) : SamePg v (v.st a x) := by
  unfold Vm.st
  split
  · exact ⟨rfl, rfl, rfl, rfl⟩
  · exact SamePg.refl v
theorem SamePg.ldE {v v' : Vm} (h : SamePg v v') (a : Int) : v'.ldE a = v.ldE a := by unfold Vm.ldE; rw [h.n, h.pt, h.pg]
theorem hdr_p {v : Vm} {a : Int} (h : v.rdE a = 0) : 0 ≤ (v.rdH a).p ∧ (v.rdH a).p < v.osz a := by
  obtain ⟨-, -, p, f, k, e, hs⟩ := rdE_zero h
  unfold Vm.osz
  rw [e, show hdrN ⟨p, f, k⟩ = 1 + (p : Int) + f + k from if_pos (hdrE_of hs)]
  show (0 : Int) ≤ (p : Int) ∧ (p : Int) < _
  omega
end Go.Proofs.YtbmidhlilafgeaaGreatDoor
end

section
namespace Go.Proofs.YtbmidhlilafgeaaGreatDoor
open Go.RowKit Word

theorem ptV_of {v : Vm} {a i : Int} (h : v.ptE a i = 0) : v.ptV a i = v.ldV (a + 1 + i) ∧ v.ldV (a + 1 + i) ≤ 2147483647 ∧ v.ldE (a + 1 + i) = 0 ∧ v.plE a i 1 = 0 := by
  have e1 : v.ptV a i = v.gtV a i 1 := if_pos h
  unfold Vm.ptE at h
  split at h
  · rename_i hg; exact absurd h hg
  · rename_i hg
    have hg := Decidable.not_not.1 hg
    split at h
    · cases h
    · rename_i hm
      unfold Vm.gtE at hg
      split at hg
      · rename_i hp; exact absurd hg hp
      · rename_i hp
        have e2 : v.gtV a i 1 = v.ldV (a + 1 + i) := if_neg hp
        exact ⟨e1.trans e2, by omega, hg, Decidable.not_not.1 hp⟩
theorem kind_ptr {h : Hdr} {i : Int} (h0 : 0 ≤ i) (h1 : i < h.p) (h2 : h.p < hdrN h) : kindOf h i = 1 := by
  unfold kindOf
  rw [if_pos (by omega), if_pos h1]
theorem ptE_of {v : Vm} {a : Int} {i : Nat} (hr : v.rdE a = 0) (hi : (i : Int) < (v.rdH a).p) (hl : v.ldE (a + 1 + i) = 0) (hv : v.ldV (a + 1 + i) ≤ 2147483647) : v.ptE a i = 0 ∧ v.plE a i 1 = 0 := by
  have hk : v.plE a i 1 = 0 := by
    unfold Vm.plE
    rw [if_neg (by omega), if_pos (kind_ptr (by omega) hi (hdr_p hr).2)]
  refine ⟨?_, hk⟩
  have hg : v.gtE a i 1 = 0 := by unfold Vm.gtE; rw [if_neg (by omega)]; exact hl
  unfold Vm.ptE
  rw [if_neg (by omega)]
  have e2 : v.gtV a i 1 = v.ldV (a + 1 + i) := if_neg (by omega)
  rw [e2, if_neg (by omega)]
/-- All words of the objects can be loaded. -/
def FullOb (v : Vm) (L : List Ob) : Prop := ∀ o ∈ L, ∀ m : Nat, m < o.2 → v.ldE (o.1 + m) = 0
section
variable {v v' : Vm} {rs : List Int} {L : List Ob} {to : Nat} {O : List Int} {k i : Nat}
end
end Go.Proofs.YtbmidhlilafgeaaGreatDoor
end

section
namespace Go.Proofs.YtbmidhlilafgeaaGreatDoor
open Go.RowKit Word

/-! More pages mapped. -/
/-- v' has all that can be loaded of v. -/
structure Wider (v v' : Vm) : Prop where
  n : v'.n = v.n
  le : ∀ a : Int, v.ldE a = 0 → v'.ldE a = 0 ∧ v'.ldV a = v.ldV a
theorem Grown.wider {v v' : Vm} {F : List Nat} (h : Grown v v' F) (hv : VmOk v) : Wider v v' := by
  refine ⟨h.n, fun a ha => ?_⟩
  obtain ⟨h0, h1⟩ := ldE_in ha
  obtain ⟨j, rfl⟩ : ∃ j : Nat, a = j := ⟨a.toNat, by omega⟩
  have hj : j < v.n := by omega
  have hn : ¬ j / v.pl.pg ∈ F := fun hm => by
    rw [hv.ldE_of hj, if_pos (h.un _ hm).2] at ha
    cases ha
  rw [h.ldE hv hj, h.vl j hj, if_neg hn, if_neg hn]
  exact ⟨ha, rfl⟩
theorem Wider.rd {v v' : Vm} (h : Wider v v') {a : Int} (hr : v.rdE a = 0) : v'.rdE a = 0 ∧ v'.rdH a = v.rdH a := by
  obtain ⟨h0, h1, -⟩ := rdE_zero hr
  obtain ⟨e1, e2⟩ := h.le a h1
  unfold Vm.rdE at hr ⊢
  rw [if_neg (by omega), if_neg (by omega), if_pos h1] at hr
  refine ⟨by rw [if_neg (by omega), if_neg (by omega), if_pos e1, e2]; exact hr, ?_⟩
  unfold Vm.rdH
  rw [if_pos ⟨h0, e1⟩, if_pos ⟨h0, h1⟩, e2]
theorem Wider.pt {v v' : Vm} (h : Wider v v') {a : Int} {i : Nat} (hr : v.rdE a = 0) (hi : (i : Int) < (v.rdH a).p) (hp : v.ptE a i = 0) : v'.ptE a i = 0 ∧ v'.ptV a i = v.ptV a i := by
  obtain ⟨e1, e2⟩ := h.rd hr
  have hp' := ptV_of hp
  obtain ⟨e3, e4⟩ := h.le _ hp'.2.2.1
  have := ptE_of (v := v') (a := a) (i := i) e1 (by rw [e2]; exact hi) e3 (by rw [e4]; exact hp'.2.1)
  exact ⟨this.1, by rw [(ptV_of this.1).1, hp'.1, e4]⟩
theorem Wider.rch {v v' : Vm} (h : Wider v v') {rs : List Int} {n : Nat} (hS : Sound v rs n) (a : Int) : Rch v' rs a ↔ Rch v rs a := by
  constructor
  · intro ha
    refine ha (fun b => Rch v rs b) (fun r hr h0 => Rch.root hr h0) ?_
    rintro b c hb ⟨-, i, hi, h0, h1, rfl⟩
    have hrd := hS.rd b hb
    rw [(h.rd hrd).2] at hi
    have hp := h.pt hrd hi (hS.pt b hb i hi)
    rw [hp.2] at h1 ⊢
    exact hb.step ⟨hrd, i, hi, hS.pt b hb i hi, h1, rfl⟩
  · intro ha
    refine (ha (fun b => Rch v' rs b ∧ Rch v rs b) (fun r hr h0 => ⟨Rch.root hr h0, Rch.root hr h0⟩) ?_).1
    rintro b c ⟨hb, hb'⟩ hp
    refine ⟨?_, hb'.step hp⟩
    obtain ⟨hrd, i, hi, h0, h1, rfl⟩ := hp
    have hp := h.pt hrd hi h0
    rw [← hp.2]
    exact hb.step ⟨(h.rd hrd).1, i, by rw [(h.rd hrd).2]; exact hi, hp.1, by rw [hp.2]; exact h1, rfl⟩
theorem Wider.marks {v v' : Vm} (h : Wider v v') {rs : List Int} {n : Nat} {L : List Ob} (hM : Marks v rs n L) : Marks v' rs n L := by
  have hS := hM.sound
  refine ⟨⟨hM.mkd.good, fun o ho => ?_⟩, fun a ha => hM.all a ((h.rch hS a).1 ha), fun o ho i hi => ?_⟩
  · obtain ⟨h1, h2, h3⟩ := hM.mkd.ats o ho
    obtain ⟨e1, e2⟩ := h.rd h2
    exact ⟨(h.rch hS _).2 h1, e1, by rw [h3]; unfold Vm.osz; rw [e2]⟩
  · obtain ⟨h1, h2, -⟩ := hM.mkd.ats o ho
    rw [(h.rd h2).2] at hi
    obtain ⟨c1, c2⟩ := hM.cl o ho i hi
    have hp := h.pt h2 hi c1
    exact ⟨hp.1, fun h0 => by rw [hp.2] at h0 ⊢; exact c2 h0⟩
/-! Pages unmapped. -/
def umN (v : Vm) (q0 : Nat) : Nat → Vm
  | 0 => v
  | k + 1 => (umN v q0 k).um ((q0 + k : Nat) : Int)
theorem um_same (v : Vm) (p : Int) : (v.um p).n = v.n ∧ (v.um p).pl.pg = v.pl.pg ∧ (v.um p).pl.rm = v.pl.rm ∧ (v.um p).pt.length = v.pt.length := by
  unfold Vm.um
  split
  · exact ⟨rfl, rfl, rfl, List.length_set⟩
  · exact ⟨rfl, rfl, rfl, rfl⟩
theorem umN_same (v : Vm) (q0 k : Nat) : (umN v q0 k).n = v.n ∧ (umN v q0 k).pl.pg = v.pl.pg ∧ (umN v q0 k).pl.rm = v.pl.rm ∧ (umN v q0 k).pt.length = v.pt.length := by
  induction k with
  | zero => exact ⟨rfl, rfl, rfl, rfl⟩
  | succ k ih =>
    obtain ⟨h1, h2, h3, h4⟩ := um_same (umN v q0 k) ((q0 + k : Nat) : Int)
    exact ⟨h1.trans ih.1, h2.trans ih.2.1, h3.trans ih.2.2.1, h4.trans ih.2.2.2⟩
theorem umN_ok {v : Vm} (h : VmOk v) (q0 k : Nat) : VmOk (umN v q0 k) := by
  induction k with
  | zero => exact h
  | succ k ih => exact ih.um _
theorem umN_ldE {v : Vm} (h : VmOk v) (q0 k : Nat) {a : Nat} (ha : a < v.n) : (umN v q0 k).ldE a = if q0 ≤ a / v.pl.pg ∧ a / v.pl.pg < q0 + k then 12 else v.ldE a := by
  induction k with
  | zero => rw [if_neg (by omega)]; rfl
  | succ k ih =>
    obtain ⟨s1, s2, -, s4⟩ := umN_same v q0 k
    have hok := umN_ok h q0 k
    show ((umN v q0 k).um ((q0 + k : Nat) : Int)).ldE a = _
    by_cases hf : frE (umN v q0 k).pt ((q0 + k : Nat) : Int) = 0
    · rw [hok.um_ldE hf (by rw [s1]; exact ha), s2, ih]
      by_cases e : a / v.pl.pg = q0 + k
      · rw [if_pos e, if_pos (by omega)]
      · rw [if_neg e]
        by_cases hx : q0 ≤ a / v.pl.pg ∧ a / v.pl.pg < q0 + k
        · rw [if_pos hx, if_pos (by omega)]
        · rw [if_neg hx, if_neg (by omega)]
    · rw [um_none hf]
      by_cases e : a / v.pl.pg = q0 + k
      · have h1 := hok.ldE_of (a := a) (by rw [s1]; exact ha)
        rw [s2, e] at h1
        have hl : q0 + k < (umN v q0 k).pt.length := by rw [s4, ← e]; exact (h.split ha).1
        rw [frE_of hl] at hf
        rw [if_pos (by omega), h1]
        split at hf
        · rename_i h0; exact if_pos h0
        · exact absurd rfl hf
      · rw [ih]
        by_cases hx : q0 ≤ a / v.pl.pg ∧ a / v.pl.pg < q0 + k
        · rw [if_pos hx, if_pos (by omega)]
        · rw [if_neg hx, if_neg (by omega)]
theorem umN_ldV {v : Vm} (h : VmOk v) (q0 k : Nat) {a : Nat} (ha : a < v.n) (hn : ¬ (q0 ≤ a / v.pl.pg ∧ a / v.pl.pg < q0 + k)) : (umN v q0 k).ldV a = v.ldV a := by
  induction k with
  | zero => rfl
  | succ k ih =>
    obtain ⟨s1, s2, -, -⟩ := umN_same v q0 k
    have hok := umN_ok h q0 k
    show ((umN v q0 k).um ((q0 + k : Nat) : Int)).ldV a = _
    by_cases hf : frE (umN v q0 k).pt ((q0 + k : Nat) : Int) = 0
    · rw [hok.um_ldV hf (by rw [s1]; exact ha) (by rw [s2]; omega)]
      exact ih (by omega)
    · rw [um_none hf]
      exact ih (by omega)
/-- How many pages are mapped. -/
theorem nz_run {pt : List Nat} {p0 k : Nat} (hk : p0 + k ≤ pt.length) (h : ∀ p, p < pt.length → (pt.getD p 0 ≠ 0 ↔ p0 ≤ p ∧ p < p0 + k)) : nz pt = k := by
  unfold nz
  have h1 : ∀ n, n ≤ pt.length → cnt (fun i => pt.getD i 0 != 0) n = min (n - p0) k := fun n => by
    induction n with
    | zero => intro _; rw [cnt_zero]; omega
    | succ n ih =>
      intro hn
      rw [cnt_succ, ih (by omega)]
      have := h n (by omega)
      by_cases hp : p0 ≤ n ∧ n < p0 + k
      · have h2 := this.2 hp
        have : (pt.getD n 0 != 0) = true := by simpa using h2
        rw [this]
        show min (n - p0) k + 1 = _
        omega
      · have h2 : pt.getD n 0 = 0 := Decidable.not_not.1 (fun h' => hp (this.1 h'))
        rw [h2]
        show min (n - p0) k + 0 = _
        omega
  rw [h1 _ (Nat.le_refl _)]
  omega
/-- The frames in use, from what can be loaded. -/
theorem used_run {v : Vm} (h : VmOk v) {p0 k : Nat} (hk : (p0 + k) * v.pl.pg ≤ v.n) (hl : ∀ a : Nat, a < v.n → (v.ldE a = 0 ↔ p0 * v.pl.pg ≤ a ∧ a < (p0 + k) * v.pl.pg)) : v.pl.used = k := by
  have hp := h.page
  rw [h.us]
  refine nz_run (p0 := p0) ?_ (fun p hpl => ?_)
  · rw [h.np] at hk
    exact Nat.le_of_mul_le_mul_right hk (by omega)
  · have ha : p * v.pl.pg < v.n := by rw [h.np]; exact Nat.mul_lt_mul_of_pos_right hpl (by omega)
    have h1 := hl _ ha
    rw [h.ldE_of ha, Nat.mul_div_cancel _ (by omega)] at h1
    have e1 : p0 * v.pl.pg ≤ p * v.pl.pg ↔ p0 ≤ p := Nat.mul_le_mul_right_iff (by omega)
    have e2 : p * v.pl.pg < (p0 + k) * v.pl.pg ↔ p < p0 + k := Nat.mul_lt_mul_right (by omega)
    rw [e1, e2] at h1
    rw [← h1]
    by_cases h0 : v.pt.getD p 0 = 0
    · rw [if_pos h0]; exact ⟨fun h => absurd h0 h, fun h => absurd h (by decide)⟩
    · rw [if_neg h0]; exact ⟨fun _ => rfl, fun _ => h0⟩
end Go.Proofs.YtbmidhlilafgeaaGreatDoor
end
end
