/- Contracts of package bitvec over a vector that lies in memory as a row of words. -/
import Derived.Test.YtlbbkpjfoabobaaDoorMasks
import Derived.Test.YtlbbkpjfoabobaaDoorBits
namespace Go.Proofs.YtlbbkpjfoabobaaDoor
open Go.RowKit Word

/-- A vector of the bits l: the struct in block p, the words in block b. -/
structure Vec (w : World) (p b : Nat) (l : List Bool) : Prop where
  ne : p ≠ b
  hp : p < w.heap.size
  hb : b < w.heap.size
  n1 : 1 ≤ l.length
  n2 : l.length ≤ 1048576
  c0 : ∃ cap, nw l ≤ cap ∧ cap ≤ maxLen ∧ w.cell? ⟨p, 0, none⟩ = some (.slice (some ⟨b, 0, none⟩) (nw l) cap)
  c1 : w.cell? ⟨p, 1, none⟩ = some (.int .i64 l.length)
  cw : ∀ i, i < nw l → w.cell? ⟨b, i, none⟩ = some (.int .u64 (wordOf l i : Nat))
  fw : ∀ i, w.frozen? ⟨b, i, none⟩ = false
theorem Vec.touch {S : Nat → Prop} {w w' : World} {p b : Nat} {l : List Bool} (h : Vec w p b l) (t : Touch S w w') (h1 : ¬ S p) (h2 : ¬ S b) : Vec w' p b l := by
  obtain ⟨cap, a1, a2, a3⟩ := h.c0
  exact ⟨h.ne, Nat.lt_of_lt_of_le h.hp t.size, Nat.lt_of_lt_of_le h.hb t.size, h.n1, h.n2, ⟨cap, a1, a2, by rw [t.cell h.hp h1]; exact a3⟩, by rw [t.cell h.hp h1]; exact h.c1,
    fun i hi => by rw [t.cell h.hb h2]; exact h.cw i hi, fun i => by rw [t.frozen h.hb h2]; exact h.fw i⟩
theorem Vec.gr {w w' : World} {p b : Nat} {l : List Bool} (h : Vec w p b l) (t : Gr w w') : Vec w' p b l := h.touch (t.touch (fun _ => False)) (fun h => h) (fun h => h)
/-- What checking an index tells. -/
def codeOf (l : List Bool) (i : Int) : Int := if i < 0 ∨ (l.length : Int) ≤ i then 11 else 0
theorem nw_bd {l : List Bool} (h1 : 1 ≤ l.length) (h2 : l.length ≤ 1048576) : 1 ≤ nw l ∧ nw l ≤ 16384 := by unfold nw; omega
theorem div_nw {l : List Bool} {i : Nat} (h : i < l.length) : i / 64 < nw l := by unfold nw; omega

set_option maxHeartbeats 400000 in
theorem check_any {w : World} {p b : Nat} {l : List Bool} (hV : Vec w p b l) (i : Int) :
    Calls Tryd.prog 78 #[.pointer (some ⟨p, 0, none⟩), .int .i64 i] w fun e w' => e = .returned (.int .i64 (codeOf l i)) ∧ w = w' := by
  have c1 := hV.c1
  have n2 := hV.n2
  by_cases h0 : i < 0
  · go_enter Tryd.func78, Tryd.ntmps78
    go_wp2
    go_ret
    exact ⟨ret_int (by unfold codeOf; rw [if_pos (by omega)]), rfl⟩
  · by_cases h1 : (l.length : Int) ≤ i
    · go_enter Tryd.func78, Tryd.ntmps78
      go_wp2
      go_ret
      exact ⟨ret_int (by unfold codeOf; rw [if_pos (by omega)]), rfl⟩
    · go_enter Tryd.func78, Tryd.ntmps78
      go_wp2
      go_ret
      exact ⟨ret_int (by unfold codeOf; rw [if_neg (by omega)]), rfl⟩
theorem check_nil (i : Int) (w : World) :
    Calls Tryd.prog 78 #[.pointer none, .int .i64 i] w fun e w' => e = .returned (.int .i64 9) ∧ w = w' := by
  go_enter Tryd.func78, Tryd.ntmps78
  go_wp2
  go_ret
  exact ⟨rfl, rfl⟩
theorem len_vec {w : World} {p b : Nat} {l : List Bool} (hV : Vec w p b l) :
    Calls Tryd.prog 32 #[.pointer (some ⟨p, 0, none⟩)] w fun e w' => e = .returned (.int .i64 l.length) ∧ w = w' := by
  have c1 := hV.c1
  go_enter Tryd.func32, Tryd.ntmps32
  go_wp2
  go_ret
  exact ⟨rfl, rfl⟩
theorem len_nil (w : World) :
    Calls Tryd.prog 32 #[.pointer none] w fun e w' => e = .returned (.int .i64 0) ∧ w = w' := by
  go_enter Tryd.func32, Tryd.ntmps32
  go_wp2
  go_ret
  exact ⟨rfl, rfl⟩

theorem testBit_code (x j : Nat) (hx : x < 18446744073709551616) : (bits .and .u64 ((x : Int) / 2 ^ j) 1 == 1) = x.testBit j := by
  have e : ((x : Int) / 2 ^ j) = ((x / 2 ^ j : Nat) : Int) := by simp
  have h := and64 (x / 2 ^ j) 1 (Nat.lt_of_le_of_lt (Nat.div_le_self _ _) hx) (by decide)
  rw [e, show (1 : Int) = ((1 : Nat) : Int) from rfl, h, Nat.and_one_is_mod, Nat.testBit_eq_decide_div_mod_eq]
  by_cases h1 : x / 2 ^ j % 2 = 1
  · simp [h1]
  · have : x / 2 ^ j % 2 = 0 := by omega
    simp [this]

set_option maxHeartbeats 400000 in
theorem test_any {w : World} {p b : Nat} {l : List Bool} (hV : Vec w p b l) (i : Int) :
    Calls Tryd.prog 21 #[.pointer (some ⟨p, 0, none⟩), .int .i64 i] w fun e w' => e = .returned (.bool (decide (0 ≤ i) && at_ l i.toNat)) ∧ w = w' := by
  by_cases hin : 0 ≤ i ∧ i < l.length
  · obtain ⟨k, rfl⟩ : ∃ k : Nat, i = k := ⟨i.toNat, by omega⟩
    have hk : k < l.length := by omega
    have hc := hV.cw _ (div_nw hk)
    obtain ⟨cap, a1, a2, c0⟩ := hV.c0
    have e0 : codeOf l (k : Int) = 0 := by unfold codeOf; rw [if_neg (by omega)]
    have n2 := hV.n2
    have hd := div_nw hk
    have hnb := nw_bd hV.n1 hV.n2
    have HV := hid hV
    clear hin
    go_enter Tryd.func21, Tryd.ntmps21
    go_wp2_with (go_at_call 78; refine (check_any HV.out _).mono ?_; rintro e w' ⟨rfl, rfl⟩)
    go_ret
    refine ⟨ret_bool ?_, rfl⟩
    rw [testBit_code _ _ (wordOf_lt l _), testBit_wordOf, decide_eq_true (show k % 64 < 64 by omega), decide_eq_true (show (0 : Int) ≤ k by omega), Int.toNat_natCast]
    simp only [Bool.true_and, at_]
    rw [show 64 * (k / 64) + k % 64 = k by omega]
  · have e0 : (decide (0 ≤ i) && at_ l i.toNat) = false := by
      by_cases h : 0 ≤ i
      · rw [at_out (by omega)]; simp
      · simp [h]
    rw [e0]
    have e1 : codeOf l i = 11 := by unfold codeOf; rw [if_pos (by omega)]
    have HV := hid hV
    clear hin e0
    go_enter Tryd.func21, Tryd.ntmps21
    go_wp2_with (go_at_call 78; refine (check_any HV.out _).mono ?_; rintro e w' ⟨rfl, rfl⟩)
    go_ret
    exact ⟨rfl, rfl⟩

theorem pow_code (j : Nat) : IntKind.u64.wrap (2 ^ (j % 64)) = ((2 ^ (j % 64) : Nat) : Int) := by
  have := wrap_u64_nat (2 ^ (j % 64)) (two_pow_lt64 j)
  rw [← this]; simp
theorem andNot64 (a b : Nat) (ha : a < 18446744073709551616) : bits .andNot .u64 (a : Int) (b : Int) = ((andN a b : Nat) : Int) := by
  have h1 : (BitVec.ofInt 64 (a : Int)).toNat = a := by
    rw [BitVec.ofInt_natCast, BitVec.toNat_ofNat]; exact Nat.mod_eq_of_lt (by omega)
  have h2 : (BitVec.ofInt 64 (b : Int)).toNat = b % 18446744073709551616 := by
    rw [BitVec.ofInt_natCast, BitVec.toNat_ofNat]
  show IntKind.u64.wrap ((BitVec.ofInt 64 (a : Int) &&& ~~~ BitVec.ofInt 64 (b : Int)).toNat : Int) = _
  rw [BitVec.toNat_and, BitVec.toNat_not, h1, h2]
  have : 2 ^ 64 - 1 - b % 18446744073709551616 = 18446744073709551615 - b % 18446744073709551616 := rfl
  rw [this]
  exact wrap_u64_nat _ (andN_lt a b ha)
theorem Vec.set {w : World} {p b : Nat} {l : List Bool} (h : Vec w p b l) (k : Nat) (x : Bool) (hk : k < l.length) {y : Nat} (hy : y = wordOf (l.set k x) (k / 64)) :
    Vec (w.setCell ⟨b, k / 64, none⟩ (.int .u64 (y : Nat))) p b (l.set k x) ∧ Touch (fun i => i = b) w (w.setCell ⟨b, k / 64, none⟩ (.int .u64 (y : Nat))) := by
  have t : Touch (fun i => i = b) w (w.setCell ⟨b, k / 64, none⟩ (.int .u64 (y : Nat))) := (Touch.refl (fun i => i = b) w).setCell (a := ⟨b, k / 64, none⟩) (fun _ => rfl) _
  refine ⟨⟨h.ne, Nat.lt_of_lt_of_le h.hp t.size, Nat.lt_of_lt_of_le h.hb t.size, by simp [h.n1], by simp [h.n2], ?_, ?_, ?_, ?_⟩, t⟩
  · obtain ⟨cap, a1, a2, a3⟩ := h.c0
    exact ⟨cap, by rw [nw_set]; exact a1, a2, by rw [t.cell h.hp h.ne, a3, nw_set]⟩
  · rw [t.cell h.hp h.ne, h.c1, List.length_set]
  · intro i hi
    rw [nw_set] at hi
    by_cases e : i = k / 64
    · subst e
      rw [hy]
      exact World.cell?_setCell_same (h := h.cw _ hi) ..
    · rw [World.cell?_setCell_other (h := by intro e2; injection e2 with _ e3; omega), h.cw i hi, wordOf_set_other l k i x hk e]
  · intro i; rw [World.frozen?_setCell]; exact h.fw i

set_option maxHeartbeats 400000 in
theorem set_in {w : World} {p b : Nat} {l : List Bool} (hV : Vec w p b l) (k : Nat) (hk : k < l.length) :
    Calls Tryd.prog 52 #[.pointer (some ⟨p, 0, none⟩), .int .i64 k] w fun e w' => e = .returned (.int .i64 0) ∧ Touch (fun i => i = b) w w' ∧ Vec w' p b (l.set k true) := by
  have hc := hV.cw _ (div_nw hk)
  have hf := hV.fw (k / 64)
  obtain ⟨cap, a1, a2, c0⟩ := hV.c0
  have e0 : codeOf l (k : Int) = 0 := by unfold codeOf; rw [if_neg (by omega)]
  have n2 := hV.n2
  have hd := div_nw hk
  have hnb := nw_bd hV.n1 hV.n2
  have HV := hid hV
  go_enter Tryd.func52, Tryd.ntmps52
  go_wp2_with (go_at_call 78; refine (check_any HV.out _).mono ?_; rintro e w' ⟨rfl, rfl⟩)
  go_region
  have hv : bits BinOp.or IntKind.u64 (wordOf l (k / 64)) (IntKind.u64.wrap (2 ^ (k % 64))) = ((wordOf l (k / 64) ||| 2 ^ (k % 64) : Nat) : Int) := by
    rw [pow_code]; exact bits_or_u64_nat _ _ (wordOf_lt _ _) (two_pow_lt64 k)
  rw [hv]
  have HV2 := hV.set k true hk (wordOf_set_on l k hk).symm
  clear hv
  go_wp2
  go_ret
  exact ⟨rfl, HV2.2.drew, HV2.1.gr ((Gr.refl _).drew)⟩
set_option maxHeartbeats 400000 in
theorem clear_in {w : World} {p b : Nat} {l : List Bool} (hV : Vec w p b l) (k : Nat) (hk : k < l.length) :
    Calls Tryd.prog 18 #[.pointer (some ⟨p, 0, none⟩), .int .i64 k] w fun e w' => e = .returned (.int .i64 0) ∧ Touch (fun i => i = b) w w' ∧ Vec w' p b (l.set k false) := by
  have hc := hV.cw _ (div_nw hk)
  have hf := hV.fw (k / 64)
  obtain ⟨cap, a1, a2, c0⟩ := hV.c0
  have e0 : codeOf l (k : Int) = 0 := by unfold codeOf; rw [if_neg (by omega)]
  have n2 := hV.n2
  have hd := div_nw hk
  have hnb := nw_bd hV.n1 hV.n2
  have HV := hid hV
  go_enter Tryd.func18, Tryd.ntmps18
  go_wp2_with (go_at_call 78; refine (check_any HV.out _).mono ?_; rintro e w' ⟨rfl, rfl⟩)
  go_region
  have hv : bits BinOp.andNot IntKind.u64 (wordOf l (k / 64)) (IntKind.u64.wrap (2 ^ (k % 64))) = ((andN (wordOf l (k / 64)) (2 ^ (k % 64)) : Nat) : Int) := by
    rw [pow_code]; exact andNot64 _ _ (wordOf_lt _ _)
  rw [hv]
  have HV2 := hV.set k false hk (wordOf_set_off l k hk).symm
  clear hv
  go_wp2
  go_ret
  exact ⟨rfl, HV2.2.drew, HV2.1.gr ((Gr.refl _).drew)⟩
set_option maxHeartbeats 400000 in
theorem set_out {w : World} {p b : Nat} {l : List Bool} (hV : Vec w p b l) (i : Int) (hi : i < 0 ∨ (l.length : Int) ≤ i) :
    Calls Tryd.prog 52 #[.pointer (some ⟨p, 0, none⟩), .int .i64 i] w fun e w' => e = .returned (.int .i64 11) ∧ w = w' := by
  have e0 : codeOf l i = 11 := by unfold codeOf; rw [if_pos hi]
  have HV := hid hV
  clear hi
  go_enter Tryd.func52, Tryd.ntmps52
  go_wp2_with (go_at_call 78; refine (check_any HV.out _).mono ?_; rintro e w' ⟨rfl, rfl⟩)
  go_ret
  exact ⟨rfl, rfl⟩
set_option maxHeartbeats 400000 in
theorem clear_out {w : World} {p b : Nat} {l : List Bool} (hV : Vec w p b l) (i : Int) (hi : i < 0 ∨ (l.length : Int) ≤ i) :
    Calls Tryd.prog 18 #[.pointer (some ⟨p, 0, none⟩), .int .i64 i] w fun e w' => e = .returned (.int .i64 11) ∧ w = w' := by
  have e0 : codeOf l i = 11 := by unfold codeOf; rw [if_pos hi]
  have HV := hid hV
  clear hi
  go_enter Tryd.func18, Tryd.ntmps18
  go_wp2_with (go_at_call 78; refine (check_any HV.out _).mono ?_; rintro e w' ⟨rfl, rfl⟩)
  go_ret
  exact ⟨rfl, rfl⟩
end Go.Proofs.YtlbbkpjfoabobaaDoor
