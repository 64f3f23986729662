/- A row of bools in memory, and plain facts on the reference's loops over it. Contracts of package bitvec over a vector that lies in memory as a row of words. Contracts of bitvec's Next, Last and Pick. Contracts of bitvec's each, and of the three functions that go through a run by it: Fill, Wipe, Count. Contracts of the closures of bitvec's Fill, Wipe, Count. Contracts of bitvec's Fill, Wipe and Count. Contracts of bitvec's New and Copy, and of all methods at nil. The example of layer 11's statements: it holds, and leaves what was there alone. BitvecAdds: the walk. A slice of Acts among the arguments. -/
import Derived.Test.YtbmidhlilafgeaaGreatDoorK2
import Derived.Test.YtbmidhlilafgeaaGreatDoorK1
import Derived.Test.YtbmidhlilafgeaaGreatDoorK3
import Derived.Deep.RegionWith
import Derived.WalkSpells
section
namespace Go.Proofs.YtbmidhlilafgeaaGreatDoor
open Go.RowKit Word

/-- A row of the bools l in block g. -/
structure Bools (w : World) (g : Nat) (l : List Bool) : Prop where
  lt : g < w.heap.size
  n2 : l.length ≤ 1048576
  cell : ∀ i, i < l.length → w.cell? ⟨g, i, none⟩ = some (.bool (at_ l i))
  free : ∀ i, w.frozen? ⟨g, i, none⟩ = false
theorem Bools.touch {S : Nat → Prop} {w w' : World} {g : Nat} {l : List Bool} (h : Bools w g l) (t : Touch S w w') (hS : ¬ S g) : Bools w' g l :=
  ⟨Nat.lt_of_lt_of_le h.lt t.size, h.n2, fun i hi => by rw [t.cell h.lt hS]; exact h.cell i hi, fun i => by rw [t.frozen h.lt hS]; exact h.free i⟩
theorem Bools.gr {w w' : World} {g : Nat} {l : List Bool} (h : Bools w g l) (t : Gr w w') : Bools w' g l := h.touch (t.touch (fun _ => False)) (fun h => h)
/-- One bool written. -/
theorem Bools.set {w : World} {g : Nat} {l m : List Bool} (h : Bools w g l) (k : Nat) (hk : k < l.length) (hl : m.length = l.length) (hm : ∀ i, i ≠ k → at_ m i = at_ l i) {y : Bool} (hy : y = at_ m k) :
    Bools (w.setCell ⟨g, k, none⟩ (.bool y)) g m ∧ Touch (fun i => i = g) w (w.setCell ⟨g, k, none⟩ (.bool y)) := by
  have t : Touch (fun i => i = g) w (w.setCell ⟨g, k, none⟩ (.bool y)) := (Touch.refl (fun i => i = g) w).setCell (a := ⟨g, k, none⟩) (fun _ => rfl) _
  refine ⟨⟨Nat.lt_of_lt_of_le h.lt t.size, by rw [hl]; exact h.n2, fun i hi => ?_, fun i => by rw [World.frozen?_setCell]; exact h.free i⟩, t⟩
  by_cases e : i = k
  · subst e; rw [hy]; exact World.cell?_setCell_same (h := h.cell _ hk) ..
  · rw [World.cell?_setCell_other (h := by intro e2; injection e2 with _ e3; omega), h.cell i (by omega), hm i e]
theorem Bools.of_own {w : World} {base E g n c : Nat} {l : List Bool} (hown : w.ownsRow base E 1 (.slice (some ⟨g, 0, none⟩) n c) n (l.map Value.bool)) (hn : n = l.length) (h2 : l.length ≤ 1048576) : Bools w g l ∧ base ≤ g := by
  obtain ⟨hlen, h | ⟨g', c', cur, e1, e2, e3, e4, e5, e6, e7⟩⟩ := hown
  · simp at h
  · simp only [Value.slice.injEq, Option.some.injEq, Addr.mk.injEq, and_true, true_and] at e1
    obtain ⟨rfl, rfl⟩ := e1
    have hb : g < w.heap.size := by
      rcases Nat.lt_or_ge g w.heap.size with h | h
      · exact h
      · rw [Array.getElem?_eq_none h] at e3; cases e3
    refine ⟨⟨hb, h2, fun i hi => ?_, fun i => ?_⟩, e2⟩
    · unfold World.cell?
      simp only [e3]
      have : cur[i]? = (l.map Value.bool)[i]? := by
        rw [← e7, Nat.mul_one, List.getElem?_take, if_pos (by omega), Array.getElem?_toList]
      rw [if_neg (by simp), this]
      simp [at_, hi, List.getD_eq_getElem?_getD]
    · unfold World.frozen?
      simp only [e3]
      simp

/-! What the loops have when k bools are done. -/
def layP (l : List Bool) (a b : Int) (x : Bool) (k : Nat) : List Bool := layL l a (min b k) x
theorem layP_zero {l : List Bool} {a b : Int} {x : Bool} : layP l a b x 0 = l :=
  ext_at (by unfold layP; rw [layL_length]) (fun i hi => by unfold layP at *; rw [layL_length] at hi; rw [layL_at _ _ _ _ _ hi, if_neg (by omega)])
theorem layP_end {l : List Bool} {a b : Int} {x : Bool} : layP l a b x l.length = layL l a b x :=
  ext_at (by unfold layP; rw [layL_length, layL_length]) (fun i hi => by
    unfold layP at *; rw [layL_length] at hi; rw [layL_at _ _ _ _ _ hi, layL_at _ _ _ _ _ hi]
    by_cases h : a ≤ i ∧ (i : Int) < b
    · rw [if_pos h, if_pos (by omega)]
    · rw [if_neg h, if_neg (by omega)])
theorem layP_len (l : List Bool) (a b : Int) (x : Bool) (k : Nat) : (layP l a b x k).length = l.length := layL_length ..
theorem layP_now {l : List Bool} {a b : Int} {x : Bool} {k i : Nat} (hk : k ≤ i) : at_ (layP l a b x k) i = at_ l i := by
  unfold layP
  by_cases hi : i < l.length
  · rw [layL_at _ _ _ _ _ hi, if_neg (by omega)]
  · rw [at_out (by rw [layL_length]; omega), at_out (by omega)]
theorem layP_in {l : List Bool} {a b : Int} {x : Bool} {k : Nat} (hk : k < l.length) (h : a ≤ k ∧ (k : Int) < b) : (∀ i, i ≠ k → at_ (layP l a b x (k + 1)) i = at_ (layP l a b x k) i) ∧ at_ (layP l a b x (k + 1)) k = x := by
  unfold layP
  refine ⟨fun i hi => ?_, ?_⟩
  · by_cases hil : i < l.length
    · rw [layL_at _ _ _ _ _ hil, layL_at _ _ _ _ _ hil]
      by_cases h2 : a ≤ i ∧ (i : Int) < min b k
      · rw [if_pos h2, if_pos (by omega)]
      · rw [if_neg h2, if_neg (by omega)]
    · rw [at_out (by rw [layL_length]; omega), at_out (by rw [layL_length]; omega)]
  · rw [layL_at _ _ _ _ _ hk, if_pos (by omega)]
theorem layP_out {l : List Bool} {a b : Int} {x : Bool} {k : Nat} (h : ¬ (a ≤ k ∧ (k : Int) < b) ∨ at_ l k = x) : layP l a b x (k + 1) = layP l a b x k := by
  refine ext_at (by rw [layP_len, layP_len]) (fun i hi => ?_)
  rw [layP_len] at hi
  unfold layP
  rw [layL_at _ _ _ _ _ hi, layL_at _ _ _ _ _ hi]
  by_cases h2 : a ≤ i ∧ (i : Int) < min b k
  · rw [if_pos h2, if_pos (by omega)]
  · rw [if_neg h2]
    split
    · have : i = k := by omega
      subst this
      rcases h with h | h
      · omega
      · rw [h]
    · rfl
def chgP (l : List Bool) (a b : Int) (x : Bool) (k : Nat) : Nat := cnt (fun i => decide (a ≤ (i : Nat) ∧ ((i : Nat) : Int) < b) && (at_ l i != x)) k
theorem chgP_end {l : List Bool} {a b : Int} {x : Bool} : chgP l a b x l.length = chgL l a b x := rfl
theorem chgP_in {l : List Bool} {a b : Int} {x : Bool} {k : Nat} (h : a ≤ k ∧ (k : Int) < b) (h2 : at_ l k ≠ x) : chgP l a b x (k + 1) = chgP l a b x k + 1 := by
  unfold chgP; rw [cnt_succ, decide_eq_true h]; simp [h2]
theorem chgP_out {l : List Bool} {a b : Int} {x : Bool} {k : Nat} (h : ¬ (a ≤ k ∧ (k : Int) < b) ∨ at_ l k = x) : chgP l a b x (k + 1) = chgP l a b x k := by
  unfold chgP; rw [cnt_succ]
  rcases h with h | h
  · rw [decide_eq_false h]; simp
  · simp [h]
theorem chgP_le (l : List Bool) (a b : Int) (x : Bool) (k : Nat) : chgP l a b x k ≤ k := cnt_le _ _
def countP_ (l : List Bool) (a b : Int) (k : Nat) : Nat := cnt (inRun l a b) k
theorem countP_end {l : List Bool} {a b : Int} : countP_ l a b l.length = countL l a b := rfl
theorem countP_in {l : List Bool} {a b : Int} {k : Nat} (h : a ≤ k ∧ (k : Int) < b) (h2 : at_ l k = true) : countP_ l a b (k + 1) = countP_ l a b k + 1 := by
  unfold countP_ inRun; rw [cnt_succ, decide_eq_true h, h2]; simp
theorem countP_out {l : List Bool} {a b : Int} {k : Nat} (h : ¬ (a ≤ k ∧ (k : Int) < b) ∨ at_ l k = false) : countP_ l a b (k + 1) = countP_ l a b k := by
  unfold countP_ inRun; rw [cnt_succ]
  rcases h with h | h
  · rw [decide_eq_false h]; simp
  · simp [h]
theorem countP_le (l : List Bool) (a b : Int) (k : Nat) : countP_ l a b k ≤ k := cnt_le _ _
theorem nextL_at {l : List Bool} {a : Int} {k : Nat} (hn : ∀ i, i < k → ¬ (at_ l i = true ∧ a ≤ i)) (h : at_ l k = true) (ha : a ≤ k) : nextL l a = k ∧ nextL l a < l.length := by
  have hl := at_lt h
  have e : nextL l a = k := first_eq (by omega) (fun i hi => by
    have := hn i hi
    cases h1 : at_ l i with
    | false => rfl
    | true => simp [h1] at this; simp; omega) (fun _ => by simp [h]; omega)
  exact ⟨e, by omega⟩
theorem nextL_end {l : List Bool} {a : Int} (hn : ∀ i, i < l.length → ¬ (at_ l i = true ∧ a ≤ i)) : nextL l a = l.length :=
  first_eq (by omega) (fun i hi => by
    have := hn i hi
    cases h1 : at_ l i with
    | false => rfl
    | true => simp [h1] at this; simp; omega) (fun h => by omega)
theorem lastL_at {l : List Bool} {b : Int} {k : Nat} (hn : ∀ i : Nat, k < i → ¬ (at_ l i = true ∧ (i : Int) < b)) (h : at_ l k = true) (hb : (k : Int) < b) : lastL l b = k := by
  have hl := at_lt h
  refine last_eq (by omega) (by omega) (fun i hi _ => ?_) (fun _ => by simp [h]; omega)
  have := hn i (by omega)
  cases h1 : at_ l i with
  | false => rfl
  | true => simp [h1] at this; simp; omega
theorem lastL_end {l : List Bool} {b : Int} (hn : ∀ i : Nat, ¬ (at_ l i = true ∧ (i : Int) < b)) : lastL l b = -1 := by
  refine last_eq (by omega) (by omega) (fun i hi _ => ?_) (fun h => by omega)
  have := hn i
  cases h1 : at_ l i with
  | false => rfl
  | true => simp [h1] at this; simp; omega
def pickV (l : List Bool) (q : Int) : Int := if q < 0 then 0 else valN l.length (pickL l q.toNat)
def pickB (l : List Bool) (q : Int) : Bool := decide (0 ≤ q) && decide (pickL l q.toNat < l.length)
theorem pickL_at {l : List Bool} {k q : Nat} (h : at_ l k = true) (hc : cnt (at_ l) k = q) : pickL l q = k ∧ pickL l q < l.length := by
  have e : pickL l q = k := pickF_eq (at_lt h) h hc
  exact ⟨e, by rw [e]; exact at_lt h⟩
end Go.Proofs.YtbmidhlilafgeaaGreatDoor
end

section
namespace Go.Proofs.YtbmidhlilafgeaaGreatDoor
open Go.RowKit Word

/-- A vector of the bits l: the struct in block p, the words in block b. -/
structure Vec (w : World) (p b : Nat) (l : List Bool) : Prop where
  ne : p ≠ b
  hp : p < w.heap.size
  hb : b < w.heap.size
  n1 : 1 ≤ l.length
  n2 : l.length ≤ 1048576
  c0 : ∃ cap, nw l ≤ cap ∧ cap ≤ maxLen ∧ w.cell? ⟨p, 0, none⟩ = some (.slice (some ⟨b, 0, none⟩) (nw l) cap)
  c1 : w.cell? ⟨p, 1, none⟩ = some (.int .i64 l.length)
  cw : ∀ i, i < nw l → w.cell? ⟨b, i, none⟩ = some (.int .u64 (wordOf l i : Nat))
  fw : ∀ i, w.frozen? ⟨b, i, none⟩ = false
theorem Vec.touch {S : Nat → Prop} {w w' : World} {p b : Nat} {l : List Bool} (h : Vec w p b l) (t : Touch S w w') (h1 : ¬ S p) (h2 : ¬ S b) : Vec w' p b l := by
  obtain ⟨cap, a1, a2, a3⟩ := h.c0
  exact ⟨h.ne, Nat.lt_of_lt_of_le h.hp t.size, Nat.lt_of_lt_of_le h.hb t.size, h.n1, h.n2, ⟨cap, a1, a2, by rw [t.cell h.hp h1]; exact a3⟩, by rw [t.cell h.hp h1]; exact h.c1,
    fun i hi => by rw [t.cell h.hb h2]; exact h.cw i hi, fun i => by rw [t.frozen h.hb h2]; exact h.fw i⟩
theorem Vec.gr {w w' : World} {p b : Nat} {l : List Bool} (h : Vec w p b l) (t : Gr w w') : Vec w' p b l := h.touch (t.touch (fun _ => False)) (fun h => h) (fun h => h)
/-- What checking an index tells. -/
def codeOf (l : List Bool) (i : Int) : Int := if i < 0 ∨ (l.length : Int) ≤ i then 11 else 0
theorem nw_bd {l : List Bool} (h1 : 1 ≤ l.length) (h2 : l.length ≤ 1048576) : 1 ≤ nw l ∧ nw l ≤ 16384 := by unfold nw; omega
theorem div_nw {l : List Bool} {i : Nat} (h : i < l.length) : i / 64 < nw l := by unfold nw; omega

set_option maxHeartbeats 400000 in
theorem check_any {w : World} {p b : Nat} {l : List Bool} (hV : Vec w p b l) (i : Int) :
    Calls Tryz.prog 220 #[.pointer (some ⟨p, 0, none⟩), .int .i64 i] w fun e w' => e = .returned (.int .i64 (codeOf l i)) ∧ w = w' := by
  have c1 := hV.c1
  have n2 := hV.n2
  by_cases h0 : i < 0
  · go_enter Tryz.func220, Tryz.ntmps220
    go_wp2
    go_ret
    exact ⟨ret_int (by unfold codeOf; rw [if_pos (by omega)]), rfl⟩
  · by_cases h1 : (l.length : Int) ≤ i
    · go_enter Tryz.func220, Tryz.ntmps220
      go_wp2
      go_ret
      exact ⟨ret_int (by unfold codeOf; rw [if_pos (by omega)]), rfl⟩
    · go_enter Tryz.func220, Tryz.ntmps220
      go_wp2
      go_ret
      exact ⟨ret_int (by unfold codeOf; rw [if_neg (by omega)]), rfl⟩
theorem check_nil (i : Int) (w : World) :
    Calls Tryz.prog 220 #[.pointer none, .int .i64 i] w fun e w' => e = .returned (.int .i64 9) ∧ w = w' := by
  go_enter Tryz.func220, Tryz.ntmps220
  go_wp2
  go_ret
  exact ⟨rfl, rfl⟩
theorem len_vec {w : World} {p b : Nat} {l : List Bool} (hV : Vec w p b l) :
    Calls Tryz.prog 194 #[.pointer (some ⟨p, 0, none⟩)] w fun e w' => e = .returned (.int .i64 l.length) ∧ w = w' := by
  have c1 := hV.c1
  go_enter Tryz.func194, Tryz.ntmps194
  go_wp2
  go_ret
  exact ⟨rfl, rfl⟩
theorem len_nil (w : World) :
    Calls Tryz.prog 194 #[.pointer none] w fun e w' => e = .returned (.int .i64 0) ∧ w = w' := by
  go_enter Tryz.func194, Tryz.ntmps194
  go_wp2
  go_ret
  exact ⟨rfl, rfl⟩

theorem testBit_code (x j : Nat) (hx : x < 18446744073709551616) : (bits .and .u64 ((x : Int) / 2 ^ j) 1 == 1) = x.testBit j := by
  have e : ((x : Int) / 2 ^ j) = ((x / 2 ^ j : Nat) : Int) := by simp
  have h := and64 (x / 2 ^ j) 1 (Nat.lt_of_le_of_lt (Nat.div_le_self _ _) hx) (by decide)
  rw [e, show (1 : Int) = ((1 : Nat) : Int) from rfl, h, Nat.and_one_is_mod, Nat.testBit_eq_decide_div_mod_eq]
  by_cases h1 : x / 2 ^ j % 2 = 1
  · simp [h1]
  · have : x / 2 ^ j % 2 = 0 := by omega
    simp [this]

set_option maxHeartbeats 400000 in
theorem test_any {w : World} {p b : Nat} {l : List Bool} (hV : Vec w p b l) (i : Int) :
    Calls Tryz.prog 198 #[.pointer (some ⟨p, 0, none⟩), .int .i64 i] w fun e w' => e = .returned (.bool (decide (0 ≤ i) && at_ l i.toNat)) ∧ w = w' := by
  by_cases hin : 0 ≤ i ∧ i < l.length
  · obtain ⟨k, rfl⟩ : ∃ k : Nat, i = k := ⟨i.toNat, by omega⟩
    have hk : k < l.length := by omega
    have hc := hV.cw _ (div_nw hk)
    obtain ⟨cap, a1, a2, c0⟩ := hV.c0
    have e0 : codeOf l (k : Int) = 0 := by unfold codeOf; rw [if_neg (by omega)]
    have n2 := hV.n2
    have hd := div_nw hk
    have hnb := nw_bd hV.n1 hV.n2
    have HV := hid hV
    clear hin
    go_enter Tryz.func198, Tryz.ntmps198
    go_wp2_with (go_at_call 220; refine (check_any HV.out _).mono ?_; rintro e w' ⟨rfl, rfl⟩)
    go_ret
    refine ⟨ret_bool ?_, rfl⟩
    rw [testBit_code _ _ (wordOf_lt l _), testBit_wordOf, decide_eq_true (show k % 64 < 64 by omega), decide_eq_true (show (0 : Int) ≤ k by omega), Int.toNat_natCast]
    simp only [Bool.true_and, at_]
    rw [show 64 * (k / 64) + k % 64 = k by omega]
  · have e0 : (decide (0 ≤ i) && at_ l i.toNat) = false := by
      by_cases h : 0 ≤ i
      · rw [at_out (by omega)]; simp
      · simp [h]
    rw [e0]
    have e1 : codeOf l i = 11 := by unfold codeOf; rw [if_pos (by omega)]
    have HV := hid hV
    clear hin e0
    go_enter Tryz.func198, Tryz.ntmps198
    go_wp2_with (go_at_call 220; refine (check_any HV.out _).mono ?_; rintro e w' ⟨rfl, rfl⟩)
    go_ret
    exact ⟨rfl, rfl⟩

theorem pow_code (j : Nat) : IntKind.u64.wrap (2 ^ (j % 64)) = ((2 ^ (j % 64) : Nat) : Int) := by
  have := wrap_u64_nat (2 ^ (j % 64)) (two_pow_lt64 j)
  rw [← this]; simp
theorem andNot64 (a b : Nat) (ha : a < 18446744073709551616) : bits .andNot .u64 (a : Int) (b : Int) = ((andN a b : Nat) : Int) := by
  have h1 : (BitVec.ofInt 64 (a : Int)).toNat = a := by
    rw [BitVec.ofInt_natCast, BitVec.toNat_ofNat]; exact Nat.mod_eq_of_lt (by omega)
  have h2 : (BitVec.ofInt 64 (b : Int)).toNat = b % 18446744073709551616 := by
    rw [BitVec.ofInt_natCast, BitVec.toNat_ofNat]
  show IntKind.u64.wrap ((BitVec.ofInt 64 (a : Int) &&& ~~~ BitVec.ofInt 64 (b : Int)).toNat : Int) = _
  rw [BitVec.toNat_and, BitVec.toNat_not, h1, h2]
  have : 2 ^ 64 - 1 - b % 18446744073709551616 = 18446744073709551615 - b % 18446744073709551616 := rfl
  rw [this]
  exact wrap_u64_nat _ (andN_lt a b ha)
theorem Vec.set {w : World} {p b : Nat} {l : List Bool} (h : Vec w p b l) (k : Nat) (x : Bool) (hk : k < l.length) {y : Nat} (hy : y = wordOf (l.set k x) (k / 64)) :
    Vec (w.setCell ⟨b, k / 64, none⟩ (.int .u64 (y : Nat))) p b (l.set k x) ∧ Touch (fun i => i = b) w (w.setCell ⟨b, k / 64, none⟩ (.int .u64 (y : Nat))) := by
  have t : Touch (fun i => i = b) w (w.setCell ⟨b, k / 64, none⟩ (.int .u64 (y : Nat))) := (Touch.refl (fun i => i = b) w).setCell (a := ⟨b, k / 64, none⟩) (fun _ => rfl) _
  refine ⟨⟨h.ne, Nat.lt_of_lt_of_le h.hp t.size, Nat.lt_of_lt_of_le h.hb t.size, by simp [h.n1], by simp [h.n2], ?_, ?_, ?_, ?_⟩, t⟩
  · obtain ⟨cap, a1, a2, a3⟩ := h.c0
    exact ⟨cap, by rw [nw_set]; exact a1, a2, by rw [t.cell h.hp h.ne, a3, nw_set]⟩
  · rw [t.cell h.hp h.ne, h.c1, List.length_set]
  · intro i hi
    rw [nw_set] at hi
    by_cases e : i = k / 64
    · subst e
      rw [hy]
      exact World.cell?_setCell_same (h := h.cw _ hi) ..
    · rw [World.cell?_setCell_other (h := by intro e2; injection e2 with _ e3; omega), h.cw i hi, wordOf_set_other l k i x hk e]
  · intro i; rw [World.frozen?_setCell]; exact h.fw i

set_option maxHeartbeats 400000 in
theorem set_in {w : World} {p b : Nat} {l : List Bool} (hV : Vec w p b l) (k : Nat) (hk : k < l.length) :
    Calls Tryz.prog 195 #[.pointer (some ⟨p, 0, none⟩), .int .i64 k] w fun e w' => e = .returned (.int .i64 0) ∧ Touch (fun i => i = b) w w' ∧ Vec w' p b (l.set k true) := by
  have hc := hV.cw _ (div_nw hk)
  have hf := hV.fw (k / 64)
  obtain ⟨cap, a1, a2, c0⟩ := hV.c0
  have e0 : codeOf l (k : Int) = 0 := by unfold codeOf; rw [if_neg (by omega)]
  have n2 := hV.n2
  have hd := div_nw hk
  have hnb := nw_bd hV.n1 hV.n2
  have HV := hid hV
  go_enter Tryz.func195, Tryz.ntmps195
  go_wp2_with (go_at_call 220; refine (check_any HV.out _).mono ?_; rintro e w' ⟨rfl, rfl⟩)
  go_region
  have hv : bits BinOp.or IntKind.u64 (wordOf l (k / 64)) (IntKind.u64.wrap (2 ^ (k % 64))) = ((wordOf l (k / 64) ||| 2 ^ (k % 64) : Nat) : Int) := by
    rw [pow_code]; exact bits_or_u64_nat _ _ (wordOf_lt _ _) (two_pow_lt64 k)
  rw [hv]
  have HV2 := hV.set k true hk (wordOf_set_on l k hk).symm
  clear hv
  go_wp2
  go_ret
  exact ⟨rfl, HV2.2.drew, HV2.1.gr ((Gr.refl _).drew)⟩
set_option maxHeartbeats 400000 in
theorem set_out {w : World} {p b : Nat} {l : List Bool} (hV : Vec w p b l) (i : Int) (hi : i < 0 ∨ (l.length : Int) ≤ i) :
    Calls Tryz.prog 195 #[.pointer (some ⟨p, 0, none⟩), .int .i64 i] w fun e w' => e = .returned (.int .i64 11) ∧ w = w' := by
  have e0 : codeOf l i = 11 := by unfold codeOf; rw [if_pos hi]
  have HV := hid hV
  clear hi
  go_enter Tryz.func195, Tryz.ntmps195
  go_wp2_with (go_at_call 220; refine (check_any HV.out _).mono ?_; rintro e w' ⟨rfl, rfl⟩)
  go_ret
  exact ⟨rfl, rfl⟩
end Go.Proofs.YtbmidhlilafgeaaGreatDoor
end

section
namespace Go.Proofs.YtbmidhlilafgeaaGreatDoor
open Go.RowKit Word

theorem ret2 {a b c d : Value} (h : a = c) (h2 : b = d) : Ending.returned (.tuple #[a, b]) = .returned (.tuple #[c, d]) := by rw [h, h2]
theorem vint {k : IntKind} {a b : Int} (h : a = b) : Value.int k a = .int k b := by rw [h]
theorem vbool {a b : Bool} (h : a = b) : Value.bool a = .bool b := by rw [h]

set_option maxRecDepth 100000 in
set_option maxHeartbeats 800000 in
theorem next_vec {w : World} {p b : Nat} {l : List Bool} (hV : Vec w p b l) (hT : TabAt w) (i : Int) :
    Calls Tryz.prog 191 #[.pointer (some ⟨p, 0, none⟩), .int .i64 i] w fun e w' =>
      e = .returned (.tuple #[.int .i64 (valN l.length (nextL l i)), .bool (decide (nextL l i < l.length))]) ∧ w = w' := by
  have c1 := hV.c1
  have n2 := hV.n2
  by_cases hout : (l.length : Int) ≤ i
  · have e := hid (next_out hout)
    go_enter Tryz.func191, Tryz.ntmps191
    go_wp2
    go_ret2
    exact ⟨ret2 (vint (by rw [e.out, valN_no (by omega)])) (vbool (by rw [e.out]; simp)), rfl⟩
  · obtain ⟨a, ha⟩ : ∃ a : Nat, a = i.toNat := ⟨_, rfl⟩
    rw [next_toNat l i, ← ha]
    have hal : a < l.length := by have := hV.n1; omega
    obtain ⟨cap, a1, a2, c0⟩ := hV.c0
    have hnb := nw_bd hV.n1 hV.n2
    have hcw := hV.cw
    have HC := hid hcw
    have HT := hid hT
    clear hT hV hcw
    go_enter Tryz.func191, Tryz.ntmps191
    go_upto_region 3 with (fail)
    go_cut [1] from 9 (fun v w' => w' = w ∧ v = .int .i64 a)
    case first =>
      by_cases hneg : i < 0
      · go_wp2
        all_goals (go_meet; case rel => exact ⟨rfl, vint (by omega)⟩)
      · go_wp2
        all_goals (go_meet; case rel => exact ⟨rfl, vint (by omega)⟩)
    case rest =>
      obtain ⟨rfl, rfl⟩ := hcut
      have hal' := div_nw hal
      have HN := hid (fun k (h : nw l ≤ k) => fun fr (h2 : noneTo l a (64 * k + fr)) => next_none h2 h)
      clear hout ha c1 n2 a1 a2
      generalize nw l = m at *
      have hm : m ≤ 16384 := hnb.2
      clear hnb
      go_wp2
      go_loop [6, 7] (fun k fr => ∃ k' fr' : Nat, k' ≤ m ∧ fr' < 64 ∧ a ≤ 64 * k' + fr' ∧ Hid (noneTo l a (64 * k' + fr')) ∧ k = .int .i64 k' ∧ fr = .int .i64 fr') (fun k _ => m - (intOf k).toNat)
      case atStart => exact ⟨a / 64, a % 64, by omega, by omega, by omega, ⟨next_start l a⟩, by go_num, by go_num⟩
      case round =>
        obtain ⟨k, fr, hk, hfr, hak, hno, rfl, rfl⟩ := hrel
        by_cases hlt : k < m
        · have hc := HC.out k hlt
          have HI := hid (next_hit hno.out hak)
          have MI := hid (next_miss hno.out (by omega))
          have hw := hid (wordOf_lt l k)
          have ht64 := tz_le (wordOf l k &&& runW fr 64)
          generalize hq : tz (wordOf l k &&& runW fr 64) = q at *
          have HQ := hid hq
          clear hq hno
          go_wp2_with (go_at_call 214; refine (next_any _ hw.out _ _ HT.out).mono ?_; rintro e w' ⟨rfl, rfl⟩; rw [HQ.out])
          · have h : q < 64 := by omega
            go_ret2
            obtain ⟨h1, h2⟩ := HI.out h
            exact ⟨ret2 (vint (by rw [valN_yes h2, h1]; omega)) (vbool (by simp [h2])), rfl⟩
          · go_round
            case rel => exact ⟨k + 1, 0, by omega, by omega, by omega, ⟨MI.out (by omega)⟩, by go_num, by go_num⟩
            case measure => simp [intOf]; omega
        · have NO := hid (HN.out k (by omega) fr hno.out)
          have hlt' : m ≤ k := by omega
          clear hno hlt
          go_wp2
          go_ret2
          exact ⟨ret2 (vint (by rw [NO.out, valN_no (by omega)])) (vbool (by rw [NO.out]; simp)), rfl⟩

theorem next_vnil (i : Int) (w : World) :
    Calls Tryz.prog 191 #[.pointer none, .int .i64 i] w fun e w' => e = .returned (.tuple #[.int .i64 0, .bool false]) ∧ w = w' := by
  go_enter Tryz.func191, Tryz.ntmps191
  go_wp2
  go_ret2
  exact ⟨rfl, rfl⟩
theorem last_vnil (i : Int) (w : World) :
    Calls Tryz.prog 167 #[.pointer none, .int .i64 i] w fun e w' => e = .returned (.tuple #[.int .i64 0, .bool false]) ∧ w = w' := by
  go_enter Tryz.func167, Tryz.ntmps167
  go_wp2
  go_ret2
  exact ⟨rfl, rfl⟩
set_option maxRecDepth 100000 in
set_option maxHeartbeats 800000 in
theorem last_vec {w : World} {p b : Nat} {l : List Bool} (hV : Vec w p b l) (i : Int) :
    Calls Tryz.prog 167 #[.pointer (some ⟨p, 0, none⟩), .int .i64 i] w fun e w' =>
      e = .returned (.tuple #[.int .i64 (valI (lastL l i)), .bool (decide (0 ≤ lastL l i))]) ∧ w = w' := by
  have c1 := hV.c1
  have n2 := hV.n2
  by_cases hout : i ≤ 0
  · have e := hid (last_low (l := l) hout)
    go_enter Tryz.func167, Tryz.ntmps167
    go_wp2
    go_ret2
    exact ⟨ret2 (vint (by rw [e.out]; rfl)) (vbool (by rw [e.out]; simp)), rfl⟩
  · obtain ⟨a, ha⟩ : ∃ a : Nat, (a : Int) = min i l.length := ⟨(min i l.length).toNat, by omega⟩
    rw [last_min l i, ← ha]
    have h1 : 1 ≤ a := by have := hV.n1; omega
    have hal : a ≤ l.length := by omega
    obtain ⟨cap, a1, a2, c0⟩ := hV.c0
    have hnb := nw_bd hV.n1 hV.n2
    have hcw := hV.cw
    have HC := hid hcw
    clear hV hcw
    go_enter Tryz.func167, Tryz.ntmps167
    go_upto_region 3 with (fail)
    go_cut [1] from 8 (fun v w' => w' = w ∧ v = .int .i64 a)
    case first =>
      by_cases hneg : i < l.length
      · go_wp2
        all_goals (go_meet; case rel => exact ⟨rfl, vint (by omega)⟩)
      · go_wp2
        all_goals (go_meet; case rel => exact ⟨rfl, vint (by omega)⟩)
    case rest =>
      obtain ⟨rfl, rfl⟩ := hcut
      have hal' : (a - 1) / 64 < nw l := div_nw (by omega)
      have hst : noneFrom l (a : Int) (64 * (((a - 1) / 64 : Nat) : Int) + 64) := fun i h1 h2 => by omega
      have HS := hid hst
      have a64 : a ≤ 1048576 := by omega
      clear hout ha c1 n2 a1 a2 hst
      generalize nw l = m at *
      have hm : (m : Int) ≤ 16384 := by have := hnb.2; omega
      clear hnb
      go_wp2
      go_loop [6] (fun k => ∃ k' : Nat, k' ≤ m ∧ Hid (noneFrom l a (64 * ((k' : Int) - 1) + 64)) ∧ k = .int .i64 ((k' : Int) - 1)) (fun k => (intOf k + 1).toNat)
      case atStart => exact ⟨(a - 1) / 64 + 1, by omega, ⟨by have := HS.out; rwa [show 64 * ((((a - 1) / 64 + 1 : Nat) : Int) - 1) + 64 = 64 * (((a - 1) / 64 : Nat) : Int) + 64 by omega]⟩, by go_num⟩
      case round =>
        obtain ⟨k', hk, hno, rfl⟩ := hrel
        cases k' with
        | zero =>
          have NO := hid (last_none hno.out (by omega))
          clear hno
          go_wp2
          go_ret2
          exact ⟨ret2 (vint (by rw [NO.out]; rfl)) (vbool (by rw [NO.out]; simp)), rfl⟩
        | succ k =>
          have hc := HC.out k (by omega)
          have hno2 : noneFrom l a (64 * (k : Int) + 64) := by have := hno.out; rwa [show ((k + 1 : Nat) : Int) - 1 = k by omega] at this
          rw [show ((k + 1 : Nat) : Int) - 1 = k by omega]
          have HI := hid (last_hit hno2)
          have MI := hid (last_miss hno2)
          have hw := hid (wordOf_lt l k)
          have ht64 := len_bd (wordOf l k &&& runW 0 ((a : Int) - 64 * k))
          generalize hq : len (wordOf l k &&& runW 0 ((a : Int) - 64 * k)) = q at *
          have HQ := hid hq
          clear hq hno hno2
          go_wp2_with (go_at_call 202; refine (last_any _ hw.out _ _).mono ?_; rintro e w' ⟨rfl, rfl⟩; rw [HQ.out])
          · have h : 0 ≤ q - 1 := by omega
            go_ret2
            have h1 := HI.out h
            exact ⟨ret2 (vint (by rw [h1]; unfold valI; rw [if_pos (by omega)])) (vbool (by rw [h1]; simp; omega)), rfl⟩
          · go_round
            case rel => exact ⟨k, by omega, ⟨by have := MI.out (by omega); rwa [show 64 * ((k : Int) - 1) + 64 = 64 * (k : Int) by omega]⟩, by go_num⟩
            case measure => simp [intOf]

end Go.Proofs.YtbmidhlilafgeaaGreatDoor
end

section
namespace Go.Proofs.YtbmidhlilafgeaaGreatDoor
open Go.RowKit Word

def EachEnd (I : Nat → World → Prop) (lo : Nat) (hi : Int) (W : World) : Prop := ∃ k, lo / 64 ≤ k ∧ ((lo : Int) < hi → hi ≤ 64 * k) ∧ I k W
set_option maxRecDepth 100000 in
set_option maxHeartbeats 1600000 in
theorem each_any (g : FuncId) (bx : Addr) (p b n m c : Nat) (I : Nat → World → Prop)
    (hg : ∀ args W, (callFunc g args).run Tryz.prog W = .ok (.enter g args) W)
    (hI : ∀ k W, I k W → W.cell? ⟨p, 0, none⟩ = some (.slice (some ⟨b, 0, none⟩) m c) ∧ W.cell? ⟨p, 1, none⟩ = some (.int .i64 n))
    (hD : ∀ k W d, I k W → I k (W.drewN d))
    (hm : n ≤ 64 * m) (hn : (n : Int) ≤ 1048576) (f t : Int) (hf64 : f ≤ 9223372036854775807) (lo : Nat) (hlo : (lo : Int) = max f 0) (hi : Int) (hhi : hi = min t n)
    (hstep : ∀ k W, lo / 64 ≤ k → (64 * k : Int) < hi → (lo : Int) < hi → I k W →
      Calls Tryz.prog g #[.pointer (some ⟨b, k, none⟩), .int .u64 (runW ((lo : Int) - 64 * k) (hi - 64 * k) : Nat), .pointer (some bx)] W (fun e W' => e = .returned (.tuple #[]) ∧ I (k + 1) W'))
    (w : World) (h0 : I (lo / 64) w) :
    Calls Tryz.prog 215 #[.pointer (some ⟨p, 0, none⟩), .int .i64 f, .int .i64 t, .func (.func g) #[] #[.pointer (some bx)]] w fun e W' =>
      e = .returned (.tuple #[]) ∧ EachEnd I lo hi W' := by
  obtain ⟨c0, c1⟩ := hI _ _ h0
  have HI := hid hI
  have HD := hid hD
  have HS := hid hstep
  have H0 := hid h0
  clear hI hD hstep h0
  go_enter Tryz.func215, Tryz.ntmps215
  go_upto_region 1 with (fail)
  go_cut [1, 2] from 9 (fun u v w' => u = .int .i64 lo ∧ v = .int .i64 hi ∧ ∃ d, w' = w.drewN d)
  case first =>
    have hc1 : f < 0 ∨ 0 ≤ f := by omega
    have hc2 : t < n ∨ (n : Int) ≤ t := by omega
    rcases hc1 with hf | hf <;> rcases hc2 with ht | ht
    all_goals
      go_wp2
      go_region
    all_goals go_wp2
    all_goals (go_meet; case rel => exact ⟨vint (by omega), vint (by omega), 1, rfl⟩)
  case rest =>
    obtain ⟨rfl, rfl, d, rfl⟩ := hcut
    have H1 := hid (HD.out _ _ d H0.out)
    have hhi2 : hi ≤ n := by omega
    have hlo2 : (0 : Int) ≤ lo := by omega
    have hlo3 : (lo : Int) ≤ 9223372036854775807 := by omega
    clear hhi hlo c0 c1 H0
    by_cases hlt : (lo : Int) < hi
    · have hln : (lo : Int) < 1048576 := by omega
      have hin : hi ≤ 1048576 := by omega
      have hpos : 1 ≤ hi := by omega
      have hm2 : hi ≤ 64 * m := by omega
      clear hm hn hhi2
      go_upto_region 2 with (fail)
      go_wp2
      go_loopw [8] (fun i W => ∃ k : Nat, lo / 64 ≤ k ∧ Hid (I k W) ∧ i = .int .i64 k) (fun i _ => (hi + 64 - 64 * intOf i).toNat)
      case atStart => exact ⟨lo / 64, by omega, H1, by go_num⟩
      case round =>
        obtain ⟨k, hk, hIk, rfl⟩ := hrel
        by_cases hkk : (64 * k : Int) < hi
        · have hle : (k : Int) ≤ (hi - 1) / 64 := by omega
          have hkm : k < m := by omega
          obtain ⟨c0, c1⟩ := HI.out _ _ hIk.out
          have HC := hid (HS.out k wr.drew hk hkk hlt (HD.out _ _ 1 hIk.out))
          go_upto_region 5 with (fail)
          have S1 := hid (IntWalk.i64_in (64 * (k : Int)) (by omega))
          have S2 := hid (IntWalk.i64_in ((lo : Int) - 64 * (k : Int)) (by omega))
          have S3 := hid (IntWalk.i64_in (hi - 64 * (k : Int)) (by omega))
          go_region_with (first
            | (go_at_call 224; rw [S1.out, S2.out, S3.out]; refine (run_any _ _ _).mono ?_; rintro e w' ⟨rfl, rfl⟩)
            | (refine HC.out.mono ?_; rintro e W2 ⟨rfl, h2⟩))
          all_goals
            go_wp2
            go_roundw
            case rel => exact ⟨k + 1, by omega, ⟨h2⟩, by go_num⟩
            case measure => simp [intOf]; omega
        · have hle : ¬ (k : Int) ≤ (hi - 1) / 64 := by omega
          go_wp2
          go_end0
          exact ⟨rfl, k, hk, fun _ => by omega, hIk.out⟩
    · have hlw : (lo : Int) ≤ 9223372036854775807 := hlo3
      have hlw2 : ¬ (lo : Int) < hi := hlt
      have HLT := hid hlt
      clear hm hn
      go_wp2
      go_loopw [8] (fun i W => W = w.drewN d ∧ i = .int .i64 (lo / 64 : Nat)) (fun _ _ => 0)
      case atStart => exact ⟨rfl, by go_num⟩
      case round =>
        obtain ⟨rfl, rfl⟩ := hrel
        go_wp2
        go_end0
        exact ⟨rfl, lo / 64, Nat.le_refl _, fun h => absurd h (by have := HLT.out; omega), H1.out⟩
end Go.Proofs.YtbmidhlilafgeaaGreatDoor
end

section
namespace Go.Proofs.YtbmidhlilafgeaaGreatDoor
open Go.RowKit Word

set_option maxRecDepth 100000 in
set_option maxHeartbeats 1600000 in
theorem fill1_any (w : World) (b k x m : Nat) (bx : Nat) (n : Int) (hx : x < 18446744073709551616) (hm : m < 18446744073709551616)
    (hc : w.cell? ⟨b, k, none⟩ = some (.int .u64 x)) (hf : w.frozen? ⟨b, k, none⟩ = false) (hb : w.cell? ⟨bx, 0, none⟩ = some (.int .i64 n)) (hfb : w.frozen? ⟨bx, 0, none⟩ = false) (hne : b ≠ bx) (hn0 : 0 ≤ n) (hn : n ≤ 1048576) :
    Calls Tryz.prog 216 #[.pointer (some ⟨b, k, none⟩), .int .u64 m, .pointer (some ⟨bx, 0, none⟩)] w fun e w' =>
      e = .returned (.tuple #[]) ∧ ∃ d, w' = ((w.setCell ⟨bx, 0, none⟩ (.int .i64 (n + pc (andN m x) : Int))).setCell ⟨b, k, none⟩ (.int .u64 (x ||| m : Nat))).drewN d := by
  have KA := hid (andNot64 m x hm)
  have KO := hid (bits_or_u64_nat x m hx hm)
  have HL := hid (andN_lt m x hm)
  have HX := hid (and_all (andN m x) (andN_lt m x hm))
  have hp := pc_le (andN m x)
  have HW := hid (IntWalk.i64_in (n + pc (andN m x)) (by omega))
  clear hx hm
  go_enter Tryz.func216, Tryz.ntmps216
  go_upto_region 0 with (fail)
  go_region_with (go_at_call 217; rw [KA.out]; refine (count_any _ HL.out _ _ _).mono ?_; rintro e w' ⟨rfl, rfl⟩; rw [HX.out])
  all_goals
    rw [HW.out]
    go_wp2
    rw [KO.out]
    go_end0
    exact ⟨rfl, 1, rfl⟩

set_option maxRecDepth 100000 in
set_option maxHeartbeats 1600000 in
theorem wipe1_any (w : World) (b k x m : Nat) (bx : Nat) (n : Int) (hx : x < 18446744073709551616) (hm : m < 18446744073709551616)
    (hc : w.cell? ⟨b, k, none⟩ = some (.int .u64 x)) (hf : w.frozen? ⟨b, k, none⟩ = false) (hb : w.cell? ⟨bx, 0, none⟩ = some (.int .i64 n)) (hfb : w.frozen? ⟨bx, 0, none⟩ = false) (hne : b ≠ bx) (hn0 : 0 ≤ n) (hn : n ≤ 1048576) :
    Calls Tryz.prog 225 #[.pointer (some ⟨b, k, none⟩), .int .u64 m, .pointer (some ⟨bx, 0, none⟩)] w fun e w' =>
      e = .returned (.tuple #[]) ∧ ∃ d, w' = ((w.setCell ⟨bx, 0, none⟩ (.int .i64 (n + pc (m &&& x) : Int))).setCell ⟨b, k, none⟩ (.int .u64 (andN x m : Nat))).drewN d := by
  have KA := hid (and64 m x hm hx)
  have KO := hid (andNot64 x m hx)
  have HL := hid (and_lt m x hm)
  have HX := hid (and_all (m &&& x) (and_lt m x hm))
  have hp := pc_le (m &&& x)
  have HW := hid (IntWalk.i64_in (n + pc (m &&& x)) (by omega))
  clear hx hm
  go_enter Tryz.func225, Tryz.ntmps225
  go_upto_region 0 with (fail)
  go_region_with (go_at_call 217; rw [KA.out]; refine (count_any _ HL.out _ _ _).mono ?_; rintro e w' ⟨rfl, rfl⟩; rw [HX.out])
  all_goals
    rw [HW.out]
    go_wp2
    rw [KO.out]
    go_end0
    exact ⟨rfl, 1, rfl⟩
set_option maxRecDepth 100000 in
set_option maxHeartbeats 1600000 in
theorem count1_any (w : World) (b k x m : Nat) (bx : Nat) (n : Int) (hx : x < 18446744073709551616) (hm : m < 18446744073709551616)
    (hc : w.cell? ⟨b, k, none⟩ = some (.int .u64 x)) (hb : w.cell? ⟨bx, 0, none⟩ = some (.int .i64 n)) (hfb : w.frozen? ⟨bx, 0, none⟩ = false) (hn0 : 0 ≤ n) (hn : n ≤ 1048576) :
    Calls Tryz.prog 232 #[.pointer (some ⟨b, k, none⟩), .int .u64 m, .pointer (some ⟨bx, 0, none⟩)] w fun e w' =>
      e = .returned (.tuple #[]) ∧ ∃ d, w' = (w.setCell ⟨bx, 0, none⟩ (.int .i64 (n + pc (m &&& x) : Int))).drewN d := by
  have KA := hid (and64 m x hm hx)
  have HL := hid (and_lt m x hm)
  have HX := hid (and_all (m &&& x) (and_lt m x hm))
  have hp := pc_le (m &&& x)
  have HW := hid (IntWalk.i64_in (n + pc (m &&& x)) (by omega))
  clear hx hm
  go_enter Tryz.func232, Tryz.ntmps232
  go_upto_region 0 with (fail)
  go_region_with (go_at_call 217; rw [KA.out]; refine (count_any _ HL.out _ _ _).mono ?_; rintro e w' ⟨rfl, rfl⟩; rw [HX.out])
  all_goals
    rw [HW.out]
    go_wp2
    go_end0
    exact ⟨rfl, 1, rfl⟩
end Go.Proofs.YtbmidhlilafgeaaGreatDoor
end

section
namespace Go.Proofs.YtbmidhlilafgeaaGreatDoor
open Go.RowKit Word

/-- A vector, with one word and the counter's box written. -/
theorem Vec.write {w : World} {p b bx : Nat} {l m : List Bool} (h : Vec w p b l) (k : Nat) (hk : k < nw l) (hl : m.length = l.length) (hw : ∀ i, i ≠ k → wordOf l i = wordOf m i) {y : Nat} (hy : y = wordOf m k) (hbp : bx ≠ p) (hbb : bx ≠ b) (v : Value) (d : Nat) :
    Vec (((w.setCell ⟨bx, 0, none⟩ v).setCell ⟨b, k, none⟩ (.int .u64 (y : Nat))).drewN d) p b m := by
  have t0 : Touch (fun i => i = bx) w (w.setCell ⟨bx, 0, none⟩ v) := (Touch.refl (fun i => i = bx) w).setCell (a := ⟨bx, 0, none⟩) (fun _ => rfl) _
  have h0 := h.touch t0 (fun e => hbp e.symm) (fun e => hbb e.symm)
  generalize w.setCell ⟨bx, 0, none⟩ v = w1 at *
  have hnw : nw m = nw l := by unfold nw; rw [hl]
  have t : Touch (fun i => i = b) w1 (w1.setCell ⟨b, k, none⟩ (.int .u64 (y : Nat))) := (Touch.refl (fun i => i = b) w1).setCell (a := ⟨b, k, none⟩) (fun _ => rfl) _
  refine Vec.gr ⟨h.ne, Nat.lt_of_lt_of_le h0.hp t.size, Nat.lt_of_lt_of_le h0.hb t.size, by rw [hl]; exact h.n1, by rw [hl]; exact h.n2, ?_, ?_, ?_, ?_⟩ ((Gr.refl _).drewN d)
  · obtain ⟨cap, a1, a2, a3⟩ := h0.c0
    exact ⟨cap, by rw [hnw]; exact a1, a2, by rw [t.cell h0.hp h.ne, a3, hnw]⟩
  · rw [t.cell h0.hp h.ne, h0.c1, hl]
  · intro i hi
    rw [hnw] at hi
    by_cases e : i = k
    · subst e
      rw [hy]
      exact World.cell?_setCell_same (h := h0.cw _ hi) ..
    · rw [World.cell?_setCell_other (h := by intro e2; injection e2 with _ e3; omega), h0.cw i hi, hw i e]
  · intro i; rw [World.frozen?_setCell]; exact h0.fw i

/-- What holds between two words of a run: so much is done, so many are counted in the box. -/
structure LayAt (w0 : World) (p b bx : Nat) (c : Nat → Nat) (m : Nat → List Bool) (k : Nat) (W : World) : Prop where
  vec : Vec W p b (m k)
  box : W.cell? ⟨bx, 0, none⟩ = some (.int .i64 (c k : Nat))
  free : W.frozen? ⟨bx, 0, none⟩ = false
  ne : b ≠ bx
  np : bx ≠ p
  lt : bx < W.heap.size
  touch : Touch (fun i => i = b ∨ i = bx) w0 W
theorem LayAt.drewN {w0 : World} {p b bx : Nat} {c : Nat → Nat} {m : Nat → List Bool} {k : Nat} {W : World} (h : LayAt w0 p b bx c m k W) (d : Nat) : LayAt w0 p b bx c m k (W.drewN d) :=
  ⟨h.vec.gr ((Gr.refl W).drewN d), h.box, h.free, h.ne, h.np, h.lt, h.touch.drewN d⟩

theorem call_fill1 (args : Array Value) (W : World) : (callFunc 216 args).run Tryz.prog W = .ok (.enter 216 args) W := by kernel_rfl
theorem call_wipe1 (args : Array Value) (W : World) : (callFunc 225 args).run Tryz.prog W = .ok (.enter 225 args) W := by kernel_rfl
theorem call_count1 (args : Array Value) (W : World) : (callFunc 232 args).run Tryz.prog W = .ok (.enter 232 args) W := by kernel_rfl

/-- The box of the counter, and all there is when the run begins. -/
theorem box_start {w : World} {p b : Nat} {l : List Bool} (hV : Vec w p b l) (m : Nat → List Bool) (c : Nat → Nat) (k : Nat) (hm : m k = l) (hc : c k = 0) (T : TypeId) :
    LayAt (w.alloc (.cells #[.int .i64 0] T)) p b w.heap.size c m k (w.alloc (.cells #[.int .i64 0] T)) := by
  have hs := hV.hp
  have hs2 := hV.hb
  exact ⟨by rw [hm]; exact hV.gr ((Gr.refl w).alloc _), by rw [hc]; exact World.cell?_alloc_new .., World.frozen?_alloc_new .., by omega, by omega, by simp, Touch.refl _ _⟩
/-- One word. -/
theorem LayAt.step {w0 : World} {p b bx : Nat} {c : Nat → Nat} {m : Nat → List Bool} {k : Nat} {W : World} (h : LayAt w0 p b bx c m k W) (hk : k < nw (m k)) (hl : (m (k + 1)).length = (m k).length)
    (hw : ∀ i, i ≠ k → wordOf (m k) i = wordOf (m (k + 1)) i) {y : Nat} (hy : y = wordOf (m (k + 1)) k) {z : Int} (hz : z = (c (k + 1) : Nat)) (d : Nat) :
    LayAt w0 p b bx c m (k + 1) (((W.setCell ⟨bx, 0, none⟩ (.int .i64 z)).setCell ⟨b, k, none⟩ (.int .u64 (y : Nat))).drewN d) := by
  refine ⟨h.vec.write k hk hl hw hy h.np (fun e => h.ne e.symm) _ d, ?_, ?_, h.ne, h.np, ?_, ?_⟩
  · show World.cell? (World.setCell _ _ _) _ = _
    rw [World.cell?_setCell_other (h := by intro e; injection e with e1 _; exact h.ne e1), hz]
    exact World.cell?_setCell_same (h := h.box) ..
  · show World.frozen? (World.setCell (World.setCell _ _ _) _ _) _ = _
    rw [World.frozen?_setCell, World.frozen?_setCell]; exact h.free
  · have := h.lt; simpa [World.setCell] using this
  · exact ((h.touch.setCell (fun _ => .inr rfl) _).setCell (fun _ => .inl rfl) _).drewN d

/-- What the three need of the slice's header, throughout. -/
theorem LayAt.head {w : World} {p b : Nat} {l : List Bool} (hV : Vec w p b l) {T : TypeId} {c : Nat → Nat} {m : Nat → List Bool} {k : Nat} {W : World} (h : LayAt (w.alloc (.cells #[.int .i64 0] T)) p b w.heap.size c m k W) :
    W.cell? ⟨p, 0, none⟩ = w.cell? ⟨p, 0, none⟩ ∧ W.cell? ⟨p, 1, none⟩ = w.cell? ⟨p, 1, none⟩ := by
  have hp := hV.hp
  have e := fun o => h.touch.cell (b := p) (by simp; omega) (by intro h; rcases h with h | h; exact hV.ne h; omega) o
  have g := fun o => ((Gr.refl w).alloc (.cells #[.int .i64 0] T)).cell (b := p) hp o
  exact ⟨(e 0).trans (g 0), (e 1).trans (g 1)⟩

def layK (l : List Bool) (lo hi : Int) (x : Bool) (k : Nat) : List Bool := layL l lo (min hi (64 * k)) x
def chgK (l : List Bool) (lo hi : Int) (x : Bool) (k : Nat) : Nat := chgL l lo (min hi (64 * k)) x
theorem layK_end {l : List Bool} {lo hi : Int} {x : Bool} {k : Nat} (hk : lo < hi → hi ≤ 64 * k) : layK l lo hi x k = layL l lo hi x ∧ chgK l lo hi x k = chgL l lo hi x := by
  unfold layK chgK
  by_cases h : lo < hi
  · rw [Int.min_eq_left (hk h)]; exact ⟨rfl, rfl⟩
  · rw [layL_empty x (show min hi (64 * k) ≤ lo by omega), layL_empty x (show hi ≤ lo by omega), chgL_eq, chgL_eq, cntI_empty _ _ (show min hi (64 * k) ≤ lo by omega), cntI_empty _ _ (show hi ≤ lo by omega)]; exact ⟨rfl, rfl⟩

set_option maxRecDepth 100000 in
set_option maxHeartbeats 800000 in
theorem fill_vec {w : World} {p b : Nat} {l : List Bool} (hV : Vec w p b l) (f t : Int) (hf64 : f ≤ 9223372036854775807) :
    Calls Tryz.prog 192 #[.pointer (some ⟨p, 0, none⟩), .int .i64 f, .int .i64 t] w fun e w' =>
      e = .returned (.int .i64 (chgL l f t true : Nat)) ∧ Touch (fun i => i = b) w w' ∧ Vec w' p b (layL l f t true) := by
  obtain ⟨lo, hlo⟩ : ∃ lo : Nat, (lo : Int) = max f 0 := ⟨(max f 0).toNat, by omega⟩
  obtain ⟨hi, hhi⟩ : ∃ hi : Int, hi = min t l.length := ⟨_, rfl⟩
  have hh : hi ≤ l.length := by omega
  have hn := hV.n2
  obtain ⟨cap, a1, a2, c0⟩ := hV.c0
  have hm0 : layK l lo hi true (lo / 64) = l := layL_empty _ (by omega)
  have hc0 : chgK l lo hi true (lo / 64) = 0 := by unfold chgK; rw [chgL_eq]; exact cntI_empty _ _ (by omega)
  have H0 := fun T => box_start hV (layK l lo hi true) (chgK l lo hi true) (lo / 64) hm0 hc0 T
  have HE := fun T => each_any 216 ⟨w.heap.size, 0, none⟩ p b l.length (nw l) cap (LayAt (w.alloc (.cells #[.int .i64 0] T)) p b w.heap.size (chgK l lo hi true) (layK l lo hi true))
    call_fill1 (fun k W h => ⟨(LayAt.head hV h).1.trans c0, (LayAt.head hV h).2.trans hV.c1⟩) (fun k W d h => h.drewN d) (by unfold nw; omega) (by omega) f t hf64 lo hlo hi hhi
    (fun k W hk1 hk2 hlt h => by
      have hkw : k < nw (layK l lo hi true k) := by unfold layK; rw [nw_layL]; unfold nw; omega
      have hcb : chgK l lo hi true k ≤ l.length := cntI_le _ _ _ _
      refine (fill1_any W b k (wordOf (layK l lo hi true k) k) _ w.heap.size (chgK l lo hi true k : Nat) (wordOf_lt _ _) (runW_lt _ _) (h.vec.cw k hkw) (h.vec.fw k) h.box h.free h.ne (by omega) (by omega)).mono ?_
      rintro e W' ⟨rfl, d, rfl⟩
      refine ⟨rfl, h.step hkw ?_ ?_ ?_ ?_ d⟩
      · unfold layK; rw [layL_length, layL_length]
      · intro i hi'; exact word_other hk2 hh true hi'
      · exact word_on hk2 hh
      · have := chg_on hk2 hh (lo := (lo : Int)); unfold chgK layK; omega)
    _ (H0 T)
  have HE := hid HE
  have HV := hid hV
  have HLO := hid hlo
  have HHI := hid hhi
  clear hV hm0 hc0 H0 hh a1 a2 c0 hhi hlo hn hf64
  have hmf : ∀ (fn : Fn) (first cap : Array Value) (w : World), (Instr.makeFunc fn first cap).run Tryz.prog w = .ok (.func fn first cap) w := fun _ _ _ _ => rfl
  go_enter Tryz.func192, Tryz.ntmps192
  go_wp2_with (go_at_call 215; refine (HE.out _).mono ?_; rintro e W2 ⟨rfl, k, hk1, hk2, hL⟩; have hbox := hL.box)
  go_ret
  obtain ⟨e1, e2⟩ := layK_end (l := l) (x := true) hk2
  refine ⟨ret_int (by rw [e2, HLO.out, HHI.out, chgL_eq, chgL_eq, cntI_clip]), ?_, ?_⟩
  · refine (((Gr.refl w).alloc _).touch _).trans' hL.touch ?_
    rintro i hi (h | h)
    · exact h
    · omega
  · have := hL.vec
    rw [e1, HLO.out, HHI.out, layL_clip] at this
    exact this

set_option maxRecDepth 100000 in
set_option maxHeartbeats 800000 in
theorem wipe_vec {w : World} {p b : Nat} {l : List Bool} (hV : Vec w p b l) (f t : Int) (hf64 : f ≤ 9223372036854775807) :
    Calls Tryz.prog 207 #[.pointer (some ⟨p, 0, none⟩), .int .i64 f, .int .i64 t] w fun e w' =>
      e = .returned (.int .i64 (chgL l f t false : Nat)) ∧ Touch (fun i => i = b) w w' ∧ Vec w' p b (layL l f t false) := by
  obtain ⟨lo, hlo⟩ : ∃ lo : Nat, (lo : Int) = max f 0 := ⟨(max f 0).toNat, by omega⟩
  obtain ⟨hi, hhi⟩ : ∃ hi : Int, hi = min t l.length := ⟨_, rfl⟩
  have hh : hi ≤ l.length := by omega
  have hn := hV.n2
  obtain ⟨cap, a1, a2, c0⟩ := hV.c0
  have hm0 : layK l lo hi false (lo / 64) = l := layL_empty _ (by omega)
  have hc0 : chgK l lo hi false (lo / 64) = 0 := by unfold chgK; rw [chgL_eq]; exact cntI_empty _ _ (by omega)
  have H0 := fun T => box_start hV (layK l lo hi false) (chgK l lo hi false) (lo / 64) hm0 hc0 T
  have HE := fun T => each_any 225 ⟨w.heap.size, 0, none⟩ p b l.length (nw l) cap (LayAt (w.alloc (.cells #[.int .i64 0] T)) p b w.heap.size (chgK l lo hi false) (layK l lo hi false))
    call_wipe1 (fun k W h => ⟨(LayAt.head hV h).1.trans c0, (LayAt.head hV h).2.trans hV.c1⟩) (fun k W d h => h.drewN d) (by unfold nw; omega) (by omega) f t hf64 lo hlo hi hhi
    (fun k W hk1 hk2 hlt h => by
      have hkw : k < nw (layK l lo hi false k) := by unfold layK; rw [nw_layL]; unfold nw; omega
      have hcb : chgK l lo hi false k ≤ l.length := cntI_le _ _ _ _
      refine (wipe1_any W b k (wordOf (layK l lo hi false k) k) _ w.heap.size (chgK l lo hi false k : Nat) (wordOf_lt _ _) (runW_lt _ _) (h.vec.cw k hkw) (h.vec.fw k) h.box h.free h.ne (by omega) (by omega)).mono ?_
      rintro e W' ⟨rfl, d, rfl⟩
      refine ⟨rfl, h.step hkw ?_ ?_ ?_ ?_ d⟩
      · unfold layK; rw [layL_length, layL_length]
      · intro i hi'; exact word_other hk2 hh false hi'
      · exact word_off hk2 hh
      · have := chg_off hk2 hh (lo := (lo : Int)); unfold chgK layK; omega)
    _ (H0 T)
  have HE := hid HE
  have HV := hid hV
  have HLO := hid hlo
  have HHI := hid hhi
  clear hV hm0 hc0 H0 hh a1 a2 c0 hhi hlo hn hf64
  have hmf : ∀ (fn : Fn) (first cap : Array Value) (w : World), (Instr.makeFunc fn first cap).run Tryz.prog w = .ok (.func fn first cap) w := fun _ _ _ _ => rfl
  go_enter Tryz.func207, Tryz.ntmps207
  go_wp2_with (go_at_call 215; refine (HE.out _).mono ?_; rintro e W2 ⟨rfl, k, hk1, hk2, hL⟩; have hbox := hL.box)
  go_ret
  obtain ⟨e1, e2⟩ := layK_end (l := l) (x := false) hk2
  refine ⟨ret_int (by rw [e2, HLO.out, HHI.out, chgL_eq, chgL_eq, cntI_clip]), ?_, ?_⟩
  · refine (((Gr.refl w).alloc _).touch _).trans' hL.touch ?_
    rintro i hi (h | h)
    · exact h
    · omega
  · have := hL.vec
    rw [e1, HLO.out, HHI.out, layL_clip] at this
    exact this

/-- What holds between two words of a run that is counted. -/
structure CountAt (w0 : World) (bx : Nat) (c : Nat → Nat) (k : Nat) (W : World) : Prop where
  box : W.cell? ⟨bx, 0, none⟩ = some (.int .i64 (c k : Nat))
  free : W.frozen? ⟨bx, 0, none⟩ = false
  touch : Touch (fun i => i = bx) w0 W
set_option maxRecDepth 100000 in
set_option maxHeartbeats 800000 in
theorem count_vec {w : World} {p b : Nat} {l : List Bool} (hV : Vec w p b l) (f t : Int) (hf64 : f ≤ 9223372036854775807) :
    Gets Tryz.prog 219 #[.pointer (some ⟨p, 0, none⟩), .int .i64 f, .int .i64 t] w (.int .i64 (countL l f t : Nat)) := by
  obtain ⟨lo, hlo⟩ : ∃ lo : Nat, (lo : Int) = max f 0 := ⟨(max f 0).toNat, by omega⟩
  obtain ⟨hi, hhi⟩ : ∃ hi : Int, hi = min t l.length := ⟨_, rfl⟩
  have hh : hi ≤ l.length := by omega
  have hn := hV.n2
  have hp := hV.hp
  have hb := hV.hb
  obtain ⟨cap, a1, a2, c0⟩ := hV.c0
  obtain ⟨c, hc⟩ : ∃ c : Nat → Nat, c = fun k => cntI (at_ l) lo (min hi (64 * (k : Nat))) l.length := ⟨_, rfl⟩
  have hc0 : c (lo / 64) = 0 := by rw [hc]; exact cntI_empty _ _ (by omega)
  have H0 : ∀ T, CountAt (w.alloc (.cells #[.int .i64 0] T)) w.heap.size c (lo / 64) (w.alloc (.cells #[.int .i64 0] T)) := fun T => ⟨by rw [hc0]; exact World.cell?_alloc_new .., World.frozen?_alloc_new .., Touch.refl _ _⟩
  have HR : ∀ T k W, CountAt (w.alloc (.cells #[.int .i64 0] T)) w.heap.size c k W → ∀ q o, q < w.heap.size → W.cell? ⟨q, o, none⟩ = w.cell? ⟨q, o, none⟩ := fun T k W h q o hq => by
    rw [h.touch.cell (by simp; omega) (by omega), ((Gr.refl w).alloc _).cell hq]
  have HE := fun T => each_any 232 ⟨w.heap.size, 0, none⟩ p b l.length (nw l) cap (CountAt (w.alloc (.cells #[.int .i64 0] T)) w.heap.size c)
    call_count1 (fun k W h => ⟨(HR T k W h p 0 hp).trans c0, (HR T k W h p 1 hp).trans hV.c1⟩) (fun k W d h => ⟨h.box, h.free, h.touch.drewN d⟩) (by unfold nw; omega) (by omega) f t hf64 lo hlo hi hhi
    (fun k W hk1 hk2 hlt h => by
      have hkw : k < nw l := by unfold nw; omega
      have hcb : c k ≤ l.length := by rw [hc]; exact cntI_le _ _ _ _
      refine (count1_any W b k (wordOf l k) _ w.heap.size (c k : Nat) (wordOf_lt _ _) (runW_lt _ _) ((HR T k W h b k hb).trans (hV.cw k hkw)) h.box h.free (by omega) (by omega)).mono ?_
      rintro e W' ⟨rfl, d, rfl⟩
      refine ⟨rfl, ?_, ?_, (h.touch.setCell (fun _ => rfl) _).drewN d⟩
      · have := count_on hk2 hh (lo := (lo : Int))
        have e : ((c k : Nat) : Int) + (pc (runW ((lo : Int) - 64 * k) (hi - 64 * k) &&& wordOf l k) : Nat) = (c (k + 1) : Nat) := by rw [hc]; simp only []; omega
        rw [e]
        exact World.cell?_setCell_same (h := h.box) ..
      · show World.frozen? (World.setCell _ _ _) _ = _
        rw [World.frozen?_setCell]; exact h.free)
    _ (H0 T)
  have HE := hid HE
  have HLO := hid hlo
  have HHI := hid hhi
  have HC := hid hc
  clear hV hc0 H0 hh a1 a2 c0 hhi hlo hn hf64 HR hc
  have hmf : ∀ (fn : Fn) (first cap : Array Value) (w : World), (Instr.makeFunc fn first cap).run Tryz.prog w = .ok (.func fn first cap) w := fun _ _ _ _ => rfl
  unfold Gets
  go_enter Tryz.func219, Tryz.ntmps219
  go_wp2_with (go_at_call 215; refine (HE.out _).mono ?_; rintro e W2 ⟨rfl, k, hk1, hk2, hL⟩; have hbox := hL.box)
  go_ret
  refine ⟨ret_int ?_, Touch.gr ?_⟩
  · rw [HC.out, countL_eq, ← cntI_clip (at_ l) f t, ← HLO.out, ← HHI.out]
    simp only []
    by_cases h : (lo : Int) < hi
    · rw [Int.min_eq_left (hk2 h)]
    · rw [cntI_empty _ _ (show min hi (64 * k) ≤ lo by omega), cntI_empty _ _ (show hi ≤ lo by omega)]
  · refine (((Gr.refl w).alloc _).touch _).trans' hL.touch ?_
    rintro i hi rfl; omega

end Go.Proofs.YtbmidhlilafgeaaGreatDoor
end

section
namespace Go.Proofs.YtbmidhlilafgeaaGreatDoor
open Go.RowKit Word

/-- A new vector of the bits l, apart from all that was there. -/
def NewVec (w : World) (l : List Bool) (e : Ending) (w' : World) : Prop :=
  ∃ p b, e = .returned (.tuple #[.pointer (some ⟨p, 0, none⟩), .int .i64 0]) ∧ Gr w w' ∧ Vec w' p b l ∧ w.heap.size ≤ p ∧ w.heap.size ≤ b
theorem infoU64 : (Tryz.prog.info? 50).map (fun i => (i.zero, i.size, i.bytes)) = some (some (.int .u64 0), 1, 8) := by kernel_rfl
theorem new_none (n : Int) (hn : n < 1 ∨ 1048576 < n) (w : World) :
    Calls Tryz.prog 177 #[.int .i64 n] w fun e w' => e = .returned (.tuple #[.pointer none, .int .i64 5]) ∧ w = w' := by
  rcases hn with h | h
  · go_enter Tryz.func177, Tryz.ntmps177
    go_wp2
    go_ret2
    exact ⟨rfl, rfl⟩
  · have h' : ¬ n < 1 := by omega
    go_enter Tryz.func177, Tryz.ntmps177
    go_wp2
    go_ret2
    exact ⟨rfl, rfl⟩
theorem grownBy_touch {w w' : World} {row : Option Nat} (h : w.grownBy w' row) (S : Nat → Prop) (hS : ∀ k, row = some k → k < w.heap.size → S k) : Touch S w w' :=
  ⟨h.os, h.tape, h.output, h.size, fun k hk hn => h.block k hk (fun e => hn (hS k e.symm hk))⟩

theorem wordOf_none (n i : Nat) : wordOf (List.replicate n false) i = 0 :=
  (wordOf_eq (by decide) (fun j _ => by rw [Nat.zero_testBit]; simp [List.getD_eq_getElem?_getD, List.getElem?_replicate]; split <;> rfl)).symm
theorem made_words (n : Nat) : (madeCells #[.int .u64 0] n).toList = (List.range n).map fun _ => Value.int .u64 ((0 : Nat) : Int) := by
  unfold madeCells; simp [Nat.mod_one]
/-- A vector out of an owned row of words, and a new struct. -/
theorem vec_made {w1 : World} {l : List Bool} (n1 : 1 ≤ l.length) (n2 : l.length ≤ 1048576) {base T b k cap : Nat} {xs : List Value} {E : TypeId}
    (hown : w1.ownsRow base E 1 (.slice (some ⟨b, 0, none⟩) k cap) k xs) (hk : k = nw l) (hcap : cap ≤ maxLen) (hx : xs = (List.range (nw l)).map fun i => Value.int .u64 ((wordOf l i : Nat) : Int)) :
    Vec (w1.alloc (.cells #[.slice (some ⟨b, 0, none⟩) k cap, .int .i64 l.length] T)) w1.heap.size b l ∧ b < w1.heap.size := by
  obtain ⟨hlen, h | ⟨g, c, cur, e1, e2, e3, e4, e5, e6, e7⟩⟩ := hown
  · simp at h
  · simp only [Value.slice.injEq, Option.some.injEq, Addr.mk.injEq, and_true, true_and] at e1
    obtain ⟨rfl, rfl⟩ := e1
    have hb : b < w1.heap.size := by
      rcases Nat.lt_or_ge b w1.heap.size with h | h
      · exact h
      · rw [Array.getElem?_eq_none h] at e3; cases e3
    subst hk
    refine ⟨⟨by omega, by simp, by simp; omega, n1, n2, ⟨cap, e4, hcap, ?_⟩, ?_, ?_, ?_⟩, hb⟩
    · exact World.cell?_alloc_new ..
    · exact World.cell?_alloc_new ..
    · intro i hi
      rw [World.cell?_alloc_lt (h := hb)]
      unfold World.cell?
      simp only [e3]
      have : cur[i]? = xs[i]? := by
        rw [← e7, Nat.mul_one, List.getElem?_take, if_pos hi, Array.getElem?_toList]
      rw [if_neg (by simp), this, hx]
      simp [hi]
    · intro i
      rw [World.frozen?_alloc_old (h := by show b ≠ _; omega)]
      unfold World.frozen?
      simp only [e3]
      simp
set_option maxRecDepth 100000 in
set_option maxHeartbeats 800000 in
theorem new_vec (n : Nat) (h1 : 1 ≤ n) (h2 : n ≤ 1048576) (w : World) :
    Calls Tryz.prog 177 #[.int .i64 n] w (NewVec w (List.replicate n false)) := by
  obtain ⟨i0, hi, hz0, hz1, hz2⟩ := info_parts infoU64
  have d1 : decide ((n : Int) < 1) = false := by simp; omega
  have d2 : decide ((1048576 : Int) < (n : Int)) = false := by simp; omega
  have hb : i0.bytes * ((n + 63) / 64) ≤ 281474976710656 := by rw [hz2]; omega
  have hm : (n + 63) / 64 ≤ maxLen := by unfold maxLen; omega
  have HB := hid hb
  have HM := hid hm
  clear hb hm
  go_enter Tryz.func177, Tryz.ntmps177
  go_wp2_with (at_make; refine wpList_make_full _ rfl _ _ 35 rfl w.heap.size 50 i0 (.int .u64 0) 1 Tryz.underlying35 hi hz0 hz1 .i64 .i64 _ _ ((n + 63) / 64) rfl rfl ?h1 ?h2 HB.out HM.out (Nat.le_refl _) ?h3)
  case h1 => omega
  case h2 => omega
  case h3 =>
    intro w1 hown hgrow
    have hg1 : Gr w w1 := (grownBy_touch hgrow (fun _ => False) (fun k e _ => by cases e)).gr
    have HV := hid (fun T => vec_made (l := List.replicate n false) (by simp; omega) (by simp; omega) (T := T) (show w1.ownsRow w.heap.size 50 1 (.slice (some ⟨w.heap.size, 0, none⟩) ((n + 63) / 64) ((n + 63) / 64)) ((n + 63) / 64) _ from hown) (by simp [nw]) (by unfold maxLen; omega) (by
      rw [made_words, nw, List.length_replicate]
      exact List.map_congr_left (fun i _ => by rw [wordOf_none])))
    clear hown hgrow
    go_wp2
    go_ret2
    obtain ⟨hV, hlt⟩ := HV.out 260
    exact ⟨_, _, ret2 rfl rfl, hg1.alloc _, by simpa using hV, hg1.size, Nat.le_refl _⟩

theorem slice_of_own {w : World} {base : Nat} {e : TypeId} {size : Nat} {v : Value} {n : Nat} {xs : List Value} (h : w.ownsRow base e size v n xs) (hn : n ≠ 0) :
    ∃ g c, v = .slice (some ⟨g, 0, none⟩) n c ∧ base ≤ g ∧ n ≤ c ∧ c ≤ maxLen := by
  obtain ⟨_, ⟨_, h⟩ | ⟨g, c, cur, e1, e2, _, e4, e5, _⟩⟩ := h
  · exact absurd h hn
  · exact ⟨g, c, e1, e2, e4, e5⟩
/-- A row of the same words, apart from all that was there. -/
def NewRow (w : World) (l : List Bool) (e : Ending) (w' : World) : Prop :=
  ∃ g c, e = .returned (.slice (some ⟨g, 0, none⟩) (nw l) c) ∧ Gr w w' ∧ w.heap.size ≤ g ∧ c ≤ maxLen ∧
    w'.ownsRow w.heap.size 50 1 (.slice (some ⟨g, 0, none⟩) (nw l) c) (nw l) ((List.range (nw l)).map fun i => Value.int .u64 ((wordOf l i : Nat) : Int))
set_option maxRecDepth 100000 in
set_option maxHeartbeats 800000 in
theorem clone_words {w : World} {p b : Nat} {l : List Bool} (hV : Vec w p b l) (cap : Nat) :
    Calls Tryz.prog 231 #[.slice (some ⟨b, 0, none⟩) (nw l) cap] w (NewRow w l) := by
  obtain ⟨i0, hi, hz0, hz1, hz2⟩ := info_parts infoU64
  have hnb := nw_bd hV.n1 hV.n2
  have hsn := Lib.run_eql_slice_nil (P := Tryz.prog) w 35 50 (some ⟨b, 0, none⟩) (nw l) cap 0 0 Tryz.underlying35
  have hown : (w.alloc (.cells #[] 50)).ownsRow w.heap.size 50 1 (.slice (some ⟨w.heap.size, 0, none⟩) 0 0) 0 [] :=
    ⟨rfl, .inr ⟨w.heap.size, 0, #[], rfl, Nat.le_refl _, heap_alloc_new w _, Nat.le_refl _, by unfold maxLen; omega, rfl, rfl⟩⟩
  have hcell : ∀ (j : Nat) (u : Value), ((List.range (nw l)).map fun i => Value.int .u64 ((wordOf l i : Nat) : Int))[j]? = some u → (w.alloc (.cells #[] 50)).cell? (Addr.add ⟨b, 0, none⟩ j) = some u := fun j u hj => by
    rw [List.getElem?_map] at hj
    have hjl : j < nw l := by
      rcases Nat.lt_or_ge j (nw l) with h | h
      · exact h
      · rw [List.getElem?_eq_none (by simpa using h)] at hj; cases hj
    rw [List.getElem?_range hjl] at hj
    simp only [Option.map_some, Option.some.injEq] at hj
    have e : Addr.add ⟨b, 0, none⟩ j = ⟨b, j, none⟩ := by unfold Addr.add; split <;> simp_all
    rw [e, World.cell?_alloc_lt (h := hV.hb), hV.cw j hjl, hj]
  have h1c : ∀ u ∈ (List.range (nw l)).map fun i => Value.int .u64 ((wordOf l i : Nat) : Int), u.oneCell' = true := fun u hu => by
    obtain ⟨i, _, rfl⟩ := List.mem_map.1 hu; rfl
  have HO := hid hown
  have HC := hid hcell
  have H1 := hid h1c
  have HN := hid hnb
  clear hnb hV hown hcell h1c
  go_enter Tryz.func231, Tryz.ntmps231
  go_wp2_with (at_builtin; refine wpList_append_own _ rfl _ _ 35 rfl w.heap.size 50 i0 (.int .u64 0) 1 8 Tryz.underlying35 hi hz0 hz1 hz2 rfl (by decide) _ _ _ rfl HO.out ⟨b, 0, none⟩ (nw l) cap ((List.range (nw l)).map fun i => Value.int .u64 ((wordOf l i : Nat) : Int)) rfl (by simp) HC.out H1.out (by have := HN.out; unfold maxLen; omega) (by have := HN.out; omega) (by simp) ?_; intro v' w1 hown1 hgrow _; obtain ⟨g, c, hv, hg1, hg2, hg3⟩ := slice_of_own hown1 (by have := HN.out; omega); subst hv)
  go_ret
  have hgrow' : (w.alloc (.cells #[] 50)).grownBy w1 (some w.heap.size) := hgrow
  refine ⟨g, c, rfl, ?_, hg1, hg3, by simpa using hown1⟩
  refine Touch.gr ((((Gr.refl w).alloc _).touch _).trans' (grownBy_touch hgrow' (fun k => k = w.heap.size) (fun k e _ => by cases e; rfl)) ?_)
  rintro i hi rfl; omega

/-- A copy of a vector, apart from all that was there. -/
def NewCopy (w : World) (l : List Bool) (e : Ending) (w' : World) : Prop :=
  ∃ p b, e = .returned (.pointer (some ⟨p, 0, none⟩)) ∧ Gr w w' ∧ Vec w' p b l ∧ w.heap.size ≤ p ∧ w.heap.size ≤ b
set_option maxRecDepth 100000 in
set_option maxHeartbeats 800000 in
theorem copy_vec {w : World} {p b : Nat} {l : List Bool} (hV : Vec w p b l) :
    Calls Tryz.prog 218 #[.pointer (some ⟨p, 0, none⟩)] w (NewCopy w l) := by
  obtain ⟨cap, a1, a2, c0⟩ := hV.c0
  have c1 := hV.c1
  have hpw := hV.hp
  have HV := hid hV
  clear hV a1 a2
  go_enter Tryz.func218, Tryz.ntmps218
  go_upto_region 3 with (fail)
  go_region_with (go_at_call 231; refine (clone_words (HV.out.gr ((Gr.refl w).drew)) _).mono ?_; rintro e w1 ⟨g, c, rfl, hg1, hg2, hg3, hown⟩; have c1' := (hg1.cell (b := p) (by simpa using hpw) 1).trans c1)
  all_goals
    have HF := hid (fun T => vec_made HV.out.n1 HV.out.n2 (T := T) hown rfl hg3 rfl)
    have hgr := (Gr.refl w).drew.trans hg1
    have hs : w.heap.size ≤ g := hg2
    clear hown hg1 hg2 hg3 c0 c1 c1'
    go_wp2
    go_ret
    obtain ⟨hF, hlt⟩ := HF.out 260
    exact ⟨_, _, rfl, hgr.alloc _, hF, hgr.size, hs⟩
end Go.Proofs.YtbmidhlilafgeaaGreatDoor
end

section
namespace Go.Proofs.YtbmidhlilafgeaaGreatDoor
open Go.RowKit Word

theorem Gr.tab {w W : World} (h : Gr w W) (hz : 0 < w.heap.size) (ht : TabAt w) : TabAt W := fun i hi => by rw [h.cell hz]; exact ht i hi
theorem Touch.tab {S : Nat → Prop} {w W : World} (h : Touch S w W) (hz : 0 < w.heap.size) (hS : ¬ S 0) (ht : TabAt w) : TabAt W := fun i hi => by rw [h.cell hz hS]; exact ht i hi
/-- The table's block is there. -/
theorem TabAt.lt {w : World} (h : TabAt w) : 0 < w.heap.size := by
  have := h 0 (by decide)
  unfold World.cell? at this
  rcases Nat.lt_or_ge 0 w.heap.size with h | h
  · exact h
  · rw [Array.getElem?_eq_none h] at this; cases this

def live11 : List Bool := layL (List.replicate 100 false) 60 70 true
theorem live11_fill : chgL (List.replicate 100 false) 60 70 true = 10 := by decide +kernel
theorem live11_next : valN live11.length (nextL live11 65) = 65 ∧ decide (nextL live11 65 < live11.length) = true := by decide +kernel
theorem live11_last : valI (lastL live11 65) = 64 ∧ decide (0 ≤ lastL live11 65) = true := by decide +kernel
theorem live11_pick : valN live11.length (pickL live11 9) = 69 ∧ decide (pickL live11 9 < live11.length) = true := by decide +kernel

end Go.Proofs.YtbmidhlilafgeaaGreatDoor
end

section
namespace Go.Proofs.YtbmidhlilafgeaaGreatDoor
open Go.RowKit Word

/-- An Act: kind, A, B. -/
structure ActD where
  kind : Nat
  a : Int
  b : Int
def ActD.ok (x : ActD) : Prop := x.kind ≤ 255 ∧ -9223372036854775808 ≤ x.a ∧ x.a ≤ 9223372036854775807 ∧ -9223372036854775808 ≤ x.b ∧ x.b ≤ 9223372036854775807
/-- A slice of Acts lies in w. -/
def ActsAt (w : World) (A : Option Addr) (l : List ActD) : Prop :=
  ∀ i (h : i < l.length), l[i].ok ∧ ∃ b o : Nat, A = some ⟨b, o, none⟩ ∧ b < w.heap.size ∧
    w.cell? ⟨b, o + i * 3, none⟩ = some (.int .u8 l[i].kind) ∧ w.cell? ⟨b, o + i * 3 + 1, none⟩ = some (.int .i64 l[i].a) ∧ w.cell? ⟨b, o + i * 3 + 2, none⟩ = some (.int .i64 l[i].b)

theorem run_minB2 (P : Program) (ts : Array TypeId) (t : TypeId) (k : IntKind) (x y : Int) (w : World) : (Builtin.min_ ts t #[.int k x, .int k y]).run P w = .ok (.int k (min x y)) w := by
  simp only [Builtin.min_, List.foldlM]; simp [run_min2]
theorem run_maxB2 (P : Program) (ts : Array TypeId) (t : TypeId) (k : IntKind) (x y : Int) (w : World) : (Builtin.max_ ts t #[.int k x, .int k y]).run P w = .ok (.int k (max x y)) w := by
  simp only [Builtin.max_, List.foldlM]; simp [run_max2]
theorem run_minB3 (P : Program) (ts : Array TypeId) (t : TypeId) (k : IntKind) (x y z : Int) (w : World) : (Builtin.min_ ts t #[.int k x, .int k y, .int k z]).run P w = .ok (.int k (min (min x y) z)) w := by
  simp only [Builtin.min_, List.foldlM]; simp [run_min2]
theorem run_maxB3 (P : Program) (ts : Array TypeId) (t : TypeId) (k : IntKind) (x y z : Int) (w : World) : (Builtin.max_ ts t #[.int k x, .int k y, .int k z]).run P w = .ok (.int k (max (max x y) z)) w := by
  simp only [Builtin.max_, List.foldlM]; simp [run_max2]
theorem countL_add (l : List Bool) {a b c : Int} (h1 : a ≤ b) (h2 : b ≤ c) : ((countL l a b : Nat) : Int) + (countL l b c : Nat) = (countL l a c : Nat) := by
  rw [countL_eq, countL_eq, countL_eq]
  have := cnt_or (f := fun i => decide (a ≤ (i : Nat) ∧ ((i : Nat) : Int) < b) && at_ l i) (g := fun i => decide (b ≤ (i : Nat) ∧ ((i : Nat) : Int) < c) && at_ l i) (fun i => by
    by_cases h : ((i : Nat) : Int) < b
    · rw [decide_eq_false (p := b ≤ (i : Nat) ∧ ((i : Nat) : Int) < c) (by omega)]; simp
    · rw [decide_eq_false (p := a ≤ (i : Nat) ∧ ((i : Nat) : Int) < b) (by omega)]; simp) l.length
  unfold cntI
  rw [← Int.natCast_add, ← this]
  congr 1
  refine cnt_congr (fun i _ => ?_)
  by_cases h : ((i : Nat) : Int) < b
  · rw [decide_eq_false (p := b ≤ (i : Nat) ∧ ((i : Nat) : Int) < c) (by omega), show decide (a ≤ (i : Nat) ∧ ((i : Nat) : Int) < b) = decide (a ≤ (i : Nat) ∧ ((i : Nat) : Int) < c) from decide_eq_decide.2 (by omega)]; simp
  · rw [decide_eq_false (p := a ≤ (i : Nat) ∧ ((i : Nat) : Int) < b) (by omega), show decide (b ≤ (i : Nat) ∧ ((i : Nat) : Int) < c) = decide (a ≤ (i : Nat) ∧ ((i : Nat) : Int) < c) from decide_eq_decide.2 (by omega)]; simp
theorem countL_all (l : List Bool) {b : Int} (h : l.length ≤ b) : countL l 0 b = cnt (at_ l) l.length := by
  rw [countL_eq]; exact cnt_congr (fun i hi => by rw [decide_eq_true (by omega)]; simp)
theorem countL_upto (l : List Bool) {r : Nat} (h : r ≤ l.length) : countL l 0 (r : Int) = cnt (at_ l) r := by
  rw [countL_eq]
  unfold cntI
  rw [cnt_ext h (fun i h1 _ => by rw [decide_eq_false (by omega)]; rfl)]
  exact cnt_congr (fun i hi => by rw [decide_eq_true (by omega)]; simp)
theorem pick_lt_all {l : List Bool} {q : Nat} (h : q < cnt (at_ l) l.length) : pickL l q < l.length ∧ at_ l (pickL l q) = true ∧ cnt (at_ l) (pickL l q) = q := pickF_lt h
theorem pick_all_none {l : List Bool} {q : Nat} (h : cnt (at_ l) l.length ≤ q) : pickL l q = l.length := pickF_none h
/-- Behind a call that may have changed bits of the vector, and nothing else that was there. -/
def VecEnd (w : World) (p b n : Nat) (e : Ending) (w' : World) : Prop := ∃ (v : Int) (m : List Bool), e = .returned (.int .i64 v) ∧ m.length = n ∧ Vec w' p b m ∧ Touch (fun i => i = b) w w'
theorem fill_some {w : World} {p b : Nat} {l : List Bool} (hV : Vec w p b l) (f t : Int) (hf64 : f ≤ 9223372036854775807) :
    Calls Tryz.prog 192 #[.pointer (some ⟨p, 0, none⟩), .int .i64 f, .int .i64 t] w (VecEnd w p b l.length) :=
  (fill_vec hV f t hf64).mono fun _ _ ⟨he, ht, hv⟩ => ⟨_, _, he, layL_length .., hv, ht⟩
end Go.Proofs.YtbmidhlilafgeaaGreatDoor
end

section
namespace Go.Proofs.YtbmidhlilafgeaaGreatDoor
open Go.ChangeShapes Go.WideShapes Go.ChangeAt Go.RowKit Word

theorem cellsInt : Tryz.prog.cellsOf 3 = 1 := by kernel_rfl
theorem bd_i64 {n : Int} (h : (Lit.int .i64 n).wf = true) : -9223372036854775808 ≤ n ∧ n ≤ 9223372036854775807 := by
  simpa [Lit.wf, IntKind.min, IntKind.max, IntKind.signed, IntKind.bits] using h
theorem bd_u8 {n : Int} (h : (Lit.int .u8 n).wf = true) : 0 ≤ n ∧ n ≤ 255 := by
  simpa [Lit.wf, IntKind.min, IntKind.max, IntKind.signed, IntKind.bits] using h

theorem add_add_ (a : Addr) (i j : Nat) : (a.add i).add j = a.add (i + j) := by
  obtain ⟨b, o, s⟩ := a
  unfold Addr.add
  by_cases h1 : i = 0
  · subst h1; simp
  · by_cases h2 : j = 0
    · subst h2; simp
    · have : i + j ≠ 0 := by omega
      simp [h1, h2, Nat.add_assoc]
end Go.Proofs.YtbmidhlilafgeaaGreatDoor
end
