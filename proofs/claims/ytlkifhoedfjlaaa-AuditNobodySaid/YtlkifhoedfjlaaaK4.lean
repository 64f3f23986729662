/- A row of bools in memory, and plain facts on the reference's loops over it. Contracts of package bitvec over a vector that lies in memory as a row of words. Contracts of bitvec's Next, Last and Pick. Contracts of bitvec's each, and of the three functions that go through a run by it: Fill, Wipe, Count. Contracts of the closures of bitvec's Fill, Wipe, Count. Contracts of bitvec's Fill, Wipe and Count. Contracts of bitvec's New and Copy, and of all methods at nil. The example of layer 11's statements: it holds, and leaves what was there alone. BitvecAdds: the walk. A slice of Acts among the arguments. -/
import Derived.Test.YtlkifhoedfjlaaaK2
import Derived.Test.YtlkifhoedfjlaaaK1
import Derived.Test.YtlkifhoedfjlaaaK3
import Derived.Deep.RegionWith
import Derived.WalkSpells
section
namespace Go.Proofs.Ytlkifhoedfjlaaa
open Go.RowKit Word

/-- A row of the bools l in block g. -/
structure Bools (w : World) (g : Nat) (l : List Bool) : Prop where
  lt : g < w.heap.size
  n2 : l.length ≤ 1048576
  cell : ∀ i, i < l.length → w.cell? ⟨g, i, none⟩ = some (.bool (at_ l i))
  free : ∀ i, w.frozen? ⟨g, i, none⟩ = false
theorem Bools.touch {S : Nat → Prop} {w w' : World} {g : Nat} {l : List Bool} (h : Bools w g l) (t : Touch S w w') (hS : ¬ S g) : Bools w' g l :=
  ⟨Nat.lt_of_lt_of_le h.lt t.size, h.n2, fun i hi => by rw [t.cell h.lt hS]; exact h.cell i hi, fun i => by rw [t.frozen h.lt hS]; exact h.free i⟩
theorem Bools.gr {w w' : World} {g : Nat} {l : List Bool} (h : Bools w g l) (t : Gr w w') : Bools w' g l := h.touch (t.touch (fun _ => False)) (fun h => h)
/-- One bool written. -/
theorem Bools.set {w : World} {g : Nat} {l m : List Bool} (h : Bools w g l) (k : Nat) (hk : k < l.length) (hl : m.length = l.length) (hm : ∀ i, i ≠ k → at_ m i = at_ l i) {y : Bool} (hy : y = at_ m k) :
    Bools (w.setCell ⟨g, k, none⟩ (.bool y)) g m ∧ Touch (fun i => i = g) w (w.setCell ⟨g, k, none⟩ (.bool y)) := by
  have t : Touch (fun i => i = g) w (w.setCell ⟨g, k, none⟩ (.bool y)) := (Touch.refl (fun i => i = g) w).setCell (a := ⟨g, k, none⟩) (fun _ => rfl) _
  refine ⟨⟨Nat.lt_of_lt_of_le h.lt t.size, by rw [hl]; exact h.n2, fun i hi => ?_, fun i => by rw [World.frozen?_setCell]; exact h.free i⟩, t⟩
  by_cases e : i = k
  · subst e; rw [hy]; exact World.cell?_setCell_same (h := h.cell _ hk) ..
  · rw [World.cell?_setCell_other (h := by intro e2; injection e2 with _ e3; omega), h.cell i (by omega), hm i e]
theorem Bools.of_own {w : World} {base E g n c : Nat} {l : List Bool} (hown : w.ownsRow base E 1 (.slice (some ⟨g, 0, none⟩) n c) n (l.map Value.bool)) (hn : n = l.length) (h2 : l.length ≤ 1048576) : Bools w g l ∧ base ≤ g := by
  obtain ⟨hlen, h | ⟨g', c', cur, e1, e2, e3, e4, e5, e6, e7⟩⟩ := hown
  · simp at h
  · simp only [Value.slice.injEq, Option.some.injEq, Addr.mk.injEq, and_true, true_and] at e1
    obtain ⟨rfl, rfl⟩ := e1
    have hb : g < w.heap.size := by
      rcases Nat.lt_or_ge g w.heap.size with h | h
      · exact h
      · rw [Array.getElem?_eq_none h] at e3; cases e3
    refine ⟨⟨hb, h2, fun i hi => ?_, fun i => ?_⟩, e2⟩
    · unfold World.cell?
      simp only [e3]
      have : cur[i]? = (l.map Value.bool)[i]? := by
        rw [← e7, Nat.mul_one, List.getElem?_take, if_pos (by omega), Array.getElem?_toList]
      rw [if_neg (by simp), this]
      simp [at_, hi, List.getD_eq_getElem?_getD]
    · unfold World.frozen?
      simp only [e3]
      simp

/-! What the loops have when k bools are done. -/
def layP (l : List Bool) (a b : Int) (x : Bool) (k : Nat) : List Bool := layL l a (min b k) x
theorem layP_zero {l : List Bool} {a b : Int} {x : Bool} : layP l a b x 0 = l :=
  ext_at (by unfold layP; rw [layL_length]) (fun i hi => by unfold layP at *; rw [layL_length] at hi; rw [layL_at _ _ _ _ _ hi, if_neg (by omega)])
theorem layP_end {l : List Bool} {a b : Int} {x : Bool} : layP l a b x l.length = layL l a b x :=
  ext_at (by unfold layP; rw [layL_length, layL_length]) (fun i hi => by
    unfold layP at *; rw [layL_length] at hi; rw [layL_at _ _ _ _ _ hi, layL_at _ _ _ _ _ hi]
    by_cases h : a ≤ i ∧ (i : Int) < b
    · rw [if_pos h, if_pos (by omega)]
    · rw [if_neg h, if_neg (by omega)])
theorem layP_len (l : List Bool) (a b : Int) (x : Bool) (k : Nat) : (layP l a b x k).length = l.length := layL_length ..
theorem layP_now {l : List Bool} {a b : Int} {x : Bool} {k i : Nat} (hk : k ≤ i) : at_ (layP l a b x k) i = at_ l i := by
  unfold layP
  by_cases hi : i < l.length
  · rw [layL_at _ _ _ _ _ hi, if_neg (by omega)]
  · rw [at_out (by rw [layL_length]; omega), at_out (by omega)]
theorem layP_in {l : List Bool} {a b : Int} {x : Bool} {k : Nat} (hk : k < l.length) (h : a ≤ k ∧ (k : Int) < b) : (∀ i, i ≠ k → at_ (layP l a b x (k + 1)) i = at_ (layP l a b x k) i) ∧ at_ (layP l a b x (k + 1)) k = x := by
  unfold layP
  refine ⟨fun i hi => ?_, ?_⟩
  · by_cases hil : i < l.length
    · rw [layL_at _ _ _ _ _ hil, layL_at _ _ _ _ _ hil]
      by_cases h2 : a ≤ i ∧ (i : Int) < min b k
      · rw [if_pos h2, if_pos (by omega)]
      · rw [if_neg h2, if_neg (by omega)]
    · rw [at_out (by rw [layL_length]; omega), at_out (by rw [layL_length]; omega)]
  · rw [layL_at _ _ _ _ _ hk, if_pos (by omega)]
theorem layP_out {l : List Bool} {a b : Int} {x : Bool} {k : Nat} (h : ¬ (a ≤ k ∧ (k : Int) < b) ∨ at_ l k = x) : layP l a b x (k + 1) = layP l a b x k := by
  refine ext_at (by rw [layP_len, layP_len]) (fun i hi => ?_)
  rw [layP_len] at hi
  unfold layP
  rw [layL_at _ _ _ _ _ hi, layL_at _ _ _ _ _ hi]
  by_cases h2 : a ≤ i ∧ (i : Int) < min b k
  · rw [if_pos h2, if_pos (by omega)]
  · rw [if_neg h2]
    split
    · have : i = k := by omega
      subst this
      rcases h with h | h
      · omega
      · rw [h]
    · rfl
def chgP (l : List Bool) (a b : Int) (x : Bool) (k : Nat) : Nat := cnt (fun i => decide (a ≤ (i : Nat) ∧ ((i : Nat) : Int) < b) && (at_ l i != x)) k
theorem chgP_end {l : List Bool} {a b : Int} {x : Bool} : chgP l a b x l.length = chgL l a b x := rfl
theorem chgP_in {l : List Bool} {a b : Int} {x : Bool} {k : Nat} (h : a ≤ k ∧ (k : Int) < b) (h2 : at_ l k ≠ x) : chgP l a b x (k + 1) = chgP l a b x k + 1 := by
  unfold chgP; rw [cnt_succ, decide_eq_true h]; simp [h2]
theorem chgP_out {l : List Bool} {a b : Int} {x : Bool} {k : Nat} (h : ¬ (a ≤ k ∧ (k : Int) < b) ∨ at_ l k = x) : chgP l a b x (k + 1) = chgP l a b x k := by
  unfold chgP; rw [cnt_succ]
  rcases h with h | h
  · rw [decide_eq_false h]; simp
  · simp [h]
theorem chgP_le (l : List Bool) (a b : Int) (x : Bool) (k : Nat) : chgP l a b x k ≤ k := cnt_le _ _
def countP_ (l : List Bool) (a b : Int) (k : Nat) : Nat := cnt (inRun l a b) k
theorem countP_end {l : List Bool} {a b : Int} : countP_ l a b l.length = countL l a b := rfl
theorem countP_in {l : List Bool} {a b : Int} {k : Nat} (h : a ≤ k ∧ (k : Int) < b) (h2 : at_ l k = true) : countP_ l a b (k + 1) = countP_ l a b k + 1 := by
  unfold countP_ inRun; rw [cnt_succ, decide_eq_true h, h2]; simp
theorem countP_out {l : List Bool} {a b : Int} {k : Nat} (h : ¬ (a ≤ k ∧ (k : Int) < b) ∨ at_ l k = false) : countP_ l a b (k + 1) = countP_ l a b k := by
  unfold countP_ inRun; rw [cnt_succ]
  rcases h with h | h
  · rw [decide_eq_false h]; simp
  · simp [h]
theorem countP_le (l : List Bool) (a b : Int) (k : Nat) : countP_ l a b k ≤ k := cnt_le _ _
theorem nextL_at {l : List Bool} {a : Int} {k : Nat} (hn : ∀ i, i < k → ¬ (at_ l i = true ∧ a ≤ i)) (h : at_ l k = true) (ha : a ≤ k) : nextL l a = k ∧ nextL l a < l.length := by
  have hl := at_lt h
  have e : nextL l a = k := first_eq (by omega) (fun i hi => by
    have := hn i hi
    cases h1 : at_ l i with
    | false => rfl
    | true => simp [h1] at this; simp; omega) (fun _ => by simp [h]; omega)
  exact ⟨e, by omega⟩
theorem nextL_end {l : List Bool} {a : Int} (hn : ∀ i, i < l.length → ¬ (at_ l i = true ∧ a ≤ i)) : nextL l a = l.length :=
  first_eq (by omega) (fun i hi => by
    have := hn i hi
    cases h1 : at_ l i with
    | false => rfl
    | true => simp [h1] at this; simp; omega) (fun h => by omega)
theorem lastL_at {l : List Bool} {b : Int} {k : Nat} (hn : ∀ i : Nat, k < i → ¬ (at_ l i = true ∧ (i : Int) < b)) (h : at_ l k = true) (hb : (k : Int) < b) : lastL l b = k := by
  have hl := at_lt h
  refine last_eq (by omega) (by omega) (fun i hi _ => ?_) (fun _ => by simp [h]; omega)
  have := hn i (by omega)
  cases h1 : at_ l i with
  | false => rfl
  | true => simp [h1] at this; simp; omega
theorem lastL_end {l : List Bool} {b : Int} (hn : ∀ i : Nat, ¬ (at_ l i = true ∧ (i : Int) < b)) : lastL l b = -1 := by
  refine last_eq (by omega) (by omega) (fun i hi _ => ?_) (fun h => by omega)
  have := hn i
  cases h1 : at_ l i with
  | false => rfl
  | true => simp [h1] at this; simp; omega
def pickV (l : List Bool) (q : Int) : Int := if q < 0 then 0 else valN l.length (pickL l q.toNat)
def pickB (l : List Bool) (q : Int) : Bool := decide (0 ≤ q) && decide (pickL l q.toNat < l.length)
theorem pickL_at {l : List Bool} {k q : Nat} (h : at_ l k = true) (hc : cnt (at_ l) k = q) : pickL l q = k ∧ pickL l q < l.length := by
  have e : pickL l q = k := pickF_eq (at_lt h) h hc
  exact ⟨e, by rw [e]; exact at_lt h⟩
end Go.Proofs.Ytlkifhoedfjlaaa
end

section
namespace Go.Proofs.Ytlkifhoedfjlaaa
open Go.RowKit Word

/-- A vector of the bits l: the struct in block p, the words in block b. -/
structure Vec (w : World) (p b : Nat) (l : List Bool) : Prop where
  ne : p ≠ b
  hp : p < w.heap.size
  hb : b < w.heap.size
  n1 : 1 ≤ l.length
  n2 : l.length ≤ 1048576
  c0 : ∃ cap, nw l ≤ cap ∧ cap ≤ maxLen ∧ w.cell? ⟨p, 0, none⟩ = some (.slice (some ⟨b, 0, none⟩) (nw l) cap)
  c1 : w.cell? ⟨p, 1, none⟩ = some (.int .i64 l.length)
  cw : ∀ i, i < nw l → w.cell? ⟨b, i, none⟩ = some (.int .u64 (wordOf l i : Nat))
  fw : ∀ i, w.frozen? ⟨b, i, none⟩ = false
theorem Vec.touch {S : Nat → Prop} {w w' : World} {p b : Nat} {l : List Bool} (h : Vec w p b l) (t : Touch S w w') (h1 : ¬ S p) (h2 : ¬ S b) : Vec w' p b l := by
  obtain ⟨cap, a1, a2, a3⟩ := h.c0
  exact ⟨h.ne, Nat.lt_of_lt_of_le h.hp t.size, Nat.lt_of_lt_of_le h.hb t.size, h.n1, h.n2, ⟨cap, a1, a2, by rw [t.cell h.hp h1]; exact a3⟩, by rw [t.cell h.hp h1]; exact h.c1,
    fun i hi => by rw [t.cell h.hb h2]; exact h.cw i hi, fun i => by rw [t.frozen h.hb h2]; exact h.fw i⟩
theorem Vec.gr {w w' : World} {p b : Nat} {l : List Bool} (h : Vec w p b l) (t : Gr w w') : Vec w' p b l := h.touch (t.touch (fun _ => False)) (fun h => h) (fun h => h)
/-- What checking an index tells. -/
def codeOf (l : List Bool) (i : Int) : Int := if i < 0 ∨ (l.length : Int) ≤ i then 11 else 0
theorem nw_bd {l : List Bool} (h1 : 1 ≤ l.length) (h2 : l.length ≤ 1048576) : 1 ≤ nw l ∧ nw l ≤ 16384 := by unfold nw; omega
theorem div_nw {l : List Bool} {i : Nat} (h : i < l.length) : i / 64 < nw l := by unfold nw; omega

theorem testBit_code (x j : Nat) (hx : x < 18446744073709551616) : (bits .and .u64 ((x : Int) / 2 ^ j) 1 == 1) = x.testBit j := by
  have e : ((x : Int) / 2 ^ j) = ((x / 2 ^ j : Nat) : Int) := by simp
  have h := and64 (x / 2 ^ j) 1 (Nat.lt_of_le_of_lt (Nat.div_le_self _ _) hx) (by decide)
  rw [e, show (1 : Int) = ((1 : Nat) : Int) from rfl, h, Nat.and_one_is_mod, Nat.testBit_eq_decide_div_mod_eq]
  by_cases h1 : x / 2 ^ j % 2 = 1
  · simp [h1]
  · have : x / 2 ^ j % 2 = 0 := by omega
    simp [this]

theorem pow_code (j : Nat) : IntKind.u64.wrap (2 ^ (j % 64)) = ((2 ^ (j % 64) : Nat) : Int) := by
  have := wrap_u64_nat (2 ^ (j % 64)) (two_pow_lt64 j)
  rw [← this]; simp
theorem andNot64 (a b : Nat) (ha : a < 18446744073709551616) : bits .andNot .u64 (a : Int) (b : Int) = ((andN a b : Nat) : Int) := by
  have h1 : (BitVec.ofInt 64 (a : Int)).toNat = a := by
    rw [BitVec.ofInt_natCast, BitVec.toNat_ofNat]; exact Nat.mod_eq_of_lt (by omega)
  have h2 : (BitVec.ofInt 64 (b : Int)).toNat = b % 18446744073709551616 := by
    rw [BitVec.ofInt_natCast, BitVec.toNat_ofNat]
  show IntKind.u64.wrap ((BitVec.ofInt 64 (a : Int) &&& ~~~ BitVec.ofInt 64 (b : Int)).toNat : Int) = _
  rw [BitVec.toNat_and, BitVec.toNat_not, h1, h2]
  have : 2 ^ 64 - 1 - b % 18446744073709551616 = 18446744073709551615 - b % 18446744073709551616 := rfl
  rw [this]
  exact wrap_u64_nat _ (andN_lt a b ha)
theorem Vec.set {w : World} {p b : Nat} {l : List Bool} (h : Vec w p b l) (k : Nat) (x : Bool) (hk : k < l.length) {y : Nat} (hy : y = wordOf (l.set k x) (k / 64)) :
    Vec (w.setCell ⟨b, k / 64, none⟩ (.int .u64 (y : Nat))) p b (l.set k x) ∧ Touch (fun i => i = b) w (w.setCell ⟨b, k / 64, none⟩ (.int .u64 (y : Nat))) := by
  have t : Touch (fun i => i = b) w (w.setCell ⟨b, k / 64, none⟩ (.int .u64 (y : Nat))) := (Touch.refl (fun i => i = b) w).setCell (a := ⟨b, k / 64, none⟩) (fun _ => rfl) _
  refine ⟨⟨h.ne, Nat.lt_of_lt_of_le h.hp t.size, Nat.lt_of_lt_of_le h.hb t.size, by simp [h.n1], by simp [h.n2], ?_, ?_, ?_, ?_⟩, t⟩
  · obtain ⟨cap, a1, a2, a3⟩ := h.c0
    exact ⟨cap, by rw [nw_set]; exact a1, a2, by rw [t.cell h.hp h.ne, a3, nw_set]⟩
  · rw [t.cell h.hp h.ne, h.c1, List.length_set]
  · intro i hi
    rw [nw_set] at hi
    by_cases e : i = k / 64
    · subst e
      rw [hy]
      exact World.cell?_setCell_same (h := h.cw _ hi) ..
    · rw [World.cell?_setCell_other (h := by intro e2; injection e2 with _ e3; omega), h.cw i hi, wordOf_set_other l k i x hk e]
  · intro i; rw [World.frozen?_setCell]; exact h.fw i

end Go.Proofs.Ytlkifhoedfjlaaa
end

section
namespace Go.Proofs.Ytlkifhoedfjlaaa
open Go.RowKit Word

theorem ret2 {a b c d : Value} (h : a = c) (h2 : b = d) : Ending.returned (.tuple #[a, b]) = .returned (.tuple #[c, d]) := by rw [h, h2]
theorem vint {k : IntKind} {a b : Int} (h : a = b) : Value.int k a = .int k b := by rw [h]
theorem vbool {a b : Bool} (h : a = b) : Value.bool a = .bool b := by rw [h]

end Go.Proofs.Ytlkifhoedfjlaaa
end

section
namespace Go.Proofs.Ytlkifhoedfjlaaa
open Go.RowKit Word

def EachEnd (I : Nat → World → Prop) (lo : Nat) (hi : Int) (W : World) : Prop := ∃ k, lo / 64 ≤ k ∧ ((lo : Int) < hi → hi ≤ 64 * k) ∧ I k W
end Go.Proofs.Ytlkifhoedfjlaaa
end

section
namespace Go.Proofs.Ytlkifhoedfjlaaa
open Go.RowKit Word

end Go.Proofs.Ytlkifhoedfjlaaa
end

section
namespace Go.Proofs.Ytlkifhoedfjlaaa
open Go.RowKit Word

/-- A vector, with one word and the counter's box written. -/
theorem Vec.write {w : World} {p b bx : Nat} {l m : List Bool} (h : Vec w p b l) (k : Nat) (hk : k < nw l) (hl : m.length = l.length) (hw : ∀ i, i ≠ k → wordOf l i = wordOf m i) {y : Nat} (hy : y = wordOf m k) (hbp : bx ≠ p) (hbb : bx ≠ b) (v : Value) (d : Nat) :
    Vec (((w.setCell ⟨bx, 0, none⟩ v).setCell ⟨b, k, none⟩ (.int .u64 (y : Nat))).drewN d) p b m := by
  have t0 : Touch (fun i => i = bx) w (w.setCell ⟨bx, 0, none⟩ v) := (Touch.refl (fun i => i = bx) w).setCell (a := ⟨bx, 0, none⟩) (fun _ => rfl) _
  have h0 := h.touch t0 (fun e => hbp e.symm) (fun e => hbb e.symm)
  generalize w.setCell ⟨bx, 0, none⟩ v = w1 at *
  have hnw : nw m = nw l := by unfold nw; rw [hl]
  have t : Touch (fun i => i = b) w1 (w1.setCell ⟨b, k, none⟩ (.int .u64 (y : Nat))) := (Touch.refl (fun i => i = b) w1).setCell (a := ⟨b, k, none⟩) (fun _ => rfl) _
  refine Vec.gr ⟨h.ne, Nat.lt_of_lt_of_le h0.hp t.size, Nat.lt_of_lt_of_le h0.hb t.size, by rw [hl]; exact h.n1, by rw [hl]; exact h.n2, ?_, ?_, ?_, ?_⟩ ((Gr.refl _).drewN d)
  · obtain ⟨cap, a1, a2, a3⟩ := h0.c0
    exact ⟨cap, by rw [hnw]; exact a1, a2, by rw [t.cell h0.hp h.ne, a3, hnw]⟩
  · rw [t.cell h0.hp h.ne, h0.c1, hl]
  · intro i hi
    rw [hnw] at hi
    by_cases e : i = k
    · subst e
      rw [hy]
      exact World.cell?_setCell_same (h := h0.cw _ hi) ..
    · rw [World.cell?_setCell_other (h := by intro e2; injection e2 with _ e3; omega), h0.cw i hi, hw i e]
  · intro i; rw [World.frozen?_setCell]; exact h0.fw i

/-- What holds between two words of a run: so much is done, so many are counted in the box. -/
structure LayAt (w0 : World) (p b bx : Nat) (c : Nat → Nat) (m : Nat → List Bool) (k : Nat) (W : World) : Prop where
  vec : Vec W p b (m k)
  box : W.cell? ⟨bx, 0, none⟩ = some (.int .i64 (c k : Nat))
  free : W.frozen? ⟨bx, 0, none⟩ = false
  ne : b ≠ bx
  np : bx ≠ p
  lt : bx < W.heap.size
  touch : Touch (fun i => i = b ∨ i = bx) w0 W
theorem LayAt.drewN {w0 : World} {p b bx : Nat} {c : Nat → Nat} {m : Nat → List Bool} {k : Nat} {W : World} (h : LayAt w0 p b bx c m k W) (d : Nat) : LayAt w0 p b bx c m k (W.drewN d) :=
  ⟨h.vec.gr ((Gr.refl W).drewN d), h.box, h.free, h.ne, h.np, h.lt, h.touch.drewN d⟩

/-- The box of the counter, and all there is when the run begins. -/
theorem box_start {w : World} {p b : Nat} {l : List Bool} (hV : Vec w p b l) (m : Nat → List Bool) (c : Nat → Nat) (k : Nat) (hm : m k = l) (hc : c k = 0) (T : TypeId) :
    LayAt (w.alloc (.cells #[.int .i64 0] T)) p b w.heap.size c m k (w.alloc (.cells #[.int .i64 0] T)) := by
  have hs := hV.hp
  have hs2 := hV.hb
  exact ⟨by rw [hm]; exact hV.gr ((Gr.refl w).alloc _), by rw [hc]; exact World.cell?_alloc_new .., World.frozen?_alloc_new .., by omega, by omega, by simp, Touch.refl _ _⟩
/-- One word. -/
theorem LayAt.step {w0 : World} {p b bx : Nat} {c : Nat → Nat} {m : Nat → List Bool} {k : Nat} {W : World} (h : LayAt w0 p b bx c m k W) (hk : k < nw (m k)) (hl : (m (k + 1)).length = (m k).length)
    (hw : ∀ i, i ≠ k → wordOf (m k) i = wordOf (m (k + 1)) i) {y : Nat} (hy : y = wordOf (m (k + 1)) k) {z : Int} (hz : z = (c (k + 1) : Nat)) (d : Nat) :
    LayAt w0 p b bx c m (k + 1) (((W.setCell ⟨bx, 0, none⟩ (.int .i64 z)).setCell ⟨b, k, none⟩ (.int .u64 (y : Nat))).drewN d) := by
  refine ⟨h.vec.write k hk hl hw hy h.np (fun e => h.ne e.symm) _ d, ?_, ?_, h.ne, h.np, ?_, ?_⟩
  · show World.cell? (World.setCell _ _ _) _ = _
    rw [World.cell?_setCell_other (h := by intro e; injection e with e1 _; exact h.ne e1), hz]
    exact World.cell?_setCell_same (h := h.box) ..
  · show World.frozen? (World.setCell (World.setCell _ _ _) _ _) _ = _
    rw [World.frozen?_setCell, World.frozen?_setCell]; exact h.free
  · have := h.lt; simpa [World.setCell] using this
  · exact ((h.touch.setCell (fun _ => .inr rfl) _).setCell (fun _ => .inl rfl) _).drewN d

/-- What the three need of the slice's header, throughout. -/
theorem LayAt.head {w : World} {p b : Nat} {l : List Bool} (hV : Vec w p b l) {T : TypeId} {c : Nat → Nat} {m : Nat → List Bool} {k : Nat} {W : World} (h : LayAt (w.alloc (.cells #[.int .i64 0] T)) p b w.heap.size c m k W) :
    W.cell? ⟨p, 0, none⟩ = w.cell? ⟨p, 0, none⟩ ∧ W.cell? ⟨p, 1, none⟩ = w.cell? ⟨p, 1, none⟩ := by
  have hp := hV.hp
  have e := fun o => h.touch.cell (b := p) (by simp; omega) (by intro h; rcases h with h | h; exact hV.ne h; omega) o
  have g := fun o => ((Gr.refl w).alloc (.cells #[.int .i64 0] T)).cell (b := p) hp o
  exact ⟨(e 0).trans (g 0), (e 1).trans (g 1)⟩

def layK (l : List Bool) (lo hi : Int) (x : Bool) (k : Nat) : List Bool := layL l lo (min hi (64 * k)) x
def chgK (l : List Bool) (lo hi : Int) (x : Bool) (k : Nat) : Nat := chgL l lo (min hi (64 * k)) x
theorem layK_end {l : List Bool} {lo hi : Int} {x : Bool} {k : Nat} (hk : lo < hi → hi ≤ 64 * k) : layK l lo hi x k = layL l lo hi x ∧ chgK l lo hi x k = chgL l lo hi x := by
  unfold layK chgK
  by_cases h : lo < hi
  · rw [Int.min_eq_left (hk h)]; exact ⟨rfl, rfl⟩
  · rw [layL_empty x (show min hi (64 * k) ≤ lo by omega), layL_empty x (show hi ≤ lo by omega), chgL_eq, chgL_eq, cntI_empty _ _ (show min hi (64 * k) ≤ lo by omega), cntI_empty _ _ (show hi ≤ lo by omega)]; exact ⟨rfl, rfl⟩

/-- What holds between two words of a run that is counted. -/
structure CountAt (w0 : World) (bx : Nat) (c : Nat → Nat) (k : Nat) (W : World) : Prop where
  box : W.cell? ⟨bx, 0, none⟩ = some (.int .i64 (c k : Nat))
  free : W.frozen? ⟨bx, 0, none⟩ = false
  touch : Touch (fun i => i = bx) w0 W
end Go.Proofs.Ytlkifhoedfjlaaa
end

section
namespace Go.Proofs.Ytlkifhoedfjlaaa
open Go.RowKit Word

/-- A new vector of the bits l, apart from all that was there. -/
def NewVec (w : World) (l : List Bool) (e : Ending) (w' : World) : Prop :=
  ∃ p b, e = .returned (.tuple #[.pointer (some ⟨p, 0, none⟩), .int .i64 0]) ∧ Gr w w' ∧ Vec w' p b l ∧ w.heap.size ≤ p ∧ w.heap.size ≤ b
theorem infoU64 : (Try.prog.info? 32).map (fun i => (i.zero, i.size, i.bytes)) = some (some (.int .u64 0), 1, 8) := by kernel_rfl
theorem grownBy_touch {w w' : World} {row : Option Nat} (h : w.grownBy w' row) (S : Nat → Prop) (hS : ∀ k, row = some k → k < w.heap.size → S k) : Touch S w w' :=
  ⟨h.os, h.tape, h.output, h.size, fun k hk hn => h.block k hk (fun e => hn (hS k e.symm hk))⟩

theorem wordOf_none (n i : Nat) : wordOf (List.replicate n false) i = 0 :=
  (wordOf_eq (by decide) (fun j _ => by rw [Nat.zero_testBit]; simp [List.getD_eq_getElem?_getD, List.getElem?_replicate]; split <;> rfl)).symm
theorem made_words (n : Nat) : (madeCells #[.int .u64 0] n).toList = (List.range n).map fun _ => Value.int .u64 ((0 : Nat) : Int) := by
  unfold madeCells; simp [Nat.mod_one]
/-- A vector out of an owned row of words, and a new struct. -/
theorem vec_made {w1 : World} {l : List Bool} (n1 : 1 ≤ l.length) (n2 : l.length ≤ 1048576) {base T b k cap : Nat} {xs : List Value} {E : TypeId}
    (hown : w1.ownsRow base E 1 (.slice (some ⟨b, 0, none⟩) k cap) k xs) (hk : k = nw l) (hcap : cap ≤ maxLen) (hx : xs = (List.range (nw l)).map fun i => Value.int .u64 ((wordOf l i : Nat) : Int)) :
    Vec (w1.alloc (.cells #[.slice (some ⟨b, 0, none⟩) k cap, .int .i64 l.length] T)) w1.heap.size b l ∧ b < w1.heap.size := by
  obtain ⟨hlen, h | ⟨g, c, cur, e1, e2, e3, e4, e5, e6, e7⟩⟩ := hown
  · simp at h
  · simp only [Value.slice.injEq, Option.some.injEq, Addr.mk.injEq, and_true, true_and] at e1
    obtain ⟨rfl, rfl⟩ := e1
    have hb : b < w1.heap.size := by
      rcases Nat.lt_or_ge b w1.heap.size with h | h
      · exact h
      · rw [Array.getElem?_eq_none h] at e3; cases e3
    subst hk
    refine ⟨⟨by omega, by simp, by simp; omega, n1, n2, ⟨cap, e4, hcap, ?_⟩, ?_, ?_, ?_⟩, hb⟩
    · exact World.cell?_alloc_new ..
    · exact World.cell?_alloc_new ..
    · intro i hi
      rw [World.cell?_alloc_lt (h := hb)]
      unfold World.cell?
      simp only [e3]
      have : cur[i]? = xs[i]? := by
        rw [← e7, Nat.mul_one, List.getElem?_take, if_pos hi, Array.getElem?_toList]
      rw [if_neg (by simp), this, hx]
      simp [hi]
    · intro i
      rw [World.frozen?_alloc_old (h := by show b ≠ _; omega)]
      unfold World.frozen?
      simp only [e3]
      simp
theorem slice_of_own {w : World} {base : Nat} {e : TypeId} {size : Nat} {v : Value} {n : Nat} {xs : List Value} (h : w.ownsRow base e size v n xs) (hn : n ≠ 0) :
    ∃ g c, v = .slice (some ⟨g, 0, none⟩) n c ∧ base ≤ g ∧ n ≤ c ∧ c ≤ maxLen := by
  obtain ⟨_, ⟨_, h⟩ | ⟨g, c, cur, e1, e2, _, e4, e5, _⟩⟩ := h
  · exact absurd h hn
  · exact ⟨g, c, e1, e2, e4, e5⟩
/-- A row of the same words, apart from all that was there. -/
def NewRow (w : World) (l : List Bool) (e : Ending) (w' : World) : Prop :=
  ∃ g c, e = .returned (.slice (some ⟨g, 0, none⟩) (nw l) c) ∧ Gr w w' ∧ w.heap.size ≤ g ∧ c ≤ maxLen ∧
    w'.ownsRow w.heap.size 32 1 (.slice (some ⟨g, 0, none⟩) (nw l) c) (nw l) ((List.range (nw l)).map fun i => Value.int .u64 ((wordOf l i : Nat) : Int))
/-- A copy of a vector, apart from all that was there. -/
def NewCopy (w : World) (l : List Bool) (e : Ending) (w' : World) : Prop :=
  ∃ p b, e = .returned (.pointer (some ⟨p, 0, none⟩)) ∧ Gr w w' ∧ Vec w' p b l ∧ w.heap.size ≤ p ∧ w.heap.size ≤ b
end Go.Proofs.Ytlkifhoedfjlaaa
end

section
namespace Go.Proofs.Ytlkifhoedfjlaaa
open Go.RowKit Word

def live11 : List Bool := layL (List.replicate 100 false) 60 70 true
theorem live11_fill : chgL (List.replicate 100 false) 60 70 true = 10 := by decide +kernel
theorem live11_next : valN live11.length (nextL live11 65) = 65 ∧ decide (nextL live11 65 < live11.length) = true := by decide +kernel
theorem live11_last : valI (lastL live11 65) = 64 ∧ decide (0 ≤ lastL live11 65) = true := by decide +kernel
theorem live11_pick : valN live11.length (pickL live11 9) = 69 ∧ decide (pickL live11 9 < live11.length) = true := by decide +kernel

end Go.Proofs.Ytlkifhoedfjlaaa
end

section
namespace Go.Proofs.Ytlkifhoedfjlaaa
open Go.RowKit Word

/-- An Act: kind, A, B. -/
structure ActD where
  kind : Nat
  a : Int
  b : Int
def ActD.ok (x : ActD) : Prop := x.kind ≤ 255 ∧ -9223372036854775808 ≤ x.a ∧ x.a ≤ 9223372036854775807 ∧ -9223372036854775808 ≤ x.b ∧ x.b ≤ 9223372036854775807
/-- A slice of Acts lies in w. -/
def ActsAt (w : World) (A : Option Addr) (l : List ActD) : Prop :=
  ∀ i (h : i < l.length), l[i].ok ∧ ∃ b o : Nat, A = some ⟨b, o, none⟩ ∧ b < w.heap.size ∧
    w.cell? ⟨b, o + i * 3, none⟩ = some (.int .u8 l[i].kind) ∧ w.cell? ⟨b, o + i * 3 + 1, none⟩ = some (.int .i64 l[i].a) ∧ w.cell? ⟨b, o + i * 3 + 2, none⟩ = some (.int .i64 l[i].b)

theorem run_minB2 (P : Program) (ts : Array TypeId) (t : TypeId) (k : IntKind) (x y : Int) (w : World) : (Builtin.min_ ts t #[.int k x, .int k y]).run P w = .ok (.int k (min x y)) w := by
  simp only [Builtin.min_, List.foldlM]; simp [run_min2]
theorem run_maxB2 (P : Program) (ts : Array TypeId) (t : TypeId) (k : IntKind) (x y : Int) (w : World) : (Builtin.max_ ts t #[.int k x, .int k y]).run P w = .ok (.int k (max x y)) w := by
  simp only [Builtin.max_, List.foldlM]; simp [run_max2]
theorem run_minB3 (P : Program) (ts : Array TypeId) (t : TypeId) (k : IntKind) (x y z : Int) (w : World) : (Builtin.min_ ts t #[.int k x, .int k y, .int k z]).run P w = .ok (.int k (min (min x y) z)) w := by
  simp only [Builtin.min_, List.foldlM]; simp [run_min2]
theorem run_maxB3 (P : Program) (ts : Array TypeId) (t : TypeId) (k : IntKind) (x y z : Int) (w : World) : (Builtin.max_ ts t #[.int k x, .int k y, .int k z]).run P w = .ok (.int k (max (max x y) z)) w := by
  simp only [Builtin.max_, List.foldlM]; simp [run_max2]
theorem countL_add (l : List Bool) {a b c : Int} (h1 : a ≤ b) (h2 : b ≤ c) : ((countL l a b : Nat) : Int) + (countL l b c : Nat) = (countL l a c : Nat) := by
  rw [countL_eq, countL_eq, countL_eq]
  have := cnt_or (f := fun i => decide (a ≤ (i : Nat) ∧ ((i : Nat) : Int) < b) && at_ l i) (g := fun i => decide (b ≤ (i : Nat) ∧ ((i : Nat) : Int) < c) && at_ l i) (fun i => by
    by_cases h : ((i : Nat) : Int) < b
    · rw [decide_eq_false (p := b ≤ (i : Nat) ∧ ((i : Nat) : Int) < c) (by omega)]; simp
    · rw [decide_eq_false (p := a ≤ (i : Nat) ∧ ((i : Nat) : Int) < b) (by omega)]; simp) l.length
  unfold cntI
  rw [← Int.natCast_add, ← this]
  congr 1
  refine cnt_congr (fun i _ => ?_)
  by_cases h : ((i : Nat) : Int) < b
  · rw [decide_eq_false (p := b ≤ (i : Nat) ∧ ((i : Nat) : Int) < c) (by omega), show decide (a ≤ (i : Nat) ∧ ((i : Nat) : Int) < b) = decide (a ≤ (i : Nat) ∧ ((i : Nat) : Int) < c) from decide_eq_decide.2 (by omega)]; simp
  · rw [decide_eq_false (p := a ≤ (i : Nat) ∧ ((i : Nat) : Int) < b) (by omega), show decide (b ≤ (i : Nat) ∧ ((i : Nat) : Int) < c) = decide (a ≤ (i : Nat) ∧ ((i : Nat) : Int) < c) from decide_eq_decide.2 (by omega)]; simp
theorem countL_all (l : List Bool) {b : Int} (h : l.length ≤ b) : countL l 0 b = cnt (at_ l) l.length := by
  rw [countL_eq]; exact cnt_congr (fun i hi => by rw [decide_eq_true (by omega)]; simp)
theorem countL_upto (l : List Bool) {r : Nat} (h : r ≤ l.length) : countL l 0 (r : Int) = cnt (at_ l) r := by
  rw [countL_eq]
  unfold cntI
  rw [cnt_ext h (fun i h1 _ => by rw [decide_eq_false (by omega)]; rfl)]
  exact cnt_congr (fun i hi => by rw [decide_eq_true (by omega)]; simp)
theorem pick_lt_all {l : List Bool} {q : Nat} (h : q < cnt (at_ l) l.length) : pickL l q < l.length ∧ at_ l (pickL l q) = true ∧ cnt (at_ l) (pickL l q) = q := pickF_lt h
theorem pick_all_none {l : List Bool} {q : Nat} (h : cnt (at_ l) l.length ≤ q) : pickL l q = l.length := pickF_none h
/-- Behind a call that may have changed bits of the vector, and nothing else that was there. -/
def VecEnd (w : World) (p b n : Nat) (e : Ending) (w' : World) : Prop := ∃ (v : Int) (m : List Bool), e = .returned (.int .i64 v) ∧ m.length = n ∧ Vec w' p b m ∧ Touch (fun i => i = b) w w'
end Go.Proofs.Ytlkifhoedfjlaaa
end

section
namespace Go.Proofs.Ytlkifhoedfjlaaa
open Go.ChangeShapes Go.WideShapes Go.ChangeAt Go.RowKit Word

theorem cellsInt : Try.prog.cellsOf 3 = 1 := by kernel_rfl
theorem bd_i64 {n : Int} (h : (Lit.int .i64 n).wf = true) : -9223372036854775808 ≤ n ∧ n ≤ 9223372036854775807 := by
  simpa [Lit.wf, IntKind.min, IntKind.max, IntKind.signed, IntKind.bits] using h
theorem bd_u8 {n : Int} (h : (Lit.int .u8 n).wf = true) : 0 ≤ n ∧ n ≤ 255 := by
  simpa [Lit.wf, IntKind.min, IntKind.max, IntKind.signed, IntKind.bits] using h

theorem add_add_ (a : Addr) (i j : Nat) : (a.add i).add j = a.add (i + j) := by
  obtain ⟨b, o, s⟩ := a
  unfold Addr.add
  by_cases h1 : i = 0
  · subst h1; simp
  · by_cases h2 : j = 0
    · subst h2; simp
    · have : i + j ≠ 0 := by omega
      simp [h1, h2, Nat.add_assoc]
end Go.Proofs.Ytlkifhoedfjlaaa
end
