/- Part 2 of what PackingNobody leans on: my own lemmas, merged by shake.py. -/
import Derived.Test.YtbmidhlilafgeaaGreatDoorPackingNobodyA
import Derived.Deep.RegionWith
import Derived.WalkSpells
section
section
namespace Go.Proofs.YtbmidhlilafgeaaGreatDoor
open Go.RowKit Word

/-! What the loops have when k bools are done. -/
theorem nextL_at {l : List Bool} {a : Int} {k : Nat} (hn : ∀ i, i < k → ¬ (at_ l i = true ∧ a ≤ i)) (h : at_ l k = true) (ha : a ≤ k) : nextL l a = k ∧ nextL l a < l.length := by
  have hl := at_lt h
  have e : nextL l a = k := first_eq (by omega) (fun i hi => by
    have := hn i hi
    cases h1 : at_ l i with
    | false => rfl
    | true => simp [h1] at this; simp; omega) (fun _ => by simp [h]; omega)
  exact ⟨e, by omega⟩
theorem nextL_end {l : List Bool} {a : Int} (hn : ∀ i, i < l.length → ¬ (at_ l i = true ∧ a ≤ i)) : nextL l a = l.length :=
  first_eq (by omega) (fun i hi => by
    have := hn i hi
    cases h1 : at_ l i with
    | false => rfl
    | true => simp [h1] at this; simp; omega) (fun h => by omega)
theorem lastL_at {l : List Bool} {b : Int} {k : Nat} (hn : ∀ i : Nat, k < i → ¬ (at_ l i = true ∧ (i : Int) < b)) (h : at_ l k = true) (hb : (k : Int) < b) : lastL l b = k := by
  have hl := at_lt h
  refine last_eq (by omega) (by omega) (fun i hi _ => ?_) (fun _ => by simp [h]; omega)
  have := hn i (by omega)
  cases h1 : at_ l i with
  | false => rfl
  | true => simp [h1] at this; simp; omega
theorem lastL_end {l : List Bool} {b : Int} (hn : ∀ i : Nat, ¬ (at_ l i = true ∧ (i : Int) < b)) : lastL l b = -1 := by
  refine last_eq (by omega) (by omega) (fun i hi _ => ?_) (fun h => by omega)
  have := hn i
  cases h1 : at_ l i with
  | false => rfl
  | true => simp [h1] at this; simp; omega
end Go.Proofs.YtbmidhlilafgeaaGreatDoor
end

section
namespace Go.Proofs.YtbmidhlilafgeaaGreatDoor
open Go.RowKit Word

/-- A vector of the bits l: the struct in block p, the words in block b. -/
structure Vec (w : World) (p b : Nat) (l : List Bool) : Prop where
  ne : p ≠ b
  hp : p < w.heap.size
  hb : b < w.heap.size
  n1 : 1 ≤ l.length
  n2 : l.length ≤ 1048576
  c0 : ∃ cap, nw l ≤ cap ∧ cap ≤ maxLen ∧ w.cell? ⟨p, 0, none⟩ = some (.slice (some ⟨b, 0, none⟩) (nw l) cap)
  c1 : w.cell? ⟨p, 1, none⟩ = some (.int .i64 l.length)
  cw : ∀ i, i < nw l → w.cell? ⟨b, i, none⟩ = some (.int .u64 (wordOf l i : Nat))
  fw : ∀ i, w.frozen? ⟨b, i, none⟩ = false
theorem Vec.touch {S : Nat → Prop} {w w' : World} {p b : Nat} {l : List Bool} (h : Vec w p b l) (t : Touch S w w') (h1 : ¬ S p) (h2 : ¬ S b) : Vec w' p b l := by
  obtain ⟨cap, a1, a2, a3⟩ := h.c0
  exact ⟨h.ne, Nat.lt_of_lt_of_le h.hp t.size, Nat.lt_of_lt_of_le h.hb t.size, h.n1, h.n2, ⟨cap, a1, a2, by rw [t.cell h.hp h1]; exact a3⟩, by rw [t.cell h.hp h1]; exact h.c1,
    fun i hi => by rw [t.cell h.hb h2]; exact h.cw i hi, fun i => by rw [t.frozen h.hb h2]; exact h.fw i⟩
theorem Vec.gr {w w' : World} {p b : Nat} {l : List Bool} (h : Vec w p b l) (t : Gr w w') : Vec w' p b l := h.touch (t.touch (fun _ => False)) (fun h => h) (fun h => h)
/-- What checking an index tells. -/
def codeOf (l : List Bool) (i : Int) : Int := if i < 0 ∨ (l.length : Int) ≤ i then 11 else 0
theorem nw_bd {l : List Bool} (h1 : 1 ≤ l.length) (h2 : l.length ≤ 1048576) : 1 ≤ nw l ∧ nw l ≤ 16384 := by unfold nw; omega
theorem div_nw {l : List Bool} {i : Nat} (h : i < l.length) : i / 64 < nw l := by unfold nw; omega

set_option maxHeartbeats 400000 in
theorem check_any {w : World} {p b : Nat} {l : List Bool} (hV : Vec w p b l) (i : Int) :
    Calls Tryz.prog 220 #[.pointer (some ⟨p, 0, none⟩), .int .i64 i] w fun e w' => e = .returned (.int .i64 (codeOf l i)) ∧ w = w' := by
  have c1 := hV.c1
  have n2 := hV.n2
  by_cases h0 : i < 0
  · go_enter Tryz.func220, Tryz.ntmps220
    go_wp2
    go_ret
    exact ⟨ret_int (by unfold codeOf; rw [if_pos (by omega)]), rfl⟩
  · by_cases h1 : (l.length : Int) ≤ i
    · go_enter Tryz.func220, Tryz.ntmps220
      go_wp2
      go_ret
      exact ⟨ret_int (by unfold codeOf; rw [if_pos (by omega)]), rfl⟩
    · go_enter Tryz.func220, Tryz.ntmps220
      go_wp2
      go_ret
      exact ⟨ret_int (by unfold codeOf; rw [if_neg (by omega)]), rfl⟩
theorem len_vec {w : World} {p b : Nat} {l : List Bool} (hV : Vec w p b l) :
    Calls Tryz.prog 194 #[.pointer (some ⟨p, 0, none⟩)] w fun e w' => e = .returned (.int .i64 l.length) ∧ w = w' := by
  have c1 := hV.c1
  go_enter Tryz.func194, Tryz.ntmps194
  go_wp2
  go_ret
  exact ⟨rfl, rfl⟩
theorem testBit_code (x j : Nat) (hx : x < 18446744073709551616) : (bits .and .u64 ((x : Int) / 2 ^ j) 1 == 1) = x.testBit j := by
  have e : ((x : Int) / 2 ^ j) = ((x / 2 ^ j : Nat) : Int) := by simp
  have h := and64 (x / 2 ^ j) 1 (Nat.lt_of_le_of_lt (Nat.div_le_self _ _) hx) (by decide)
  rw [e, show (1 : Int) = ((1 : Nat) : Int) from rfl, h, Nat.and_one_is_mod, Nat.testBit_eq_decide_div_mod_eq]
  by_cases h1 : x / 2 ^ j % 2 = 1
  · simp [h1]
  · have : x / 2 ^ j % 2 = 0 := by omega
    simp [this]

set_option maxHeartbeats 400000 in
theorem test_any {w : World} {p b : Nat} {l : List Bool} (hV : Vec w p b l) (i : Int) :
    Calls Tryz.prog 198 #[.pointer (some ⟨p, 0, none⟩), .int .i64 i] w fun e w' => e = .returned (.bool (decide (0 ≤ i) && at_ l i.toNat)) ∧ w = w' := by
  by_cases hin : 0 ≤ i ∧ i < l.length
  · obtain ⟨k, rfl⟩ : ∃ k : Nat, i = k := ⟨i.toNat, by omega⟩
    have hk : k < l.length := by omega
    have hc := hV.cw _ (div_nw hk)
    obtain ⟨cap, a1, a2, c0⟩ := hV.c0
    have e0 : codeOf l (k : Int) = 0 := by unfold codeOf; rw [if_neg (by omega)]
    have n2 := hV.n2
    have hd := div_nw hk
    have hnb := nw_bd hV.n1 hV.n2
    have HV := hid hV
    clear hin
    go_enter Tryz.func198, Tryz.ntmps198
    go_wp2_with (go_at_call 220; refine (check_any HV.out _).mono ?_; rintro e w' ⟨rfl, rfl⟩)
    go_ret
    refine ⟨ret_bool ?_, rfl⟩
    rw [testBit_code _ _ (wordOf_lt l _), testBit_wordOf, decide_eq_true (show k % 64 < 64 by omega), decide_eq_true (show (0 : Int) ≤ k by omega), Int.toNat_natCast]
    simp only [Bool.true_and, at_]
    rw [show 64 * (k / 64) + k % 64 = k by omega]
  · have e0 : (decide (0 ≤ i) && at_ l i.toNat) = false := by
      by_cases h : 0 ≤ i
      · rw [at_out (by omega)]; simp
      · simp [h]
    rw [e0]
    have e1 : codeOf l i = 11 := by unfold codeOf; rw [if_pos (by omega)]
    have HV := hid hV
    clear hin e0
    go_enter Tryz.func198, Tryz.ntmps198
    go_wp2_with (go_at_call 220; refine (check_any HV.out _).mono ?_; rintro e w' ⟨rfl, rfl⟩)
    go_ret
    exact ⟨rfl, rfl⟩

theorem pow_code (j : Nat) : IntKind.u64.wrap (2 ^ (j % 64)) = ((2 ^ (j % 64) : Nat) : Int) := by
  have := wrap_u64_nat (2 ^ (j % 64)) (two_pow_lt64 j)
  rw [← this]; simp
theorem andNot64 (a b : Nat) (ha : a < 18446744073709551616) : bits .andNot .u64 (a : Int) (b : Int) = ((andN a b : Nat) : Int) := by
  have h1 : (BitVec.ofInt 64 (a : Int)).toNat = a := by
    rw [BitVec.ofInt_natCast, BitVec.toNat_ofNat]; exact Nat.mod_eq_of_lt (by omega)
  have h2 : (BitVec.ofInt 64 (b : Int)).toNat = b % 18446744073709551616 := by
    rw [BitVec.ofInt_natCast, BitVec.toNat_ofNat]
  show IntKind.u64.wrap ((BitVec.ofInt 64 (a : Int) &&& ~~~ BitVec.ofInt 64 (b : Int)).toNat : Int) = _
  rw [BitVec.toNat_and, BitVec.toNat_not, h1, h2]
  have : 2 ^ 64 - 1 - b % 18446744073709551616 = 18446744073709551615 - b % 18446744073709551616 := rfl
  rw [this]
  exact wrap_u64_nat _ (andN_lt a b ha)
theorem Vec.set {w : World} {p b : Nat} {l : List Bool} (h : Vec w p b l) (k : Nat) (x : Bool) (hk : k < l.length) {y : Nat} (hy : y = wordOf (l.set k x) (k / 64)) :
    Vec (w.setCell ⟨b, k / 64, none⟩ (.int .u64 (y : Nat))) p b (l.set k x) ∧ Touch (fun i => i = b) w (w.setCell ⟨b, k / 64, none⟩ (.int .u64 (y : Nat))) := by
  have t : Touch (fun i => i = b) w (w.setCell ⟨b, k / 64, none⟩ (.int .u64 (y : Nat))) := (Touch.refl (fun i => i = b) w).setCell (a := ⟨b, k / 64, none⟩) (fun _ => rfl) _
  refine ⟨⟨h.ne, Nat.lt_of_lt_of_le h.hp t.size, Nat.lt_of_lt_of_le h.hb t.size, by simp [h.n1], by simp [h.n2], ?_, ?_, ?_, ?_⟩, t⟩
  · obtain ⟨cap, a1, a2, a3⟩ := h.c0
    exact ⟨cap, by rw [nw_set]; exact a1, a2, by rw [t.cell h.hp h.ne, a3, nw_set]⟩
  · rw [t.cell h.hp h.ne, h.c1, List.length_set]
  · intro i hi
    rw [nw_set] at hi
    by_cases e : i = k / 64
    · subst e
      rw [hy]
      exact World.cell?_setCell_same (h := h.cw _ hi) ..
    · rw [World.cell?_setCell_other (h := by intro e2; injection e2 with _ e3; omega), h.cw i hi, wordOf_set_other l k i x hk e]
  · intro i; rw [World.frozen?_setCell]; exact h.fw i

set_option maxHeartbeats 400000 in
theorem set_in {w : World} {p b : Nat} {l : List Bool} (hV : Vec w p b l) (k : Nat) (hk : k < l.length) :
    Calls Tryz.prog 195 #[.pointer (some ⟨p, 0, none⟩), .int .i64 k] w fun e w' => e = .returned (.int .i64 0) ∧ Touch (fun i => i = b) w w' ∧ Vec w' p b (l.set k true) := by
  have hc := hV.cw _ (div_nw hk)
  have hf := hV.fw (k / 64)
  obtain ⟨cap, a1, a2, c0⟩ := hV.c0
  have e0 : codeOf l (k : Int) = 0 := by unfold codeOf; rw [if_neg (by omega)]
  have n2 := hV.n2
  have hd := div_nw hk
  have hnb := nw_bd hV.n1 hV.n2
  have HV := hid hV
  go_enter Tryz.func195, Tryz.ntmps195
  go_wp2_with (go_at_call 220; refine (check_any HV.out _).mono ?_; rintro e w' ⟨rfl, rfl⟩)
  go_region
  have hv : bits BinOp.or IntKind.u64 (wordOf l (k / 64)) (IntKind.u64.wrap (2 ^ (k % 64))) = ((wordOf l (k / 64) ||| 2 ^ (k % 64) : Nat) : Int) := by
    rw [pow_code]; exact bits_or_u64_nat _ _ (wordOf_lt _ _) (two_pow_lt64 k)
  rw [hv]
  have HV2 := hV.set k true hk (wordOf_set_on l k hk).symm
  clear hv
  go_wp2
  go_ret
  exact ⟨rfl, HV2.2.drew, HV2.1.gr ((Gr.refl _).drew)⟩
end Go.Proofs.YtbmidhlilafgeaaGreatDoor
end

section
namespace Go.Proofs.YtbmidhlilafgeaaGreatDoor
open Go.RowKit Word

theorem ret2 {a b c d : Value} (h : a = c) (h2 : b = d) : Ending.returned (.tuple #[a, b]) = .returned (.tuple #[c, d]) := by rw [h, h2]
theorem vint {k : IntKind} {a b : Int} (h : a = b) : Value.int k a = .int k b := by rw [h]
theorem vbool {a b : Bool} (h : a = b) : Value.bool a = .bool b := by rw [h]

set_option maxRecDepth 100000 in
set_option maxHeartbeats 800000 in
theorem next_vec {w : World} {p b : Nat} {l : List Bool} (hV : Vec w p b l) (hT : TabAt w) (i : Int) :
    Calls Tryz.prog 191 #[.pointer (some ⟨p, 0, none⟩), .int .i64 i] w fun e w' =>
      e = .returned (.tuple #[.int .i64 (valN l.length (nextL l i)), .bool (decide (nextL l i < l.length))]) ∧ w = w' := by
  have c1 := hV.c1
  have n2 := hV.n2
  by_cases hout : (l.length : Int) ≤ i
  · have e := hid (next_out hout)
    go_enter Tryz.func191, Tryz.ntmps191
    go_wp2
    go_ret2
    exact ⟨ret2 (vint (by rw [e.out, valN_no (by omega)])) (vbool (by rw [e.out]; simp)), rfl⟩
  · obtain ⟨a, ha⟩ : ∃ a : Nat, a = i.toNat := ⟨_, rfl⟩
    rw [next_toNat l i, ← ha]
    have hal : a < l.length := by have := hV.n1; omega
    obtain ⟨cap, a1, a2, c0⟩ := hV.c0
    have hnb := nw_bd hV.n1 hV.n2
    have hcw := hV.cw
    have HC := hid hcw
    have HT := hid hT
    clear hT hV hcw
    go_enter Tryz.func191, Tryz.ntmps191
    go_upto_region 3 with (fail)
    go_cut [1] from 9 (fun v w' => w' = w ∧ v = .int .i64 a)
    case first =>
      by_cases hneg : i < 0
      · go_wp2
        all_goals (go_meet; case rel => exact ⟨rfl, vint (by omega)⟩)
      · go_wp2
        all_goals (go_meet; case rel => exact ⟨rfl, vint (by omega)⟩)
    case rest =>
      obtain ⟨rfl, rfl⟩ := hcut
      have hal' := div_nw hal
      have HN := hid (fun k (h : nw l ≤ k) => fun fr (h2 : noneTo l a (64 * k + fr)) => next_none h2 h)
      clear hout ha c1 n2 a1 a2
      generalize nw l = m at *
      have hm : m ≤ 16384 := hnb.2
      clear hnb
      go_wp2
      go_loop [6, 7] (fun k fr => ∃ k' fr' : Nat, k' ≤ m ∧ fr' < 64 ∧ a ≤ 64 * k' + fr' ∧ Hid (noneTo l a (64 * k' + fr')) ∧ k = .int .i64 k' ∧ fr = .int .i64 fr') (fun k _ => m - (intOf k).toNat)
      case atStart => exact ⟨a / 64, a % 64, by omega, by omega, by omega, ⟨next_start l a⟩, by go_num, by go_num⟩
      case round =>
        obtain ⟨k, fr, hk, hfr, hak, hno, rfl, rfl⟩ := hrel
        by_cases hlt : k < m
        · have hc := HC.out k hlt
          have HI := hid (next_hit hno.out hak)
          have MI := hid (next_miss hno.out (by omega))
          have hw := hid (wordOf_lt l k)
          have ht64 := tz_le (wordOf l k &&& runW fr 64)
          generalize hq : tz (wordOf l k &&& runW fr 64) = q at *
          have HQ := hid hq
          clear hq hno
          go_wp2_with (go_at_call 214; refine (next_any _ hw.out _ _ HT.out).mono ?_; rintro e w' ⟨rfl, rfl⟩; rw [HQ.out])
          · have h : q < 64 := by omega
            go_ret2
            obtain ⟨h1, h2⟩ := HI.out h
            exact ⟨ret2 (vint (by rw [valN_yes h2, h1]; omega)) (vbool (by simp [h2])), rfl⟩
          · go_round
            case rel => exact ⟨k + 1, 0, by omega, by omega, by omega, ⟨MI.out (by omega)⟩, by go_num, by go_num⟩
            case measure => simp [intOf]; omega
        · have NO := hid (HN.out k (by omega) fr hno.out)
          have hlt' : m ≤ k := by omega
          clear hno hlt
          go_wp2
          go_ret2
          exact ⟨ret2 (vint (by rw [NO.out, valN_no (by omega)])) (vbool (by rw [NO.out]; simp)), rfl⟩

set_option maxRecDepth 100000 in
set_option maxHeartbeats 800000 in
theorem last_vec {w : World} {p b : Nat} {l : List Bool} (hV : Vec w p b l) (i : Int) :
    Calls Tryz.prog 167 #[.pointer (some ⟨p, 0, none⟩), .int .i64 i] w fun e w' =>
      e = .returned (.tuple #[.int .i64 (valI (lastL l i)), .bool (decide (0 ≤ lastL l i))]) ∧ w = w' := by
  have c1 := hV.c1
  have n2 := hV.n2
  by_cases hout : i ≤ 0
  · have e := hid (last_low (l := l) hout)
    go_enter Tryz.func167, Tryz.ntmps167
    go_wp2
    go_ret2
    exact ⟨ret2 (vint (by rw [e.out]; rfl)) (vbool (by rw [e.out]; simp)), rfl⟩
  · obtain ⟨a, ha⟩ : ∃ a : Nat, (a : Int) = min i l.length := ⟨(min i l.length).toNat, by omega⟩
    rw [last_min l i, ← ha]
    have h1 : 1 ≤ a := by have := hV.n1; omega
    have hal : a ≤ l.length := by omega
    obtain ⟨cap, a1, a2, c0⟩ := hV.c0
    have hnb := nw_bd hV.n1 hV.n2
    have hcw := hV.cw
    have HC := hid hcw
    clear hV hcw
    go_enter Tryz.func167, Tryz.ntmps167
    go_upto_region 3 with (fail)
    go_cut [1] from 8 (fun v w' => w' = w ∧ v = .int .i64 a)
    case first =>
      by_cases hneg : i < l.length
      · go_wp2
        all_goals (go_meet; case rel => exact ⟨rfl, vint (by omega)⟩)
      · go_wp2
        all_goals (go_meet; case rel => exact ⟨rfl, vint (by omega)⟩)
    case rest =>
      obtain ⟨rfl, rfl⟩ := hcut
      have hal' : (a - 1) / 64 < nw l := div_nw (by omega)
      have hst : noneFrom l (a : Int) (64 * (((a - 1) / 64 : Nat) : Int) + 64) := fun i h1 h2 => by omega
      have HS := hid hst
      have a64 : a ≤ 1048576 := by omega
      clear hout ha c1 n2 a1 a2 hst
      generalize nw l = m at *
      have hm : (m : Int) ≤ 16384 := by have := hnb.2; omega
      clear hnb
      go_wp2
      go_loop [6] (fun k => ∃ k' : Nat, k' ≤ m ∧ Hid (noneFrom l a (64 * ((k' : Int) - 1) + 64)) ∧ k = .int .i64 ((k' : Int) - 1)) (fun k => (intOf k + 1).toNat)
      case atStart => exact ⟨(a - 1) / 64 + 1, by omega, ⟨by have := HS.out; rwa [show 64 * ((((a - 1) / 64 + 1 : Nat) : Int) - 1) + 64 = 64 * (((a - 1) / 64 : Nat) : Int) + 64 by omega]⟩, by go_num⟩
      case round =>
        obtain ⟨k', hk, hno, rfl⟩ := hrel
        cases k' with
        | zero =>
          have NO := hid (last_none hno.out (by omega))
          clear hno
          go_wp2
          go_ret2
          exact ⟨ret2 (vint (by rw [NO.out]; rfl)) (vbool (by rw [NO.out]; simp)), rfl⟩
        | succ k =>
          have hc := HC.out k (by omega)
          have hno2 : noneFrom l a (64 * (k : Int) + 64) := by have := hno.out; rwa [show ((k + 1 : Nat) : Int) - 1 = k by omega] at this
          rw [show ((k + 1 : Nat) : Int) - 1 = k by omega]
          have HI := hid (last_hit hno2)
          have MI := hid (last_miss hno2)
          have hw := hid (wordOf_lt l k)
          have ht64 := len_bd (wordOf l k &&& runW 0 ((a : Int) - 64 * k))
          generalize hq : len (wordOf l k &&& runW 0 ((a : Int) - 64 * k)) = q at *
          have HQ := hid hq
          clear hq hno hno2
          go_wp2_with (go_at_call 202; refine (last_any _ hw.out _ _).mono ?_; rintro e w' ⟨rfl, rfl⟩; rw [HQ.out])
          · have h : 0 ≤ q - 1 := by omega
            go_ret2
            have h1 := HI.out h
            exact ⟨ret2 (vint (by rw [h1]; unfold valI; rw [if_pos (by omega)])) (vbool (by rw [h1]; simp; omega)), rfl⟩
          · go_round
            case rel => exact ⟨k, by omega, ⟨by have := MI.out (by omega); rwa [show 64 * ((k : Int) - 1) + 64 = 64 * (k : Int) by omega]⟩, by go_num⟩
            case measure => simp [intOf]

end Go.Proofs.YtbmidhlilafgeaaGreatDoor
end

section
namespace Go.Proofs.YtbmidhlilafgeaaGreatDoor
open Go.RowKit Word

def EachEnd (I : Nat → World → Prop) (lo : Nat) (hi : Int) (W : World) : Prop := ∃ k, lo / 64 ≤ k ∧ ((lo : Int) < hi → hi ≤ 64 * k) ∧ I k W
set_option maxRecDepth 100000 in
set_option maxHeartbeats 1600000 in
theorem each_any (g : FuncId) (bx : Addr) (p b n m c : Nat) (I : Nat → World → Prop)
    (hg : ∀ args W, (callFunc g args).run Tryz.prog W = .ok (.enter g args) W)
    (hI : ∀ k W, I k W → W.cell? ⟨p, 0, none⟩ = some (.slice (some ⟨b, 0, none⟩) m c) ∧ W.cell? ⟨p, 1, none⟩ = some (.int .i64 n))
    (hD : ∀ k W d, I k W → I k (W.drewN d))
    (hm : n ≤ 64 * m) (hn : (n : Int) ≤ 1048576) (f t : Int) (hf64 : f ≤ 9223372036854775807) (lo : Nat) (hlo : (lo : Int) = max f 0) (hi : Int) (hhi : hi = min t n)
    (hstep : ∀ k W, lo / 64 ≤ k → (64 * k : Int) < hi → (lo : Int) < hi → I k W →
      Calls Tryz.prog g #[.pointer (some ⟨b, k, none⟩), .int .u64 (runW ((lo : Int) - 64 * k) (hi - 64 * k) : Nat), .pointer (some bx)] W (fun e W' => e = .returned (.tuple #[]) ∧ I (k + 1) W'))
    (w : World) (h0 : I (lo / 64) w) :
    Calls Tryz.prog 215 #[.pointer (some ⟨p, 0, none⟩), .int .i64 f, .int .i64 t, .func (.func g) #[] #[.pointer (some bx)]] w fun e W' =>
      e = .returned (.tuple #[]) ∧ EachEnd I lo hi W' := by
  obtain ⟨c0, c1⟩ := hI _ _ h0
  have HI := hid hI
  have HD := hid hD
  have HS := hid hstep
  have H0 := hid h0
  clear hI hD hstep h0
  go_enter Tryz.func215, Tryz.ntmps215
  go_upto_region 1 with (fail)
  go_cut [1, 2] from 9 (fun u v w' => u = .int .i64 lo ∧ v = .int .i64 hi ∧ ∃ d, w' = w.drewN d)
  case first =>
    have hc1 : f < 0 ∨ 0 ≤ f := by omega
    have hc2 : t < n ∨ (n : Int) ≤ t := by omega
    rcases hc1 with hf | hf <;> rcases hc2 with ht | ht
    all_goals
      go_wp2
      go_region
    all_goals go_wp2
    all_goals (go_meet; case rel => exact ⟨vint (by omega), vint (by omega), 1, rfl⟩)
  case rest =>
    obtain ⟨rfl, rfl, d, rfl⟩ := hcut
    have H1 := hid (HD.out _ _ d H0.out)
    have hhi2 : hi ≤ n := by omega
    have hlo2 : (0 : Int) ≤ lo := by omega
    have hlo3 : (lo : Int) ≤ 9223372036854775807 := by omega
    clear hhi hlo c0 c1 H0
    by_cases hlt : (lo : Int) < hi
    · have hln : (lo : Int) < 1048576 := by omega
      have hin : hi ≤ 1048576 := by omega
      have hpos : 1 ≤ hi := by omega
      have hm2 : hi ≤ 64 * m := by omega
      clear hm hn hhi2
      go_upto_region 2 with (fail)
      go_wp2
      go_loopw [8] (fun i W => ∃ k : Nat, lo / 64 ≤ k ∧ Hid (I k W) ∧ i = .int .i64 k) (fun i _ => (hi + 64 - 64 * intOf i).toNat)
      case atStart => exact ⟨lo / 64, by omega, H1, by go_num⟩
      case round =>
        obtain ⟨k, hk, hIk, rfl⟩ := hrel
        by_cases hkk : (64 * k : Int) < hi
        · have hle : (k : Int) ≤ (hi - 1) / 64 := by omega
          have hkm : k < m := by omega
          obtain ⟨c0, c1⟩ := HI.out _ _ hIk.out
          have HC := hid (HS.out k wr.drew hk hkk hlt (HD.out _ _ 1 hIk.out))
          go_upto_region 5 with (fail)
          have S1 := hid (IntWalk.i64_in (64 * (k : Int)) (by omega))
          have S2 := hid (IntWalk.i64_in ((lo : Int) - 64 * (k : Int)) (by omega))
          have S3 := hid (IntWalk.i64_in (hi - 64 * (k : Int)) (by omega))
          go_region_with (first
            | (go_at_call 224; rw [S1.out, S2.out, S3.out]; refine (run_any _ _ _).mono ?_; rintro e w' ⟨rfl, rfl⟩)
            | (refine HC.out.mono ?_; rintro e W2 ⟨rfl, h2⟩))
          all_goals
            go_wp2
            go_roundw
            case rel => exact ⟨k + 1, by omega, ⟨h2⟩, by go_num⟩
            case measure => simp [intOf]; omega
        · have hle : ¬ (k : Int) ≤ (hi - 1) / 64 := by omega
          go_wp2
          go_end0
          exact ⟨rfl, k, hk, fun _ => by omega, hIk.out⟩
    · have hlw : (lo : Int) ≤ 9223372036854775807 := hlo3
      have hlw2 : ¬ (lo : Int) < hi := hlt
      have HLT := hid hlt
      clear hm hn
      go_wp2
      go_loopw [8] (fun i W => W = w.drewN d ∧ i = .int .i64 (lo / 64 : Nat)) (fun _ _ => 0)
      case atStart => exact ⟨rfl, by go_num⟩
      case round =>
        obtain ⟨rfl, rfl⟩ := hrel
        go_wp2
        go_end0
        exact ⟨rfl, lo / 64, Nat.le_refl _, fun h => absurd h (by have := HLT.out; omega), H1.out⟩
end Go.Proofs.YtbmidhlilafgeaaGreatDoor
end

section
namespace Go.Proofs.YtbmidhlilafgeaaGreatDoor
open Go.RowKit Word

set_option maxRecDepth 100000 in
set_option maxHeartbeats 1600000 in
theorem fill1_any (w : World) (b k x m : Nat) (bx : Nat) (n : Int) (hx : x < 18446744073709551616) (hm : m < 18446744073709551616)
    (hc : w.cell? ⟨b, k, none⟩ = some (.int .u64 x)) (hf : w.frozen? ⟨b, k, none⟩ = false) (hb : w.cell? ⟨bx, 0, none⟩ = some (.int .i64 n)) (hfb : w.frozen? ⟨bx, 0, none⟩ = false) (hne : b ≠ bx) (hn0 : 0 ≤ n) (hn : n ≤ 1048576) :
    Calls Tryz.prog 216 #[.pointer (some ⟨b, k, none⟩), .int .u64 m, .pointer (some ⟨bx, 0, none⟩)] w fun e w' =>
      e = .returned (.tuple #[]) ∧ ∃ d, w' = ((w.setCell ⟨bx, 0, none⟩ (.int .i64 (n + pc (andN m x) : Int))).setCell ⟨b, k, none⟩ (.int .u64 (x ||| m : Nat))).drewN d := by
  have KA := hid (andNot64 m x hm)
  have KO := hid (bits_or_u64_nat x m hx hm)
  have HL := hid (andN_lt m x hm)
  have HX := hid (and_all (andN m x) (andN_lt m x hm))
  have hp := pc_le (andN m x)
  have HW := hid (IntWalk.i64_in (n + pc (andN m x)) (by omega))
  clear hx hm
  go_enter Tryz.func216, Tryz.ntmps216
  go_upto_region 0 with (fail)
  go_region_with (go_at_call 217; rw [KA.out]; refine (count_any _ HL.out _ _ _).mono ?_; rintro e w' ⟨rfl, rfl⟩; rw [HX.out])
  all_goals
    rw [HW.out]
    go_wp2
    rw [KO.out]
    go_end0
    exact ⟨rfl, 1, rfl⟩

set_option maxRecDepth 100000 in
set_option maxHeartbeats 1600000 in
theorem wipe1_any (w : World) (b k x m : Nat) (bx : Nat) (n : Int) (hx : x < 18446744073709551616) (hm : m < 18446744073709551616)
    (hc : w.cell? ⟨b, k, none⟩ = some (.int .u64 x)) (hf : w.frozen? ⟨b, k, none⟩ = false) (hb : w.cell? ⟨bx, 0, none⟩ = some (.int .i64 n)) (hfb : w.frozen? ⟨bx, 0, none⟩ = false) (hne : b ≠ bx) (hn0 : 0 ≤ n) (hn : n ≤ 1048576) :
    Calls Tryz.prog 225 #[.pointer (some ⟨b, k, none⟩), .int .u64 m, .pointer (some ⟨bx, 0, none⟩)] w fun e w' =>
      e = .returned (.tuple #[]) ∧ ∃ d, w' = ((w.setCell ⟨bx, 0, none⟩ (.int .i64 (n + pc (m &&& x) : Int))).setCell ⟨b, k, none⟩ (.int .u64 (andN x m : Nat))).drewN d := by
  have KA := hid (and64 m x hm hx)
  have KO := hid (andNot64 x m hx)
  have HL := hid (and_lt m x hm)
  have HX := hid (and_all (m &&& x) (and_lt m x hm))
  have hp := pc_le (m &&& x)
  have HW := hid (IntWalk.i64_in (n + pc (m &&& x)) (by omega))
  clear hx hm
  go_enter Tryz.func225, Tryz.ntmps225
  go_upto_region 0 with (fail)
  go_region_with (go_at_call 217; rw [KA.out]; refine (count_any _ HL.out _ _ _).mono ?_; rintro e w' ⟨rfl, rfl⟩; rw [HX.out])
  all_goals
    rw [HW.out]
    go_wp2
    rw [KO.out]
    go_end0
    exact ⟨rfl, 1, rfl⟩
set_option maxRecDepth 100000 in
set_option maxHeartbeats 1600000 in
theorem count1_any (w : World) (b k x m : Nat) (bx : Nat) (n : Int) (hx : x < 18446744073709551616) (hm : m < 18446744073709551616)
    (hc : w.cell? ⟨b, k, none⟩ = some (.int .u64 x)) (hb : w.cell? ⟨bx, 0, none⟩ = some (.int .i64 n)) (hfb : w.frozen? ⟨bx, 0, none⟩ = false) (hn0 : 0 ≤ n) (hn : n ≤ 1048576) :
    Calls Tryz.prog 232 #[.pointer (some ⟨b, k, none⟩), .int .u64 m, .pointer (some ⟨bx, 0, none⟩)] w fun e w' =>
      e = .returned (.tuple #[]) ∧ ∃ d, w' = (w.setCell ⟨bx, 0, none⟩ (.int .i64 (n + pc (m &&& x) : Int))).drewN d := by
  have KA := hid (and64 m x hm hx)
  have HL := hid (and_lt m x hm)
  have HX := hid (and_all (m &&& x) (and_lt m x hm))
  have hp := pc_le (m &&& x)
  have HW := hid (IntWalk.i64_in (n + pc (m &&& x)) (by omega))
  clear hx hm
  go_enter Tryz.func232, Tryz.ntmps232
  go_upto_region 0 with (fail)
  go_region_with (go_at_call 217; rw [KA.out]; refine (count_any _ HL.out _ _ _).mono ?_; rintro e w' ⟨rfl, rfl⟩; rw [HX.out])
  all_goals
    rw [HW.out]
    go_wp2
    go_end0
    exact ⟨rfl, 1, rfl⟩
end Go.Proofs.YtbmidhlilafgeaaGreatDoor
end

section
namespace Go.Proofs.YtbmidhlilafgeaaGreatDoor
open Go.RowKit Word

/-- A vector, with one word and the counter's box written. -/
theorem Vec.write {w : World} {p b bx : Nat} {l m : List Bool} (h : Vec w p b l) (k : Nat) (hk : k < nw l) (hl : m.length = l.length) (hw : ∀ i, i ≠ k → wordOf l i = wordOf m i) {y : Nat} (hy : y = wordOf m k) (hbp : bx ≠ p) (hbb : bx ≠ b) (v : Value) (d : Nat) :
    Vec (((w.setCell ⟨bx, 0, none⟩ v).setCell ⟨b, k, none⟩ (.int .u64 (y : Nat))).drewN d) p b m := by
  have t0 : Touch (fun i => i = bx) w (w.setCell ⟨bx, 0, none⟩ v) := (Touch.refl (fun i => i = bx) w).setCell (a := ⟨bx, 0, none⟩) (fun _ => rfl) _
  have h0 := h.touch t0 (fun e => hbp e.symm) (fun e => hbb e.symm)
  generalize w.setCell ⟨bx, 0, none⟩ v = w1 at *
  have hnw : nw m = nw l := by unfold nw; rw [hl]
  have t : Touch (fun i => i = b) w1 (w1.setCell ⟨b, k, none⟩ (.int .u64 (y : Nat))) := (Touch.refl (fun i => i = b) w1).setCell (a := ⟨b, k, none⟩) (fun _ => rfl) _
  refine Vec.gr ⟨h.ne, Nat.lt_of_lt_of_le h0.hp t.size, Nat.lt_of_lt_of_le h0.hb t.size, by rw [hl]; exact h.n1, by rw [hl]; exact h.n2, ?_, ?_, ?_, ?_⟩ ((Gr.refl _).drewN d)
  · obtain ⟨cap, a1, a2, a3⟩ := h0.c0
    exact ⟨cap, by rw [hnw]; exact a1, a2, by rw [t.cell h0.hp h.ne, a3, hnw]⟩
  · rw [t.cell h0.hp h.ne, h0.c1, hl]
  · intro i hi
    rw [hnw] at hi
    by_cases e : i = k
    · subst e
      rw [hy]
      exact World.cell?_setCell_same (h := h0.cw _ hi) ..
    · rw [World.cell?_setCell_other (h := by intro e2; injection e2 with _ e3; omega), h0.cw i hi, hw i e]
  · intro i; rw [World.frozen?_setCell]; exact h0.fw i

/-- What holds between two words of a run: so much is done, so many are counted in the box. -/
structure LayAt (w0 : World) (p b bx : Nat) (c : Nat → Nat) (m : Nat → List Bool) (k : Nat) (W : World) : Prop where
  vec : Vec W p b (m k)
  box : W.cell? ⟨bx, 0, none⟩ = some (.int .i64 (c k : Nat))
  free : W.frozen? ⟨bx, 0, none⟩ = false
  ne : b ≠ bx
  np : bx ≠ p
  lt : bx < W.heap.size
  touch : Touch (fun i => i = b ∨ i = bx) w0 W
theorem LayAt.drewN {w0 : World} {p b bx : Nat} {c : Nat → Nat} {m : Nat → List Bool} {k : Nat} {W : World} (h : LayAt w0 p b bx c m k W) (d : Nat) : LayAt w0 p b bx c m k (W.drewN d) :=
  ⟨h.vec.gr ((Gr.refl W).drewN d), h.box, h.free, h.ne, h.np, h.lt, h.touch.drewN d⟩

theorem call_fill1 (args : Array Value) (W : World) : (callFunc 216 args).run Tryz.prog W = .ok (.enter 216 args) W := by kernel_rfl
theorem call_wipe1 (args : Array Value) (W : World) : (callFunc 225 args).run Tryz.prog W = .ok (.enter 225 args) W := by kernel_rfl
theorem call_count1 (args : Array Value) (W : World) : (callFunc 232 args).run Tryz.prog W = .ok (.enter 232 args) W := by kernel_rfl

/-- The box of the counter, and all there is when the run begins. -/
theorem box_start {w : World} {p b : Nat} {l : List Bool} (hV : Vec w p b l) (m : Nat → List Bool) (c : Nat → Nat) (k : Nat) (hm : m k = l) (hc : c k = 0) (T : TypeId) :
    LayAt (w.alloc (.cells #[.int .i64 0] T)) p b w.heap.size c m k (w.alloc (.cells #[.int .i64 0] T)) := by
  have hs := hV.hp
  have hs2 := hV.hb
  exact ⟨by rw [hm]; exact hV.gr ((Gr.refl w).alloc _), by rw [hc]; exact World.cell?_alloc_new .., World.frozen?_alloc_new .., by omega, by omega, by simp, Touch.refl _ _⟩
/-- One word. -/
theorem LayAt.step {w0 : World} {p b bx : Nat} {c : Nat → Nat} {m : Nat → List Bool} {k : Nat} {W : World} (h : LayAt w0 p b bx c m k W) (hk : k < nw (m k)) (hl : (m (k + 1)).length = (m k).length)
    (hw : ∀ i, i ≠ k → wordOf (m k) i = wordOf (m (k + 1)) i) {y : Nat} (hy : y = wordOf (m (k + 1)) k) {z : Int} (hz : z = (c (k + 1) : Nat)) (d : Nat) :
    LayAt w0 p b bx c m (k + 1) (((W.setCell ⟨bx, 0, none⟩ (.int .i64 z)).setCell ⟨b, k, none⟩ (.int .u64 (y : Nat))).drewN d) := by
  refine ⟨h.vec.write k hk hl hw hy h.np (fun e => h.ne e.symm) _ d, ?_, ?_, h.ne, h.np, ?_, ?_⟩
  · show World.cell? (World.setCell _ _ _) _ = _
    rw [World.cell?_setCell_other (h := by intro e; injection e with e1 _; exact h.ne e1), hz]
    exact World.cell?_setCell_same (h := h.box) ..
  · show World.frozen? (World.setCell (World.setCell _ _ _) _ _) _ = _
    rw [World.frozen?_setCell, World.frozen?_setCell]; exact h.free
  · have := h.lt; simpa [World.setCell] using this
  · exact ((h.touch.setCell (fun _ => .inr rfl) _).setCell (fun _ => .inl rfl) _).drewN d

/-- What the three need of the slice's header, throughout. -/
theorem LayAt.head {w : World} {p b : Nat} {l : List Bool} (hV : Vec w p b l) {T : TypeId} {c : Nat → Nat} {m : Nat → List Bool} {k : Nat} {W : World} (h : LayAt (w.alloc (.cells #[.int .i64 0] T)) p b w.heap.size c m k W) :
    W.cell? ⟨p, 0, none⟩ = w.cell? ⟨p, 0, none⟩ ∧ W.cell? ⟨p, 1, none⟩ = w.cell? ⟨p, 1, none⟩ := by
  have hp := hV.hp
  have e := fun o => h.touch.cell (b := p) (by simp; omega) (by intro h; rcases h with h | h; exact hV.ne h; omega) o
  have g := fun o => ((Gr.refl w).alloc (.cells #[.int .i64 0] T)).cell (b := p) hp o
  exact ⟨(e 0).trans (g 0), (e 1).trans (g 1)⟩

def layK (l : List Bool) (lo hi : Int) (x : Bool) (k : Nat) : List Bool := layL l lo (min hi (64 * k)) x
def chgK (l : List Bool) (lo hi : Int) (x : Bool) (k : Nat) : Nat := chgL l lo (min hi (64 * k)) x
theorem layK_end {l : List Bool} {lo hi : Int} {x : Bool} {k : Nat} (hk : lo < hi → hi ≤ 64 * k) : layK l lo hi x k = layL l lo hi x ∧ chgK l lo hi x k = chgL l lo hi x := by
  unfold layK chgK
  by_cases h : lo < hi
  · rw [Int.min_eq_left (hk h)]; exact ⟨rfl, rfl⟩
  · rw [layL_empty x (show min hi (64 * k) ≤ lo by omega), layL_empty x (show hi ≤ lo by omega), chgL_eq, chgL_eq, cntI_empty _ _ (show min hi (64 * k) ≤ lo by omega), cntI_empty _ _ (show hi ≤ lo by omega)]; exact ⟨rfl, rfl⟩

set_option maxRecDepth 100000 in
set_option maxHeartbeats 800000 in
theorem fill_vec {w : World} {p b : Nat} {l : List Bool} (hV : Vec w p b l) (f t : Int) (hf64 : f ≤ 9223372036854775807) :
    Calls Tryz.prog 192 #[.pointer (some ⟨p, 0, none⟩), .int .i64 f, .int .i64 t] w fun e w' =>
      e = .returned (.int .i64 (chgL l f t true : Nat)) ∧ Touch (fun i => i = b) w w' ∧ Vec w' p b (layL l f t true) := by
  obtain ⟨lo, hlo⟩ : ∃ lo : Nat, (lo : Int) = max f 0 := ⟨(max f 0).toNat, by omega⟩
  obtain ⟨hi, hhi⟩ : ∃ hi : Int, hi = min t l.length := ⟨_, rfl⟩
  have hh : hi ≤ l.length := by omega
  have hn := hV.n2
  obtain ⟨cap, a1, a2, c0⟩ := hV.c0
  have hm0 : layK l lo hi true (lo / 64) = l := layL_empty _ (by omega)
  have hc0 : chgK l lo hi true (lo / 64) = 0 := by unfold chgK; rw [chgL_eq]; exact cntI_empty _ _ (by omega)
  have H0 := fun T => box_start hV (layK l lo hi true) (chgK l lo hi true) (lo / 64) hm0 hc0 T
  have HE := fun T => each_any 216 ⟨w.heap.size, 0, none⟩ p b l.length (nw l) cap (LayAt (w.alloc (.cells #[.int .i64 0] T)) p b w.heap.size (chgK l lo hi true) (layK l lo hi true))
    call_fill1 (fun k W h => ⟨(LayAt.head hV h).1.trans c0, (LayAt.head hV h).2.trans hV.c1⟩) (fun k W d h => h.drewN d) (by unfold nw; omega) (by omega) f t hf64 lo hlo hi hhi
    (fun k W hk1 hk2 hlt h => by
      have hkw : k < nw (layK l lo hi true k) := by unfold layK; rw [nw_layL]; unfold nw; omega
      have hcb : chgK l lo hi true k ≤ l.length := cntI_le _ _ _ _
      refine (fill1_any W b k (wordOf (layK l lo hi true k) k) _ w.heap.size (chgK l lo hi true k : Nat) (wordOf_lt _ _) (runW_lt _ _) (h.vec.cw k hkw) (h.vec.fw k) h.box h.free h.ne (by omega) (by omega)).mono ?_
      rintro e W' ⟨rfl, d, rfl⟩
      refine ⟨rfl, h.step hkw ?_ ?_ ?_ ?_ d⟩
      · unfold layK; rw [layL_length, layL_length]
      · intro i hi'; exact word_other hk2 hh true hi'
      · exact word_on hk2 hh
      · have := chg_on hk2 hh (lo := (lo : Int)); unfold chgK layK; omega)
    _ (H0 T)
  have HE := hid HE
  have HV := hid hV
  have HLO := hid hlo
  have HHI := hid hhi
  clear hV hm0 hc0 H0 hh a1 a2 c0 hhi hlo hn hf64
  have hmf : ∀ (fn : Fn) (first cap : Array Value) (w : World), (Instr.makeFunc fn first cap).run Tryz.prog w = .ok (.func fn first cap) w := fun _ _ _ _ => rfl
  go_enter Tryz.func192, Tryz.ntmps192
  go_wp2_with (go_at_call 215; refine (HE.out _).mono ?_; rintro e W2 ⟨rfl, k, hk1, hk2, hL⟩; have hbox := hL.box)
  go_ret
  obtain ⟨e1, e2⟩ := layK_end (l := l) (x := true) hk2
  refine ⟨ret_int (by rw [e2, HLO.out, HHI.out, chgL_eq, chgL_eq, cntI_clip]), ?_, ?_⟩
  · refine (((Gr.refl w).alloc _).touch _).trans' hL.touch ?_
    rintro i hi (h | h)
    · exact h
    · omega
  · have := hL.vec
    rw [e1, HLO.out, HHI.out, layL_clip] at this
    exact this

set_option maxRecDepth 100000 in
set_option maxHeartbeats 800000 in
theorem wipe_vec {w : World} {p b : Nat} {l : List Bool} (hV : Vec w p b l) (f t : Int) (hf64 : f ≤ 9223372036854775807) :
    Calls Tryz.prog 207 #[.pointer (some ⟨p, 0, none⟩), .int .i64 f, .int .i64 t] w fun e w' =>
      e = .returned (.int .i64 (chgL l f t false : Nat)) ∧ Touch (fun i => i = b) w w' ∧ Vec w' p b (layL l f t false) := by
  obtain ⟨lo, hlo⟩ : ∃ lo : Nat, (lo : Int) = max f 0 := ⟨(max f 0).toNat, by omega⟩
  obtain ⟨hi, hhi⟩ : ∃ hi : Int, hi = min t l.length := ⟨_, rfl⟩
  have hh : hi ≤ l.length := by omega
  have hn := hV.n2
  obtain ⟨cap, a1, a2, c0⟩ := hV.c0
  have hm0 : layK l lo hi false (lo / 64) = l := layL_empty _ (by omega)
  have hc0 : chgK l lo hi false (lo / 64) = 0 := by unfold chgK; rw [chgL_eq]; exact cntI_empty _ _ (by omega)
  have H0 := fun T => box_start hV (layK l lo hi false) (chgK l lo hi false) (lo / 64) hm0 hc0 T
  have HE := fun T => each_any 225 ⟨w.heap.size, 0, none⟩ p b l.length (nw l) cap (LayAt (w.alloc (.cells #[.int .i64 0] T)) p b w.heap.size (chgK l lo hi false) (layK l lo hi false))
    call_wipe1 (fun k W h => ⟨(LayAt.head hV h).1.trans c0, (LayAt.head hV h).2.trans hV.c1⟩) (fun k W d h => h.drewN d) (by unfold nw; omega) (by omega) f t hf64 lo hlo hi hhi
    (fun k W hk1 hk2 hlt h => by
      have hkw : k < nw (layK l lo hi false k) := by unfold layK; rw [nw_layL]; unfold nw; omega
      have hcb : chgK l lo hi false k ≤ l.length := cntI_le _ _ _ _
      refine (wipe1_any W b k (wordOf (layK l lo hi false k) k) _ w.heap.size (chgK l lo hi false k : Nat) (wordOf_lt _ _) (runW_lt _ _) (h.vec.cw k hkw) (h.vec.fw k) h.box h.free h.ne (by omega) (by omega)).mono ?_
      rintro e W' ⟨rfl, d, rfl⟩
      refine ⟨rfl, h.step hkw ?_ ?_ ?_ ?_ d⟩
      · unfold layK; rw [layL_length, layL_length]
      · intro i hi'; exact word_other hk2 hh false hi'
      · exact word_off hk2 hh
      · have := chg_off hk2 hh (lo := (lo : Int)); unfold chgK layK; omega)
    _ (H0 T)
  have HE := hid HE
  have HV := hid hV
  have HLO := hid hlo
  have HHI := hid hhi
  clear hV hm0 hc0 H0 hh a1 a2 c0 hhi hlo hn hf64
  have hmf : ∀ (fn : Fn) (first cap : Array Value) (w : World), (Instr.makeFunc fn first cap).run Tryz.prog w = .ok (.func fn first cap) w := fun _ _ _ _ => rfl
  go_enter Tryz.func207, Tryz.ntmps207
  go_wp2_with (go_at_call 215; refine (HE.out _).mono ?_; rintro e W2 ⟨rfl, k, hk1, hk2, hL⟩; have hbox := hL.box)
  go_ret
  obtain ⟨e1, e2⟩ := layK_end (l := l) (x := false) hk2
  refine ⟨ret_int (by rw [e2, HLO.out, HHI.out, chgL_eq, chgL_eq, cntI_clip]), ?_, ?_⟩
  · refine (((Gr.refl w).alloc _).touch _).trans' hL.touch ?_
    rintro i hi (h | h)
    · exact h
    · omega
  · have := hL.vec
    rw [e1, HLO.out, HHI.out, layL_clip] at this
    exact this

/-- What holds between two words of a run that is counted. -/
structure CountAt (w0 : World) (bx : Nat) (c : Nat → Nat) (k : Nat) (W : World) : Prop where
  box : W.cell? ⟨bx, 0, none⟩ = some (.int .i64 (c k : Nat))
  free : W.frozen? ⟨bx, 0, none⟩ = false
  touch : Touch (fun i => i = bx) w0 W
set_option maxRecDepth 100000 in
set_option maxHeartbeats 800000 in
theorem count_vec {w : World} {p b : Nat} {l : List Bool} (hV : Vec w p b l) (f t : Int) (hf64 : f ≤ 9223372036854775807) :
    Gets Tryz.prog 219 #[.pointer (some ⟨p, 0, none⟩), .int .i64 f, .int .i64 t] w (.int .i64 (countL l f t : Nat)) := by
  obtain ⟨lo, hlo⟩ : ∃ lo : Nat, (lo : Int) = max f 0 := ⟨(max f 0).toNat, by omega⟩
  obtain ⟨hi, hhi⟩ : ∃ hi : Int, hi = min t l.length := ⟨_, rfl⟩
  have hh : hi ≤ l.length := by omega
  have hn := hV.n2
  have hp := hV.hp
  have hb := hV.hb
  obtain ⟨cap, a1, a2, c0⟩ := hV.c0
  obtain ⟨c, hc⟩ : ∃ c : Nat → Nat, c = fun k => cntI (at_ l) lo (min hi (64 * (k : Nat))) l.length := ⟨_, rfl⟩
  have hc0 : c (lo / 64) = 0 := by rw [hc]; exact cntI_empty _ _ (by omega)
  have H0 : ∀ T, CountAt (w.alloc (.cells #[.int .i64 0] T)) w.heap.size c (lo / 64) (w.alloc (.cells #[.int .i64 0] T)) := fun T => ⟨by rw [hc0]; exact World.cell?_alloc_new .., World.frozen?_alloc_new .., Touch.refl _ _⟩
  have HR : ∀ T k W, CountAt (w.alloc (.cells #[.int .i64 0] T)) w.heap.size c k W → ∀ q o, q < w.heap.size → W.cell? ⟨q, o, none⟩ = w.cell? ⟨q, o, none⟩ := fun T k W h q o hq => by
    rw [h.touch.cell (by simp; omega) (by omega), ((Gr.refl w).alloc _).cell hq]
  have HE := fun T => each_any 232 ⟨w.heap.size, 0, none⟩ p b l.length (nw l) cap (CountAt (w.alloc (.cells #[.int .i64 0] T)) w.heap.size c)
    call_count1 (fun k W h => ⟨(HR T k W h p 0 hp).trans c0, (HR T k W h p 1 hp).trans hV.c1⟩) (fun k W d h => ⟨h.box, h.free, h.touch.drewN d⟩) (by unfold nw; omega) (by omega) f t hf64 lo hlo hi hhi
    (fun k W hk1 hk2 hlt h => by
      have hkw : k < nw l := by unfold nw; omega
      have hcb : c k ≤ l.length := by rw [hc]; exact cntI_le _ _ _ _
      refine (count1_any W b k (wordOf l k) _ w.heap.size (c k : Nat) (wordOf_lt _ _) (runW_lt _ _) ((HR T k W h b k hb).trans (hV.cw k hkw)) h.box h.free (by omega) (by omega)).mono ?_
      rintro e W' ⟨rfl, d, rfl⟩
      refine ⟨rfl, ?_, ?_, (h.touch.setCell (fun _ => rfl) _).drewN d⟩
      · have := count_on hk2 hh (lo := (lo : Int))
        have e : ((c k : Nat) : Int) + (pc (runW ((lo : Int) - 64 * k) (hi - 64 * k) &&& wordOf l k) : Nat) = (c (k + 1) : Nat) := by rw [hc]; simp only []; omega
        rw [e]
        exact World.cell?_setCell_same (h := h.box) ..
      · show World.frozen? (World.setCell _ _ _) _ = _
        rw [World.frozen?_setCell]; exact h.free)
    _ (H0 T)
  have HE := hid HE
  have HLO := hid hlo
  have HHI := hid hhi
  have HC := hid hc
  clear hV hc0 H0 hh a1 a2 c0 hhi hlo hn hf64 HR hc
  have hmf : ∀ (fn : Fn) (first cap : Array Value) (w : World), (Instr.makeFunc fn first cap).run Tryz.prog w = .ok (.func fn first cap) w := fun _ _ _ _ => rfl
  unfold Gets
  go_enter Tryz.func219, Tryz.ntmps219
  go_wp2_with (go_at_call 215; refine (HE.out _).mono ?_; rintro e W2 ⟨rfl, k, hk1, hk2, hL⟩; have hbox := hL.box)
  go_ret
  refine ⟨ret_int ?_, Touch.gr ?_⟩
  · rw [HC.out, countL_eq, ← cntI_clip (at_ l) f t, ← HLO.out, ← HHI.out]
    simp only []
    by_cases h : (lo : Int) < hi
    · rw [Int.min_eq_left (hk2 h)]
    · rw [cntI_empty _ _ (show min hi (64 * k) ≤ lo by omega), cntI_empty _ _ (show hi ≤ lo by omega)]
  · refine (((Gr.refl w).alloc _).touch _).trans' hL.touch ?_
    rintro i hi rfl; omega

end Go.Proofs.YtbmidhlilafgeaaGreatDoor
end

section
namespace Go.Proofs.YtbmidhlilafgeaaGreatDoor
open Go.RowKit Word

/-- A new vector of the bits l, apart from all that was there. -/
def NewVec (w : World) (l : List Bool) (e : Ending) (w' : World) : Prop :=
  ∃ p b, e = .returned (.tuple #[.pointer (some ⟨p, 0, none⟩), .int .i64 0]) ∧ Gr w w' ∧ Vec w' p b l ∧ w.heap.size ≤ p ∧ w.heap.size ≤ b
theorem infoU64 : (Tryz.prog.info? 50).map (fun i => (i.zero, i.size, i.bytes)) = some (some (.int .u64 0), 1, 8) := by kernel_rfl
theorem grownBy_touch {w w' : World} {row : Option Nat} (h : w.grownBy w' row) (S : Nat → Prop) (hS : ∀ k, row = some k → k < w.heap.size → S k) : Touch S w w' :=
  ⟨h.os, h.tape, h.output, h.size, fun k hk hn => h.block k hk (fun e => hn (hS k e.symm hk))⟩

theorem wordOf_none (n i : Nat) : wordOf (List.replicate n false) i = 0 :=
  (wordOf_eq (by decide) (fun j _ => by rw [Nat.zero_testBit]; simp [List.getD_eq_getElem?_getD, List.getElem?_replicate]; split <;> rfl)).symm
theorem made_words (n : Nat) : (madeCells #[.int .u64 0] n).toList = (List.range n).map fun _ => Value.int .u64 ((0 : Nat) : Int) := by
  unfold madeCells; simp [Nat.mod_one]
/-- A vector out of an owned row of words, and a new struct. -/
theorem vec_made {w1 : World} {l : List Bool} (n1 : 1 ≤ l.length) (n2 : l.length ≤ 1048576) {base T b k cap : Nat} {xs : List Value} {E : TypeId}
    (hown : w1.ownsRow base E 1 (.slice (some ⟨b, 0, none⟩) k cap) k xs) (hk : k = nw l) (hcap : cap ≤ maxLen) (hx : xs = (List.range (nw l)).map fun i => Value.int .u64 ((wordOf l i : Nat) : Int)) :
    Vec (w1.alloc (.cells #[.slice (some ⟨b, 0, none⟩) k cap, .int .i64 l.length] T)) w1.heap.size b l ∧ b < w1.heap.size := by
  obtain ⟨hlen, h | ⟨g, c, cur, e1, e2, e3, e4, e5, e6, e7⟩⟩ := hown
  · simp at h
  · simp only [Value.slice.injEq, Option.some.injEq, Addr.mk.injEq, and_true, true_and] at e1
    obtain ⟨rfl, rfl⟩ := e1
    have hb : b < w1.heap.size := by
      rcases Nat.lt_or_ge b w1.heap.size with h | h
      · exact h
      · rw [Array.getElem?_eq_none h] at e3; cases e3
    subst hk
    refine ⟨⟨by omega, by simp, by simp; omega, n1, n2, ⟨cap, e4, hcap, ?_⟩, ?_, ?_, ?_⟩, hb⟩
    · exact World.cell?_alloc_new ..
    · exact World.cell?_alloc_new ..
    · intro i hi
      rw [World.cell?_alloc_lt (h := hb)]
      unfold World.cell?
      simp only [e3]
      have : cur[i]? = xs[i]? := by
        rw [← e7, Nat.mul_one, List.getElem?_take, if_pos hi, Array.getElem?_toList]
      rw [if_neg (by simp), this, hx]
      simp [hi]
    · intro i
      rw [World.frozen?_alloc_old (h := by show b ≠ _; omega)]
      unfold World.frozen?
      simp only [e3]
      simp
set_option maxRecDepth 100000 in
set_option maxHeartbeats 800000 in
theorem new_vec (n : Nat) (h1 : 1 ≤ n) (h2 : n ≤ 1048576) (w : World) :
    Calls Tryz.prog 177 #[.int .i64 n] w (NewVec w (List.replicate n false)) := by
  obtain ⟨i0, hi, hz0, hz1, hz2⟩ := info_parts infoU64
  have d1 : decide ((n : Int) < 1) = false := by simp; omega
  have d2 : decide ((1048576 : Int) < (n : Int)) = false := by simp; omega
  have hb : i0.bytes * ((n + 63) / 64) ≤ 281474976710656 := by rw [hz2]; omega
  have hm : (n + 63) / 64 ≤ maxLen := by unfold maxLen; omega
  have HB := hid hb
  have HM := hid hm
  clear hb hm
  go_enter Tryz.func177, Tryz.ntmps177
  go_wp2_with (at_make; refine wpList_make_full _ rfl _ _ 35 rfl w.heap.size 50 i0 (.int .u64 0) 1 Tryz.underlying35 hi hz0 hz1 .i64 .i64 _ _ ((n + 63) / 64) rfl rfl ?h1 ?h2 HB.out HM.out (Nat.le_refl _) ?h3)
  case h1 => omega
  case h2 => omega
  case h3 =>
    intro w1 hown hgrow
    have hg1 : Gr w w1 := (grownBy_touch hgrow (fun _ => False) (fun k e _ => by cases e)).gr
    have HV := hid (fun T => vec_made (l := List.replicate n false) (by simp; omega) (by simp; omega) (T := T) (show w1.ownsRow w.heap.size 50 1 (.slice (some ⟨w.heap.size, 0, none⟩) ((n + 63) / 64) ((n + 63) / 64)) ((n + 63) / 64) _ from hown) (by simp [nw]) (by unfold maxLen; omega) (by
      rw [made_words, nw, List.length_replicate]
      exact List.map_congr_left (fun i _ => by rw [wordOf_none])))
    clear hown hgrow
    go_wp2
    go_ret2
    obtain ⟨hV, hlt⟩ := HV.out 260
    exact ⟨_, _, ret2 rfl rfl, hg1.alloc _, by simpa using hV, hg1.size, Nat.le_refl _⟩

theorem slice_of_own {w : World} {base : Nat} {e : TypeId} {size : Nat} {v : Value} {n : Nat} {xs : List Value} (h : w.ownsRow base e size v n xs) (hn : n ≠ 0) :
    ∃ g c, v = .slice (some ⟨g, 0, none⟩) n c ∧ base ≤ g ∧ n ≤ c ∧ c ≤ maxLen := by
  obtain ⟨_, ⟨_, h⟩ | ⟨g, c, cur, e1, e2, _, e4, e5, _⟩⟩ := h
  · exact absurd h hn
  · exact ⟨g, c, e1, e2, e4, e5⟩
/-- A row of the same words, apart from all that was there. -/
def NewRow (w : World) (l : List Bool) (e : Ending) (w' : World) : Prop :=
  ∃ g c, e = .returned (.slice (some ⟨g, 0, none⟩) (nw l) c) ∧ Gr w w' ∧ w.heap.size ≤ g ∧ c ≤ maxLen ∧
    w'.ownsRow w.heap.size 50 1 (.slice (some ⟨g, 0, none⟩) (nw l) c) (nw l) ((List.range (nw l)).map fun i => Value.int .u64 ((wordOf l i : Nat) : Int))
set_option maxRecDepth 100000 in
set_option maxHeartbeats 800000 in
theorem clone_words {w : World} {p b : Nat} {l : List Bool} (hV : Vec w p b l) (cap : Nat) :
    Calls Tryz.prog 231 #[.slice (some ⟨b, 0, none⟩) (nw l) cap] w (NewRow w l) := by
  obtain ⟨i0, hi, hz0, hz1, hz2⟩ := info_parts infoU64
  have hnb := nw_bd hV.n1 hV.n2
  have hsn := Lib.run_eql_slice_nil (P := Tryz.prog) w 35 50 (some ⟨b, 0, none⟩) (nw l) cap 0 0 Tryz.underlying35
  have hown : (w.alloc (.cells #[] 50)).ownsRow w.heap.size 50 1 (.slice (some ⟨w.heap.size, 0, none⟩) 0 0) 0 [] :=
    ⟨rfl, .inr ⟨w.heap.size, 0, #[], rfl, Nat.le_refl _, heap_alloc_new w _, Nat.le_refl _, by unfold maxLen; omega, rfl, rfl⟩⟩
  have hcell : ∀ (j : Nat) (u : Value), ((List.range (nw l)).map fun i => Value.int .u64 ((wordOf l i : Nat) : Int))[j]? = some u → (w.alloc (.cells #[] 50)).cell? (Addr.add ⟨b, 0, none⟩ j) = some u := fun j u hj => by
    rw [List.getElem?_map] at hj
    have hjl : j < nw l := by
      rcases Nat.lt_or_ge j (nw l) with h | h
      · exact h
      · rw [List.getElem?_eq_none (by simpa using h)] at hj; cases hj
    rw [List.getElem?_range hjl] at hj
    simp only [Option.map_some, Option.some.injEq] at hj
    have e : Addr.add ⟨b, 0, none⟩ j = ⟨b, j, none⟩ := by unfold Addr.add; split <;> simp_all
    rw [e, World.cell?_alloc_lt (h := hV.hb), hV.cw j hjl, hj]
  have h1c : ∀ u ∈ (List.range (nw l)).map fun i => Value.int .u64 ((wordOf l i : Nat) : Int), u.oneCell' = true := fun u hu => by
    obtain ⟨i, _, rfl⟩ := List.mem_map.1 hu; rfl
  have HO := hid hown
  have HC := hid hcell
  have H1 := hid h1c
  have HN := hid hnb
  clear hnb hV hown hcell h1c
  go_enter Tryz.func231, Tryz.ntmps231
  go_wp2_with (at_builtin; refine wpList_append_own _ rfl _ _ 35 rfl w.heap.size 50 i0 (.int .u64 0) 1 8 Tryz.underlying35 hi hz0 hz1 hz2 rfl (by decide) _ _ _ rfl HO.out ⟨b, 0, none⟩ (nw l) cap ((List.range (nw l)).map fun i => Value.int .u64 ((wordOf l i : Nat) : Int)) rfl (by simp) HC.out H1.out (by have := HN.out; unfold maxLen; omega) (by have := HN.out; omega) (by simp) ?_; intro v' w1 hown1 hgrow _; obtain ⟨g, c, hv, hg1, hg2, hg3⟩ := slice_of_own hown1 (by have := HN.out; omega); subst hv)
  go_ret
  have hgrow' : (w.alloc (.cells #[] 50)).grownBy w1 (some w.heap.size) := hgrow
  refine ⟨g, c, rfl, ?_, hg1, hg3, by simpa using hown1⟩
  refine Touch.gr ((((Gr.refl w).alloc _).touch _).trans' (grownBy_touch hgrow' (fun k => k = w.heap.size) (fun k e _ => by cases e; rfl)) ?_)
  rintro i hi rfl; omega

/-- A copy of a vector, apart from all that was there. -/
def NewCopy (w : World) (l : List Bool) (e : Ending) (w' : World) : Prop :=
  ∃ p b, e = .returned (.pointer (some ⟨p, 0, none⟩)) ∧ Gr w w' ∧ Vec w' p b l ∧ w.heap.size ≤ p ∧ w.heap.size ≤ b
set_option maxRecDepth 100000 in
set_option maxHeartbeats 800000 in
theorem copy_vec {w : World} {p b : Nat} {l : List Bool} (hV : Vec w p b l) :
    Calls Tryz.prog 218 #[.pointer (some ⟨p, 0, none⟩)] w (NewCopy w l) := by
  obtain ⟨cap, a1, a2, c0⟩ := hV.c0
  have c1 := hV.c1
  have hpw := hV.hp
  have HV := hid hV
  clear hV a1 a2
  go_enter Tryz.func218, Tryz.ntmps218
  go_upto_region 3 with (fail)
  go_region_with (go_at_call 231; refine (clone_words (HV.out.gr ((Gr.refl w).drew)) _).mono ?_; rintro e w1 ⟨g, c, rfl, hg1, hg2, hg3, hown⟩; have c1' := (hg1.cell (b := p) (by simpa using hpw) 1).trans c1)
  all_goals
    have HF := hid (fun T => vec_made HV.out.n1 HV.out.n2 (T := T) hown rfl hg3 rfl)
    have hgr := (Gr.refl w).drew.trans hg1
    have hs : w.heap.size ≤ g := hg2
    clear hown hg1 hg2 hg3 c0 c1 c1'
    go_wp2
    go_ret
    obtain ⟨hF, hlt⟩ := HF.out 260
    exact ⟨_, _, rfl, hgr.alloc _, hF, hgr.size, hs⟩
end Go.Proofs.YtbmidhlilafgeaaGreatDoor
end

section
namespace Go.Proofs.YtbmidhlilafgeaaGreatDoor
open Go.RowKit Word

theorem Gr.tab {w W : World} (h : Gr w W) (hz : 0 < w.heap.size) (ht : TabAt w) : TabAt W := fun i hi => by rw [h.cell hz]; exact ht i hi
theorem Touch.tab {S : Nat → Prop} {w W : World} (h : Touch S w W) (hz : 0 < w.heap.size) (hS : ¬ S 0) (ht : TabAt w) : TabAt W := fun i hi => by rw [h.cell hz hS]; exact ht i hi
/-- The table's block is there. -/
theorem TabAt.lt {w : World} (h : TabAt w) : 0 < w.heap.size := by
  have := h 0 (by decide)
  unfold World.cell? at this
  rcases Nat.lt_or_ge 0 w.heap.size with h | h
  · exact h
  · rw [Array.getElem?_eq_none h] at this; cases this

end Go.Proofs.YtbmidhlilafgeaaGreatDoor
end

section
namespace Go.Proofs.YtbmidhlilafgeaaGreatDoor
open Go.RowKit Word

theorem run_minB2 (P : Program) (ts : Array TypeId) (t : TypeId) (k : IntKind) (x y : Int) (w : World) : (Builtin.min_ ts t #[.int k x, .int k y]).run P w = .ok (.int k (min x y)) w := by
  simp only [Builtin.min_, List.foldlM]; simp [run_min2]
theorem run_maxB2 (P : Program) (ts : Array TypeId) (t : TypeId) (k : IntKind) (x y : Int) (w : World) : (Builtin.max_ ts t #[.int k x, .int k y]).run P w = .ok (.int k (max x y)) w := by
  simp only [Builtin.max_, List.foldlM]; simp [run_max2]
theorem countL_add (l : List Bool) {a b c : Int} (h1 : a ≤ b) (h2 : b ≤ c) : ((countL l a b : Nat) : Int) + (countL l b c : Nat) = (countL l a c : Nat) := by
  rw [countL_eq, countL_eq, countL_eq]
  have := cnt_or (f := fun i => decide (a ≤ (i : Nat) ∧ ((i : Nat) : Int) < b) && at_ l i) (g := fun i => decide (b ≤ (i : Nat) ∧ ((i : Nat) : Int) < c) && at_ l i) (fun i => by
    by_cases h : ((i : Nat) : Int) < b
    · rw [decide_eq_false (p := b ≤ (i : Nat) ∧ ((i : Nat) : Int) < c) (by omega)]; simp
    · rw [decide_eq_false (p := a ≤ (i : Nat) ∧ ((i : Nat) : Int) < b) (by omega)]; simp) l.length
  unfold cntI
  rw [← Int.natCast_add, ← this]
  congr 1
  refine cnt_congr (fun i _ => ?_)
  by_cases h : ((i : Nat) : Int) < b
  · rw [decide_eq_false (p := b ≤ (i : Nat) ∧ ((i : Nat) : Int) < c) (by omega), show decide (a ≤ (i : Nat) ∧ ((i : Nat) : Int) < b) = decide (a ≤ (i : Nat) ∧ ((i : Nat) : Int) < c) from decide_eq_decide.2 (by omega)]; simp
  · rw [decide_eq_false (p := a ≤ (i : Nat) ∧ ((i : Nat) : Int) < b) (by omega), show decide (b ≤ (i : Nat) ∧ ((i : Nat) : Int) < c) = decide (a ≤ (i : Nat) ∧ ((i : Nat) : Int) < c) from decide_eq_decide.2 (by omega)]; simp
theorem countL_all (l : List Bool) {b : Int} (h : l.length ≤ b) : countL l 0 b = cnt (at_ l) l.length := by
  rw [countL_eq]; exact cnt_congr (fun i hi => by rw [decide_eq_true (by omega)]; simp)
theorem countL_upto (l : List Bool) {r : Nat} (h : r ≤ l.length) : countL l 0 (r : Int) = cnt (at_ l) r := by
  rw [countL_eq]
  unfold cntI
  rw [cnt_ext h (fun i h1 _ => by rw [decide_eq_false (by omega)]; rfl)]
  exact cnt_congr (fun i hi => by rw [decide_eq_true (by omega)]; simp)
end Go.Proofs.YtbmidhlilafgeaaGreatDoor
end

section
namespace Go.Proofs.YtbmidhlilafgeaaGreatDoor
open Go.ChangeShapes Go.WideShapes Go.ChangeAt Go.RowKit Word

end Go.Proofs.YtbmidhlilafgeaaGreatDoor
end
end
section
section
namespace Go.Proofs.YtbmidhlilafgeaaGreatDoor
open Go.RowKit Word

end Go.Proofs.YtbmidhlilafgeaaGreatDoor
end

section
namespace Go.Proofs.YtbmidhlilafgeaaGreatDoor
open Word

/-- An object: its start, its size. -/
abbrev Ob := Nat × Nat
/-- Objects within n words, by rising start, none over another. -/
structure Good (n : Nat) (L : List Ob) : Prop where
  pw : L.Pairwise (fun o q => o.1 + o.2 ≤ q.1)
  sz : ∀ o ∈ L, 1 ≤ o.2 ∧ o.1 + o.2 ≤ n
theorem Good.nil (n : Nat) : Good n [] := ⟨List.Pairwise.nil, fun _ h => by cases h⟩
theorem Good.at {n : Nat} {L : List Ob} (h : Good n L) {i j : Nat} (hi : i < L.length) (hj : j < L.length) (hij : i < j) : L[i].1 + L[i].2 ≤ L[j].1 := List.pairwise_iff_getElem.1 h.pw i j hi hj hij
theorem Good.disj {n : Nat} {L : List Ob} (h : Good n L) {o q : Ob} (ho : o ∈ L) (hq : q ∈ L) : o = q ∨ o.1 + o.2 ≤ q.1 ∨ q.1 + q.2 ≤ o.1 := by
  obtain ⟨i, hi, rfl⟩ := List.getElem_of_mem ho
  obtain ⟨j, hj, rfl⟩ := List.getElem_of_mem hq
  rcases Nat.lt_trichotomy i j with hij | rfl | hij
  · exact .inr (.inl (h.at hi hj hij))
  · exact .inl rfl
  · exact .inr (.inr (h.at hj hi hij))
theorem Good.len {n : Nat} : ∀ {L : List Ob}, Good n L → L.length ≤ n := by
  intro L h
  have key : ∀ (L : List Ob), L.Pairwise (fun o q => o.1 + o.2 ≤ q.1) → (∀ o ∈ L, 1 ≤ o.2 ∧ o.1 + o.2 ≤ n) → ∀ a, a ≤ n → (∀ o ∈ L, a ≤ o.1) → a + L.length ≤ n := by
    intro L
    induction L with
    | nil => intro _ _ a ha _; simpa using ha
    | cons o r ih =>
      intro hp hs a ha hl
      obtain ⟨h1, h2⟩ := List.pairwise_cons.1 hp
      have ho := hs o (List.mem_cons_self ..)
      have := ih h2 (fun q hq => hs q (List.mem_cons_of_mem _ hq)) (o.1 + o.2) ho.2 (fun q hq => h1 q hq)
      have := hl o (List.mem_cons_self ..)
      simp only [List.length_cons]; omega
  have := key L h.pw h.sz 0 (Nat.zero_le _) (fun _ _ => Nat.zero_le _)
  omega

/-! The bits of a map -/
def startsL (n : Nat) (L : List Ob) : List Bool := (List.range n).map fun i => L.any fun o => o.1 == i
def endsL (n : Nat) (L : List Ob) : List Bool := (List.range n).map fun i => L.any fun o => o.1 + o.2 == i + 1
theorem startsL_len (n : Nat) (L : List Ob) : (startsL n L).length = n := by simp [startsL]
theorem endsL_len (n : Nat) (L : List Ob) : (endsL n L).length = n := by simp [endsL]
theorem at_map_range (f : Nat → Bool) (n i : Nat) : at_ ((List.range n).map f) i = (decide (i < n) && f i) := by
  unfold at_
  rw [List.getD_eq_getElem?_getD, List.getElem?_map]
  by_cases h : i < n
  · rw [List.getElem?_range h, decide_eq_true h]; rfl
  · rw [List.getElem?_eq_none (by simpa using h), decide_eq_false h]; rfl
theorem at_starts {n : Nat} {L : List Ob} (h : Good n L) (i : Nat) : at_ (startsL n L) i = true ↔ ∃ o ∈ L, o.1 = i := by
  unfold startsL
  rw [at_map_range]
  simp only [Bool.and_eq_true, decide_eq_true_eq, List.any_eq_true, beq_iff_eq]
  constructor
  · rintro ⟨_, h⟩; exact h
  · rintro ⟨o, ho, rfl⟩; have := h.sz o ho; exact ⟨by omega, o, ho, rfl⟩
theorem at_ends {n : Nat} {L : List Ob} (h : Good n L) (i : Nat) : at_ (endsL n L) i = true ↔ ∃ o ∈ L, o.1 + o.2 = i + 1 := by
  unfold endsL
  rw [at_map_range]
  simp only [Bool.and_eq_true, decide_eq_true_eq, List.any_eq_true, beq_iff_eq]
  constructor
  · rintro ⟨_, h⟩; exact h
  · rintro ⟨o, ho, e⟩; have := h.sz o ho; exact ⟨by omega, o, ho, e⟩
/-- The end of an object is the first one from its start on. -/
theorem next_end {n : Nat} {L : List Ob} (h : Good n L) {o : Ob} (ho : o ∈ L) : nextL (endsL n L) (o.1 : Int) = o.1 + o.2 - 1 ∧ o.1 + o.2 - 1 < (endsL n L).length := by
  have hs := h.sz o ho
  have := nextL_at (l := endsL n L) (a := (o.1 : Int)) (k := o.1 + o.2 - 1) (fun i hi hc => by
    obtain ⟨q, hq, e⟩ := (at_ends h i).1 hc.1
    have hqs := h.sz q hq
    have hc2 := hc.2
    rcases h.disj ho hq with rfl | hd | hd <;> omega) ((at_ends h _).2 ⟨o, ho, by omega⟩) (by omega)
  exact ⟨this.1, by rw [endsL_len]; omega⟩

/-! The next object -/
def nextO (L : List Ob) (a : Int) : Nat := L.findIdx fun o => decide (a ≤ o.1)
theorem nextO_le (L : List Ob) (a : Int) : nextO L a ≤ L.length := List.findIdx_le_length
theorem nextO_no {L : List Ob} {a : Int} {i : Nat} (h : i < nextO L a) (hi : i < L.length) : (L[i].1 : Int) < a := by
  have := List.not_of_lt_findIdx h
  simp at this; omega
theorem nextO_yes {L : List Ob} {a : Int} (h : nextO L a < L.length) : a ≤ (L[nextO L a]'h).1 := by
  have := List.findIdx_getElem (p := fun o : Ob => decide (a ≤ (o.1 : Int))) (w := h)
  simp only [decide_eq_true_eq] at this
  exact this
theorem nextO_eq {L : List Ob} {a : Int} {j : Nat} (hj : j ≤ L.length) (hn : ∀ i (hi : i < L.length), i < j → (L[i].1 : Int) < a) (hy : ∀ h : j < L.length, a ≤ (L[j].1 : Int)) : nextO L a = j := by
  rcases Nat.lt_trichotomy (nextO L a) j with h | h | h
  · have h1 := nextO_yes (L := L) (a := a) (by omega)
    have h2 := hn _ (by omega) h
    omega
  · exact h
  · have hlt : j < L.length := by have := nextO_le L a; omega
    have h1 := nextO_no h hlt
    have h2 := hy hlt
    omega
/-- The next start from an address on. -/
theorem next_start_yes {n : Nat} {L : List Ob} (h : Good n L) {a : Int} (hj : nextO L a < L.length) : nextL (startsL n L) a = (L[nextO L a]).1 ∧ nextL (startsL n L) a < (startsL n L).length := by
  have hy := nextO_yes hj
  refine nextL_at (fun i hi hc => ?_) ((at_starts h _).2 ⟨_, List.getElem_mem hj, rfl⟩) (by omega)
  obtain ⟨q, hq, e⟩ := (at_starts h i).1 hc.1
  obtain ⟨k, hk, rfl⟩ := List.getElem_of_mem hq
  rcases Nat.lt_trichotomy k (nextO L a) with hlt | rfl | hlt
  · have := nextO_no hlt hk; omega
  · omega
  · have := h.at hj hk hlt; omega
theorem next_start_no {n : Nat} {L : List Ob} (h : Good n L) {a : Int} (hj : ¬ nextO L a < L.length) : nextL (startsL n L) a = (startsL n L).length := by
  refine nextL_end (fun i hi hc => ?_)
  obtain ⟨q, hq, e⟩ := (at_starts h i).1 hc.1
  obtain ⟨k, hk, rfl⟩ := List.getElem_of_mem hq
  have := nextO_no (L := L) (a := a) (i := k) (by omega) hk
  omega
theorem next_after_ob {n : Nat} {L : List Ob} (h : Good n L) {j : Nat} (hj : j < L.length) : nextO L ((L[j].1 : Int) + (L[j].2 : Int)) = j + 1 := by
  refine nextO_eq (by omega) (fun i hi hij => ?_) (fun h2 => ?_)
  · have hs := h.sz _ (List.getElem_mem hj)
    rcases Nat.lt_or_ge i j with h1 | h1
    · have := h.at hi hj h1; have := h.sz _ (List.getElem_mem hi); omega
    · have : i = j := by omega
      subst this; omega
  · have := h.at hj h2 (Nat.lt_succ_self j); omega

/-! The object that has an address -/
def hasO (a : Int) (o : Ob) : Bool := decide ((o.1 : Int) ≤ a ∧ a < o.1 + o.2)
def findO (L : List Ob) (a : Int) : Nat := L.findIdx (hasO a)
theorem findO_le (L : List Ob) (a : Int) : findO L a ≤ L.length := List.findIdx_le_length
theorem findO_yes {L : List Ob} {a : Int} (h : findO L a < L.length) : ((L[findO L a]'h).1 : Int) ≤ a ∧ a < (L[findO L a]'h).1 + (L[findO L a]'h).2 := by
  have := List.findIdx_getElem (p := hasO a) (w := h)
  simp only [hasO, decide_eq_true_eq] at this
  exact this
theorem findO_no {L : List Ob} {a : Int} {i : Nat} (h : i < findO L a) (hi : i < L.length) : ¬ ((L[i].1 : Int) ≤ a ∧ a < L[i].1 + L[i].2) := by
  have := List.not_of_lt_findIdx h
  simpa [hasO] using this
theorem findO_eq {n : Nat} {L : List Ob} (h : Good n L) {a : Int} {j : Nat} (hj : j < L.length) (h1 : (L[j].1 : Int) ≤ a) (h2 : a < L[j].1 + L[j].2) : findO L a = j := by
  rcases Nat.lt_trichotomy (findO L a) j with hlt | he | hlt
  · have hy := findO_yes (L := L) (a := a) (by omega)
    have := h.at (i := findO L a) (by omega) hj hlt
    omega
  · exact he
  · exact absurd ⟨h1, h2⟩ (findO_no hlt hj)
theorem findO_none {L : List Ob} {a : Int} (h : ∀ o ∈ L, ¬ ((o.1 : Int) ≤ a ∧ a < o.1 + o.2)) : findO L a = L.length := by
  rcases Nat.lt_or_ge (findO L a) L.length with h1 | h1
  · exact absurd (findO_yes h1) (h _ (List.getElem_mem h1))
  · have := findO_le L a; omega
/-- The last object that starts at or below an address. -/
theorem last_of {n : Nat} {L : List Ob} (h : Good n L) (a : Int) : (lastL (startsL n L) (a + 1) = -1 ∧ ∀ o ∈ L, a < (o.1 : Int)) ∨ ∃ j, ∃ hj : j < L.length, lastL (startsL n L) (a + 1) = (L[j].1 : Int) ∧ (L[j].1 : Int) ≤ a ∧ ∀ i (hi : i < L.length), j < i → a < (L[i].1 : Int) := by
  have hx := nextO_le L (a + 1)
  rcases Nat.eq_zero_or_pos (nextO L (a + 1)) with h0 | h0
  · left
    have hall : ∀ o ∈ L, a < (o.1 : Int) := fun o ho => by
      obtain ⟨k, hk, rfl⟩ := List.getElem_of_mem ho
      have hy := nextO_yes (L := L) (a := a + 1) (by omega)
      rcases Nat.eq_zero_or_pos k with rfl | hk0
      · have e : L[nextO L (a + 1)]'(by omega) = L[0] := by congr 1
        rw [e] at hy; omega
      · have := h.at (i := 0) (j := k) (by omega) hk hk0
        have e : L[nextO L (a + 1)]'(by omega) = L[0]'(by omega) := by congr 1
        rw [e] at hy; omega
    refine ⟨lastL_end (fun i hc => ?_), hall⟩
    obtain ⟨q, hq, e⟩ := (at_starts h i).1 hc.1
    have := hall q hq; omega
  · right
    obtain ⟨j, hj⟩ : ∃ j, nextO L (a + 1) = j + 1 := ⟨nextO L (a + 1) - 1, by omega⟩
    have hjl : j < L.length := by omega
    have h1 := nextO_no (L := L) (a := a + 1) (i := j) (by omega) hjl
    have hall : ∀ i (hi : i < L.length), j < i → a < (L[i].1 : Int) := fun i hi hij => by
      have hy := nextO_yes (L := L) (a := a + 1) (by omega)
      rcases Nat.lt_or_ge (nextO L (a + 1)) i with h2 | h2
      · have := h.at (i := nextO L (a + 1)) (by omega) hi h2; omega
      · have e : L[nextO L (a + 1)]'(by omega) = L[i] := by congr 1; omega
        rw [e] at hy; omega
    refine ⟨j, hjl, lastL_at (fun i hij hc => ?_) ((at_starts h _).2 ⟨_, List.getElem_mem hjl, rfl⟩) (by omega), by omega, hall⟩
    obtain ⟨q, hq, e⟩ := (at_starts h i).1 hc.1
    obtain ⟨k, hk, rfl⟩ := List.getElem_of_mem hq
    rcases Nat.lt_trichotomy k j with hlt | rfl | hlt
    · have := h.at hk hjl hlt; omega
    · omega
    · have := hall k hk hlt; omega
end Go.Proofs.YtbmidhlilafgeaaGreatDoor
end

section
namespace Go.Proofs.YtbmidhlilafgeaaGreatDoor
open Word

/-- Is a word live? -/
def liveB (L : List Ob) (i : Nat) : Bool := L.any fun o => decide (o.1 ≤ i ∧ i < o.1 + o.2)
theorem liveB_iff {L : List Ob} {i : Nat} : liveB L i = true ↔ ∃ o ∈ L, o.1 ≤ i ∧ i < o.1 + o.2 := by simp [liveB]
theorem liveB_find {L : List Ob} {i : Nat} : liveB L i = decide (findO L (i : Int) < L.length) := by
  by_cases h : findO L (i : Int) < L.length
  · rw [decide_eq_true h]
    have := findO_yes h
    exact liveB_iff.2 ⟨_, List.getElem_mem h, by omega, by omega⟩
  · rw [decide_eq_false h]
    cases hb : liveB L i with
    | false => rfl
    | true =>
      obtain ⟨o, ho, h1, h2⟩ := liveB_iff.1 hb
      obtain ⟨k, hk, rfl⟩ := List.getElem_of_mem ho
      exact absurd ⟨by omega, by omega⟩ (findO_no (L := L) (a := (i : Int)) (i := k) (by omega) hk)
/-- How many words of a run from f up to t are live, of n words. -/
def liveN (L : List Ob) (n : Nat) (f t : Int) : Nat := cnt (fun i => decide (f ≤ (i : Nat) ∧ ((i : Nat) : Int) < t) && liveB L i) n
/-- How many words of an object lie in a run. -/
def over (o : Ob) (f t : Int) : Int := max 0 (min (o.1 + o.2 : Int) t - max (o.1 : Int) f)
def overs (L : List Ob) (f t : Int) : Int := (L.map fun o => over o f t).sum
theorem cnt_run (a b n : Nat) (h1 : a ≤ b) (h2 : b ≤ n) : cnt (fun i => decide (a ≤ i ∧ i < b)) n = b - a := by
  induction n generalizing b with
  | zero => rw [cnt_zero]; omega
  | succ n ih =>
    rw [cnt_succ]
    rcases Nat.lt_or_ge n b with h | h
    · have e : cnt (fun i => decide (a ≤ i ∧ i < b)) n = cnt (fun i => decide (a ≤ i ∧ i < b - 1)) n ∨ a = b := by
        by_cases hab : a = b
        · exact .inr hab
        · exact .inl (cnt_congr (fun i hi => decide_eq_decide.2 (by omega)))
      rcases e with e | e
      · by_cases hab : a = b
        · subst hab
          rw [cnt_none (fun i _ => decide_eq_false (by omega)), decide_eq_false (by omega)]; simp
        · rw [e, ih (b - 1) (by omega) (by omega), decide_eq_true (by omega)]; simp; omega
      · subst e
        rw [cnt_none (fun i _ => decide_eq_false (by omega)), decide_eq_false (by omega)]; simp
    · rw [ih b h1 h, decide_eq_false (by omega)]; simp
theorem liveN_nil (n : Nat) (f t : Int) : liveN [] n f t = 0 := cnt_none (fun i _ => by simp [liveB])
theorem cnt_over {n : Nat} {o : Ob} (ho : o.1 + o.2 ≤ n) (f t : Int) : ((cnt (fun i => decide (f ≤ (i : Nat) ∧ ((i : Nat) : Int) < t) && decide (o.1 ≤ i ∧ i < o.1 + o.2)) n : Nat) : Int) = over o f t := by
  unfold over
  by_cases h : max (o.1 : Int) f < min (o.1 + o.2 : Int) t
  · have e : cnt (fun i => decide (f ≤ (i : Nat) ∧ ((i : Nat) : Int) < t) && decide (o.1 ≤ i ∧ i < o.1 + o.2)) n = cnt (fun i => decide ((max (o.1 : Int) f).toNat ≤ i ∧ i < (min (o.1 + o.2 : Int) t).toNat)) n :=
      cnt_congr (fun i _ => by rw [← Bool.decide_and]; exact decide_eq_decide.2 (by omega))
    rw [e, cnt_run _ _ _ (by omega) (by omega)]; omega
  · rw [cnt_none (fun i _ => by rw [← Bool.decide_and]; exact decide_eq_false (by omega))]; omega
theorem liveN_eq {n : Nat} : ∀ {L : List Ob}, Good n L → ∀ (f t : Int), ((liveN L n f t : Nat) : Int) = overs L f t := by
  intro L
  induction L with
  | nil => intro _ f t; rw [liveN_nil]; rfl
  | cons o r ih =>
    intro h f t
    obtain ⟨h1, h2⟩ := List.pairwise_cons.1 h.pw
    have hr : Good n r := ⟨h2, fun q hq => h.sz q (List.mem_cons_of_mem _ hq)⟩
    have ho := h.sz o (List.mem_cons_self ..)
    have hs := cnt_or (f := fun i => decide (f ≤ (i : Nat) ∧ ((i : Nat) : Int) < t) && decide (o.1 ≤ i ∧ i < o.1 + o.2)) (g := fun i => decide (f ≤ (i : Nat) ∧ ((i : Nat) : Int) < t) && liveB r i) (fun i => by
      by_cases hc : o.1 ≤ i ∧ i < o.1 + o.2
      · have : liveB r i = false := by
          cases hb : liveB r i with
          | false => rfl
          | true => obtain ⟨q, hq, h3, h4⟩ := liveB_iff.1 hb; have := h1 q hq; omega
        rw [this]; simp
      · rw [decide_eq_false hc]; simp) n
    have e : liveN (o :: r) n f t = cnt (fun i => (decide (f ≤ (i : Nat) ∧ ((i : Nat) : Int) < t) && decide (o.1 ≤ i ∧ i < o.1 + o.2)) || (decide (f ≤ (i : Nat) ∧ ((i : Nat) : Int) < t) && liveB r i)) n :=
      cnt_congr (fun i _ => by rw [← Bool.and_or_distrib_left]; rfl)
    rw [e, hs, Int.natCast_add, cnt_over ho.2]
    have := ih hr f t
    unfold liveN at this
    rw [this]
    simp [overs]
theorem overs_append (L M : List Ob) (f t : Int) : overs (L ++ M) f t = overs L f t + overs M f t := by simp [overs]
theorem over_zero {o : Ob} {f t : Int} (h : (o.1 + o.2 : Int) ≤ f ∨ t ≤ o.1) : over o f t = 0 := by unfold over; omega
theorem overs_zero {L : List Ob} {f t : Int} (h : ∀ o ∈ L, (o.1 + o.2 : Int) ≤ f ∨ t ≤ o.1) : overs L f t = 0 := by
  induction L with
  | nil => rfl
  | cons o r ih =>
    have := ih (fun q hq => h q (List.mem_cons_of_mem _ hq))
    have h2 := over_zero (h o (List.mem_cons_self ..))
    simp only [overs, List.map_cons, List.sum_cons] at this ⊢
    omega
theorem overs_take {L : List Ob} {j : Nat} (hj : j < L.length) (f t : Int) : overs (L.take (j + 1)) f t = overs (L.take j) f t + over L[j] f t := by
  rw [List.take_succ_eq_append_getElem hj, overs_append]; simp [overs]
theorem overs_split (L : List Ob) (j : Nat) (f t : Int) : overs L f t = overs (L.take j) f t + overs (L.drop j) f t := by
  rw [← overs_append, List.take_append_drop]
theorem mem_take_lt {L : List Ob} {j : Nat} {o : Ob} (h : o ∈ L.take j) : ∃ i, ∃ hi : i < L.length, i < j ∧ L[i] = o := by
  obtain ⟨i, hi, rfl⟩ := List.getElem_of_mem h
  simp only [List.length_take] at hi
  exact ⟨i, by omega, by omega, by rw [List.getElem_take]⟩
theorem mem_drop_ge {L : List Ob} {j : Nat} {o : Ob} (h : o ∈ L.drop j) : ∃ i, ∃ hi : i < L.length, j ≤ i ∧ L[i] = o := by
  obtain ⟨i, hi, rfl⟩ := List.getElem_of_mem h
  simp only [List.length_drop] at hi
  exact ⟨j + i, by omega, by omega, by rw [List.getElem_drop]⟩
/-- Where the sum stands when the loop over the objects begins: those ahead of the next one from f on. -/
theorem overs_head {n : Nat} {L : List Ob} (h : Good n L) {f t : Int} :
    overs (L.take (nextO L f)) f t = if findO L f < L.length ∧ (L[findO L f]?.getD (0, 0)).1 < f ∧ f < t then min ((L[findO L f]?.getD (0, 0)).1 + (L[findO L f]?.getD (0, 0)).2 : Int) t - f else 0 := by
  by_cases hfi : findO L f < L.length
  · have hy := findO_yes hfi
    have hg : L[findO L f]?.getD (0, 0) = L[findO L f] := by rw [List.getElem?_eq_getElem hfi]; rfl
    rw [hg]
    by_cases hlt : (L[findO L f].1 : Int) < f
    · have hn : nextO L f = findO L f + 1 := nextO_eq (by omega) (fun i hi hij => by
        rcases Nat.lt_or_ge i (findO L f) with h1 | h1
        · have := h.at hi hfi h1; omega
        · have : i = findO L f := by omega
          subst this; omega) (fun h2 => by have := h.at hfi h2 (Nat.lt_succ_self _); omega)
      rw [hn, overs_take hfi, overs_zero (fun o ho => by
        obtain ⟨i, hi, hij, rfl⟩ := mem_take_lt ho
        have := h.at hi hfi hij; left; omega)]
      by_cases hft : f < t
      · rw [if_pos ⟨hfi, by omega, hft⟩]; unfold over; omega
      · rw [if_neg (by omega)]; unfold over; omega
    · rw [if_neg (by omega)]
      refine overs_zero (fun o ho => ?_)
      obtain ⟨i, hi, hij, rfl⟩ := mem_take_lt ho
      have h1 := nextO_no hij hi
      rcases Nat.lt_trichotomy i (findO L f) with h2 | rfl | h2
      · have := h.at hi hfi h2; left; omega
      · omega
      · have := h.at hfi hi h2; have := (h.sz _ (List.getElem_mem hfi)).1; omega
  · rw [if_neg (by omega)]
    refine overs_zero (fun o ho => ?_)
    obtain ⟨i, hi, hij, rfl⟩ := mem_take_lt ho
    have h1 := nextO_no hij hi
    have h2 := findO_no (L := L) (a := f) (i := i) (by omega) hi
    left; omega
/-- What lies behind is not of the run. -/
theorem overs_tail {n : Nat} {L : List Ob} (h : Good n L) {j : Nat} {f t : Int} (hj : ∀ hl : j < L.length, t ≤ (L[j].1 : Int)) : overs (L.drop j) f t = 0 := by
  refine overs_zero (fun o ho => ?_)
  obtain ⟨i, hi, hij, rfl⟩ := mem_drop_ge ho
  right
  have := hj (by omega)
  rcases Nat.lt_or_ge j i with h1 | h1
  · have := h.at (i := j) (by omega) hi h1; omega
  · have : i = j := by omega
    subst this; exact hj _
theorem overs_clip {n : Nat} {L : List Ob} (h : Good n L) (f t : Int) : overs L (max f 0) (min t n) = overs L f t := by
  unfold overs
  congr 1
  refine List.map_congr_left (fun o ho => ?_)
  have := h.sz o ho
  unfold over; omega

/-! The k-th live word -/
def sizes : List Ob → Nat
  | [] => 0
  | o :: r => o.2 + sizes r
theorem sizes_take {L : List Ob} {j : Nat} (hj : j < L.length) : sizes (L.take (j + 1)) = sizes (L.take j) + L[j].2 := by
  induction L generalizing j with
  | nil => simp at hj
  | cons o r ih =>
    cases j with
    | zero => simp [sizes]
    | succ j =>
      have := ih (j := j) (by simpa using hj)
      simp only [List.take_succ_cons, sizes, List.getElem_cons_succ] at this ⊢
      omega
theorem overs_all {n : Nat} {L : List Ob} (h : Good n L) : overs L 0 n = sizes L := by
  have key : ∀ (L : List Ob), (∀ o ∈ L, 1 ≤ o.2 ∧ o.1 + o.2 ≤ n) → overs L 0 n = sizes L := by
    intro L
    induction L with
    | nil => intro _; rfl
    | cons o r ih =>
      intro hs
      have h1 := ih (fun q hq => hs q (List.mem_cons_of_mem _ hq))
      have ho := hs o (List.mem_cons_self ..)
      have h2 : over o 0 n = o.2 := by unfold over; omega
      simp only [overs, List.map_cons, List.sum_cons, sizes] at h1 ⊢
      rw [h2]; omega
  exact key L h.sz
theorem overs_upto {n : Nat} {L : List Ob} (h : Good n L) {j i : Nat} (hj : j < L.length) (hi : i ≤ L[j].2) : overs L 0 ((L[j].1 : Int) + i) = sizes (L.take j) + i := by
  rw [overs_split L (j + 1), overs_tail h (j := j + 1) (fun hl => by have := h.at hj hl (Nat.lt_succ_self _); omega), overs_take hj]
  have hg : Good L[j].1 (L.take j) := ⟨h.pw.sublist (List.take_sublist ..), fun o ho => by
    obtain ⟨q, hq, hqj, rfl⟩ := mem_take_lt ho
    have := h.at hq hj hqj
    exact ⟨(h.sz _ (List.getElem_mem hq)).1, this⟩⟩
  have e : overs (L.take j) 0 ((L[j].1 : Int) + i) = overs (L.take j) 0 (L[j].1 : Nat) := by
    unfold overs
    congr 1
    refine List.map_congr_left (fun o ho => ?_)
    have := hg.sz o ho
    unfold over; omega
  rw [e, overs_all hg]
  unfold over; omega
theorem sizes_le {n : Nat} {L : List Ob} (h : Good n L) : sizes L ≤ n := by
  have h1 := overs_all h
  have h2 := liveN_eq h 0 n
  have h3 : liveN L n 0 n ≤ n := cnt_le _ _
  omega
end Go.Proofs.YtbmidhlilafgeaaGreatDoor
end

section
namespace Go.Proofs.YtbmidhlilafgeaaGreatDoor
open Word

def insO : List Ob → Ob → List Ob
  | [], o => [o]
  | q :: r, o => if o.1 < q.1 then o :: q :: r else q :: insO r o
theorem mem_insO {L : List Ob} {o x : Ob} : x ∈ insO L o ↔ x = o ∨ x ∈ L := by
  induction L with
  | nil => simp [insO]
  | cons q r ih =>
    unfold insO
    split
    · simp
    · simp only [List.mem_cons, ih]
      constructor
      · rintro (h | h | h) <;> simp [h]
      · rintro (h | h | h) <;> simp [h]
theorem insO_len (L : List Ob) (o : Ob) : (insO L o).length = L.length + 1 := by
  induction L with
  | nil => rfl
  | cons q r ih => unfold insO; split <;> simp [ih]
theorem insO_good {n : Nat} {L : List Ob} (h : Good n L) {o : Ob} (h1 : 1 ≤ o.2) (h2 : o.1 + o.2 ≤ n) (hd : ∀ q ∈ L, o.1 + o.2 ≤ q.1 ∨ q.1 + q.2 ≤ o.1) : Good n (insO L o) := by
  refine ⟨?_, fun x hx => ?_⟩
  · have key : ∀ (L : List Ob), L.Pairwise (fun o q => o.1 + o.2 ≤ q.1) → (∀ q ∈ L, 1 ≤ q.2) → (∀ q ∈ L, o.1 + o.2 ≤ q.1 ∨ q.1 + q.2 ≤ o.1) → (insO L o).Pairwise (fun o q => o.1 + o.2 ≤ q.1) := by
      intro L
      induction L with
      | nil => intro _ _ _; simp [insO]
      | cons q r ih =>
        intro hp hs hd
        obtain ⟨hp1, hp2⟩ := List.pairwise_cons.1 hp
        have hq := hd q (List.mem_cons_self ..)
        have hqs := hs q (List.mem_cons_self ..)
        unfold insO
        split
        · rename_i hlt
          refine List.pairwise_cons.2 ⟨fun x hx => ?_, hp⟩
          rcases List.mem_cons.1 hx with rfl | hx
          · omega
          · have := hp1 x hx; omega
        · rename_i hlt
          refine List.pairwise_cons.2 ⟨fun x hx => ?_, ih hp2 (fun x hx => hs x (List.mem_cons_of_mem _ hx)) (fun x hx => hd x (List.mem_cons_of_mem _ hx))⟩
          rcases mem_insO.1 hx with rfl | hx
          · omega
          · exact hp1 x hx
    exact key L h.pw (fun q hq => (h.sz q hq).1) hd
  · rcases mem_insO.1 hx with rfl | hx
    · exact ⟨h1, h2⟩
    · exact h.sz x hx
theorem bool_ext {a b : Bool} (h : a = true ↔ b = true) : a = b := Bool.eq_iff_iff.2 h
theorem at_set {l : List Bool} {k i : Nat} {x : Bool} (hk : k < l.length) : at_ (l.set k x) i = if i = k then x else at_ l i := getD_set l k i x hk
theorem starts_ins {n : Nat} {L : List Ob} (h : Good n L) {o : Ob} (h1 : 1 ≤ o.2) (h2 : o.1 + o.2 ≤ n) (hd : ∀ q ∈ L, o.1 + o.2 ≤ q.1 ∨ q.1 + q.2 ≤ o.1) : startsL n (insO L o) = (startsL n L).set o.1 true :=
  ext_at (by rw [List.length_set, startsL_len, startsL_len]) (fun i _ => by
    rw [at_set (by rw [startsL_len]; omega)]
    refine bool_ext ?_
    rw [at_starts (insO_good h h1 h2 hd)]
    split
    · rename_i e; subst e; exact ⟨fun _ => rfl, fun _ => ⟨o, mem_insO.2 (.inl rfl), rfl⟩⟩
    · rename_i e
      rw [at_starts h]
      constructor
      · rintro ⟨q, hq, rfl⟩
        rcases mem_insO.1 hq with rfl | hq
        · exact absurd rfl e
        · exact ⟨q, hq, rfl⟩
      · rintro ⟨q, hq, rfl⟩; exact ⟨q, mem_insO.2 (.inr hq), rfl⟩)
theorem ends_ins {n : Nat} {L : List Ob} (h : Good n L) {o : Ob} (h1 : 1 ≤ o.2) (h2 : o.1 + o.2 ≤ n) (hd : ∀ q ∈ L, o.1 + o.2 ≤ q.1 ∨ q.1 + q.2 ≤ o.1) : endsL n (insO L o) = (endsL n L).set (o.1 + o.2 - 1) true :=
  ext_at (by rw [List.length_set, endsL_len, endsL_len]) (fun i _ => by
    rw [at_set (by rw [endsL_len]; omega)]
    refine bool_ext ?_
    rw [at_ends (insO_good h h1 h2 hd)]
    split
    · rename_i e; subst e; exact ⟨fun _ => rfl, fun _ => ⟨o, mem_insO.2 (.inl rfl), by omega⟩⟩
    · rename_i e
      rw [at_ends h]
      constructor
      · rintro ⟨q, hq, e2⟩
        rcases mem_insO.1 hq with rfl | hq
        · omega
        · exact ⟨q, hq, e2⟩
      · rintro ⟨q, hq, e2⟩; exact ⟨q, mem_insO.2 (.inr hq), e2⟩)

/-- Is a word of a run live? -/
def clashB (L : List Ob) (s z : Int) : Bool := L.any fun o => decide ((o.1 : Int) < s + z ∧ s < o.1 + o.2)
theorem clash_iff {L : List Ob} {s z : Int} : clashB L s z = true ↔ ∃ o ∈ L, (o.1 : Int) < s + z ∧ s < o.1 + o.2 := by simp [clashB]
theorem clash_find {n : Nat} {L : List Ob} (h : Good n L) {s z : Int} (hz : 1 ≤ z) : clashB L s z = (decide (findO L s < L.length) || (decide (nextO L s < L.length) && decide (((L[nextO L s]?.getD (0, 0)).1 : Int) < s + z))) := by
  refine bool_ext ?_
  rw [clash_iff]
  simp only [Bool.or_eq_true, Bool.and_eq_true, decide_eq_true_eq]
  constructor
  · rintro ⟨o, ho, h1, h2⟩
    by_cases hs : (o.1 : Int) ≤ s
    · left
      obtain ⟨j, hj, rfl⟩ := List.getElem_of_mem ho
      rw [findO_eq h hj hs h2]; exact hj
    · right
      obtain ⟨j, hj, rfl⟩ := List.getElem_of_mem ho
      have hn : nextO L s ≤ j := by
        rcases Nat.lt_or_ge j (nextO L s) with hlt | hge
        · have := nextO_no hlt hj; omega
        · exact hge
      refine ⟨by omega, ?_⟩
      rw [List.getElem?_eq_getElem (by omega)]
      show (L[nextO L s].1 : Int) < s + z
      rcases Nat.lt_or_ge (nextO L s) j with hlt | hge
      · have := h.at (i := nextO L s) (by omega) hj hlt; omega
      · have e : L[nextO L s]'(by omega) = L[j] := by congr 1; omega
        rw [e]; exact h1
  · rintro (hf | ⟨hn, hl⟩)
    · have := findO_yes hf
      exact ⟨_, List.getElem_mem hf, by omega, by omega⟩
    · rw [List.getElem?_eq_getElem hn] at hl
      have hl : (L[nextO L s].1 : Int) < s + z := hl
      have hy := nextO_yes hn
      have := (h.sz _ (List.getElem_mem hn)).1
      exact ⟨_, List.getElem_mem hn, hl, by omega⟩
def addE (L : List Ob) (n : Nat) (s z : Int) : Int := if z < 1 then 15 else if s < 0 ∨ (n : Int) ≤ s ∨ (n : Int) - s < z then 11 else if clashB L s z then 7 else 0
def addL (L : List Ob) (n : Nat) (s z : Int) : List Ob := if addE L n s z = 0 then insO L (s.toNat, z.toNat) else L
theorem addE_zero {L : List Ob} {n : Nat} {s z : Int} (h : addE L n s z = 0) : 1 ≤ z ∧ 0 ≤ s ∧ s + z ≤ n ∧ clashB L s z = false := by
  unfold addE at h
  split at h
  · omega
  · split at h
    · omega
    · split at h
      · omega
      · rename_i h1 h2 h3
        refine ⟨by omega, by omega, by omega, by simpa using h3⟩
theorem add_apart {L : List Ob} {s z : Int} (hs : 0 ≤ s) (hz : 1 ≤ z) (h : clashB L s z = false) : ∀ q ∈ L, s.toNat + z.toNat ≤ q.1 ∨ q.1 + q.2 ≤ s.toNat := fun q hq => by
  by_cases hc : (q.1 : Int) < s + z ∧ s < q.1 + q.2
  · have := clash_iff.2 ⟨q, hq, hc⟩; rw [h] at this; cases this
  · omega
theorem addL_good {n : Nat} {L : List Ob} (h : Good n L) (s z : Int) : Good n (addL L n s z) := by
  unfold addL
  split
  · rename_i he
    obtain ⟨h1, h2, h3, h4⟩ := addE_zero he
    exact insO_good h (by show 1 ≤ z.toNat; omega) (by show s.toNat + z.toNat ≤ n; omega) (add_apart h2 h1 h4)
  · exact h

/-! Drop -/
theorem starts_nil (n : Nat) : startsL n [] = List.replicate n false := by unfold startsL; exact ext_at (by simp) (fun i hi => by rw [at_map_range]; simp [at_, List.getD_eq_getElem?_getD, List.getElem?_replicate]; split <;> rfl)
theorem ends_nil (n : Nat) : endsL n [] = List.replicate n false := by unfold endsL; exact ext_at (by simp) (fun i hi => by rw [at_map_range]; simp [at_, List.getD_eq_getElem?_getD, List.getElem?_replicate]; split <;> rfl)
end Go.Proofs.YtbmidhlilafgeaaGreatDoor
end
end
section
section
namespace Go.Proofs.YtbmidhlilafgeaaGreatDoor
open Go.RowKit Word

/-- How many blocks of B there are in n. -/
def nbl (n B : Nat) : Nat := (n + B - 1) / B
theorem nbl_eq {n B j : Nat} (hB : 1 ≤ B) (h1 : n ≤ j * B) (h2 : ∀ i, i < j → i * B < n) : nbl n B = j := by
  unfold nbl
  refine Nat.div_eq_of_lt_le ?_ ?_
  · cases j with
    | zero => simp
    | succ i =>
      have := h2 i (by omega)
      rw [Nat.succ_mul]; omega
  · rw [Nat.succ_mul]; omega
theorem nbl_lt {n B j : Nat} (hB : 1 ≤ B) : j < nbl n B ↔ j * B < n := by
  unfold nbl
  constructor
  · intro h
    have h2 := (Nat.le_div_iff_mul_le (by omega : 0 < B)).1 (show j + 1 ≤ (n + B - 1) / B from h)
    rw [Nat.succ_mul] at h2; omega
  · intro h
    show j + 1 ≤ _
    rw [Nat.le_div_iff_mul_le (by omega), Nat.succ_mul]; omega

set_option maxRecDepth 100000 in
set_option maxHeartbeats 800000 in
theorem ref_may12 (n : Int) (w : World) : Calls Tryz.prog 139 #[.int .i64 n] w fun e w' => e = .returned (.bool (blockOk n)) ∧ w = w' := by
  go_enter Tryz.func139, Tryz.ntmps139
  go_wp2
  go_loop [3] (fun i => ∃ k : Nat, k ∈ [1, 2, 4, 8, 16, 32, 64, 128, 256, 512, 1024, 2048] ∧ Hid (∀ j : Nat, j < k → j ∈ [1, 2, 4, 8, 16, 32, 64, 128, 256, 512, 1024, 2048] → n ≠ j) ∧ i = .int .i64 k) (fun i => 2049 - (intOf i).toNat)
  case atStart => exact ⟨1, by decide, ⟨fun j h1 h2 => by simp at h2; omega⟩, rfl⟩
  case round =>
    obtain ⟨k, hk, hno, rfl⟩ := hrel
    have hk1 : 1 ≤ k ∧ k ≤ 2048 := by simp at hk; omega
    by_cases hle : k ≤ 1024
    · by_cases hn : n = k
      · have hok : blockOk n = true := by rw [hn]; simp at hk; rcases hk with rfl | rfl | rfl | rfl | rfl | rfl | rfl | rfl | rfl | rfl | rfl | rfl <;> first | rfl | omega
        have hb : ((k : Int) == n) = true := by simp; omega
        subst hn
        have HK := hid hok
        clear hok hno hk
        go_wp2
        go_ret
        exact ⟨ret_bool HK.out.symm, rfl⟩
      · have hb : ((k : Int) == n) = false := by simp; omega
        have hn' : (k : Int) ≠ n := fun h => hn h.symm
        have hk2 : Hid (k * 2 ∈ [1, 2, 4, 8, 16, 32, 64, 128, 256, 512, 1024, 2048]) := ⟨by simp at hk ⊢; omega⟩
        have hno2 : Hid (∀ j : Nat, j < k * 2 → j ∈ [1, 2, 4, 8, 16, 32, 64, 128, 256, 512, 1024, 2048] → n ≠ j) := ⟨fun j h1 h2 => by
          by_cases e : j < k
          · exact hno.out j e h2
          · have : j = k := by simp at hk h2; omega
            rw [this]; exact hn⟩
        clear hno hk hn
        go_wp2
        go_round
        case rel => exact ⟨k * 2, hk2.out, hno2, by go_num⟩
        case measure => simp [intOf]; omega
    · have hok : Hid (blockOk n = false) := ⟨by
        cases h : blockOk n with
        | false => rfl
        | true =>
          have hp := blockOk_pos h
          exact absurd (show n = (n.toNat : Int) by omega) (hno.out n.toNat (by simp at hk; omega) (by simp [blockOk] at h ⊢; omega))⟩
      clear hno hk
      go_wp2
      go_ret
      exact ⟨ret_bool hok.out.symm, rfl⟩

end Go.Proofs.YtbmidhlilafgeaaGreatDoor
end

section
namespace Go.Proofs.YtbmidhlilafgeaaGreatDoor
open Go.RowKit Word

end Go.Proofs.YtbmidhlilafgeaaGreatDoor
end

section
namespace Go.Proofs.YtbmidhlilafgeaaGreatDoor
open Go.RowKit Word

/-- An index x lies in w: of the bits l, in blocks of B. -/
structure Idx (w : World) (x p b a : Nat) (l : List Bool) (B : Nat) : Prop where
  vec : Vec w p b l
  b1 : 1 ≤ B
  b2 : B ≤ 1024
  hx : x < w.heap.size
  ha : a < w.heap.size
  c0 : w.cell? ⟨x, 0, none⟩ = some (.pointer (some ⟨p, 0, none⟩))
  c1 : ∃ cap, w.cell? ⟨x, 1, none⟩ = some (.slice (some ⟨a, 0, none⟩) (nbl l.length B) cap)
  c2 : w.cell? ⟨x, 2, none⟩ = some (.int .i64 B)
  c3 : w.cell? ⟨x, 3, none⟩ = some (.int .i64 (cnt (at_ l) l.length : Nat))
  ca : ∀ j, j < nbl l.length B → w.cell? ⟨a, j, none⟩ = some (.int .i64 (cnt (at_ l) (j * B) : Nat))
theorem Idx.touch {S : Nat → Prop} {w w' : World} {x p b a : Nat} {l : List Bool} {B : Nat} (h : Idx w x p b a l B) (t : Touch S w w') (h1 : ¬ S x) (h2 : ¬ S p) (h3 : ¬ S b) (h4 : ¬ S a) : Idx w' x p b a l B := by
  obtain ⟨cap, hc⟩ := h.c1
  exact ⟨h.vec.touch t h2 h3, h.b1, h.b2, Nat.lt_of_lt_of_le h.hx t.size, Nat.lt_of_lt_of_le h.ha t.size, by rw [t.cell h.hx h1]; exact h.c0, ⟨cap, by rw [t.cell h.hx h1]; exact hc⟩, by rw [t.cell h.hx h1]; exact h.c2,
    by rw [t.cell h.hx h1]; exact h.c3, fun j hj => by rw [t.cell h.ha h4]; exact h.ca j hj⟩
theorem Idx.gr {w w' : World} {x p b a : Nat} {l : List Bool} {B : Nat} (h : Idx w x p b a l B) (t : Gr w w') : Idx w' x p b a l B := h.touch (t.touch (fun _ => False)) (fun h => h) (fun h => h) (fun h => h) (fun h => h)
theorem nbl_le {n B : Nat} (h : 1 ≤ B) : nbl n B ≤ n := by
  rcases Nat.lt_or_ge n (nbl n B) with h1 | h1
  · have := (nbl_lt h).1 h1
    have h2 : n * 1 ≤ n * B := Nat.mul_le_mul_left n h
    omega
  · exact h1

theorem rank_ones {w : World} {x p b a : Nat} {l : List Bool} {B : Nat} (hX : Idx w x p b a l B) :
    Calls Tryz.prog 196 #[.pointer (some ⟨x, 0, none⟩)] w fun e w' => e = .returned (.int .i64 (cnt (at_ l) l.length : Nat)) ∧ w = w' := by
  have c3 := hX.c3
  have HX := hid hX
  clear hX
  go_enter Tryz.func196, Tryz.ntmps196
  go_wp2
  go_ret
  exact ⟨rfl, rfl⟩
end Go.Proofs.YtbmidhlilafgeaaGreatDoor
end

section
namespace Go.Proofs.YtbmidhlilafgeaaGreatDoor
open Go.RowKit Word

theorem countL_none (l : List Bool) {b : Int} (h : b ≤ 0) : countL l 0 b = 0 := by
  rw [countL_eq]
  unfold cntI
  have : cnt (fun i => decide ((0 : Int) ≤ (i : Nat) ∧ ((i : Nat) : Int) < b) && at_ l i) l.length = cnt (fun _ => false) l.length := cnt_congr (fun i _ => by rw [decide_eq_false (by omega)]; rfl)
  rw [this]
  generalize l.length = n
  induction n with
  | zero => rfl
  | succ n ih => rw [cnt_succ, ih]; rfl
set_option maxRecDepth 100000 in
set_option maxHeartbeats 1600000 in
theorem rank_before {w : World} {x p b a : Nat} {l : List Bool} {B : Nat} (hX : Idx w x p b a l B) (i : Int) :
    Gets Tryz.prog 199 #[.pointer (some ⟨x, 0, none⟩), .int .i64 i] w (.int .i64 (countL l 0 i : Nat)) := by
  have HX := hid hX
  have k0 := hX.c0
  have k2 := hX.c2
  have k3 := hX.c3
  obtain ⟨cap, k1⟩ := hX.c1
  have n2 := hX.vec.n2
  clear hX
  unfold Gets
  by_cases h0 : i ≤ 0
  · have d0 : decide (i ≤ 0) = true := by simp [h0]
    rw [countL_none l h0]
    clear k0 k1 k2 k3
    go_enter Tryz.func199, Tryz.ntmps199
    go_wp2
    go_ret
    exact ⟨rfl, Gr.refl _⟩
  · obtain ⟨r, rfl⟩ : ∃ r : Nat, i = r := ⟨i.toNat, by omega⟩
    have hr : 0 < r := by omega
    have d0 : decide ((r : Int) ≤ 0) = false := by simp; omega
    by_cases h1 : l.length ≤ r
    · have d1 : decide (l.length ≤ r) = true := by simp [h1]
      rw [countL_all l (by omega)]
      obtain ⟨N, hN⟩ : ∃ N, N = cnt (at_ l) l.length := ⟨_, rfl⟩
      rw [← hN] at k3 ⊢
      clear hN k1 k2
      go_enter Tryz.func199, Tryz.ntmps199
      go_wp2_with (go_at_call 194; refine (len_vec HX.out.vec).mono ?_; rintro e w1 ⟨rfl, rfl⟩)
      go_ret
      exact ⟨rfl, Gr.refl _⟩
    · have d1 : decide (l.length ≤ r) = false := by simp; omega
      obtain ⟨j, hj⟩ : ∃ j, j = r / B := ⟨_, rfl⟩
      have hB := HX.out.b1
      have hB2 := HX.out.b2
      have hjr : j * B ≤ r := by rw [hj]; exact Nat.div_mul_le_self r B
      have hjn : j < nbl l.length B := (nbl_lt hB).2 (by omega)
      have ka := HX.out.ca j hjn
      have q1 : ((r : Int).tdiv (B : Int)) = (j : Int) := by rw [hj]; rfl
      have q2 : ((r : Int) / (B : Int)) = (j : Int) := by rw [hj]; rfl
      obtain ⟨t, ht⟩ : ∃ t, t = j * B := ⟨_, rfl⟩
      have ht' : (j : Int) * (B : Int) = (t : Int) := by rw [ht, Int.natCast_mul]
      have hs := countL_add l (a := 0) (b := (t : Int)) (c := (r : Int)) (by omega) (by omega)
      have hu := countL_upto l (r := t) (by omega)
      rw [← ht] at ka
      rw [hu] at hs
      obtain ⟨c1, hc1⟩ : ∃ c, c = cnt (at_ l) t := ⟨_, rfl⟩
      obtain ⟨c2, hc2⟩ : ∃ c, c = countL l (t : Int) (r : Int) := ⟨_, rfl⟩
      obtain ⟨c3, hc3⟩ : ∃ c, c = countL l 0 (r : Int) := ⟨_, rfl⟩
      have hb1 : c1 ≤ 1048576 := by have := cnt_le (at_ l) t; omega
      have hb2 : c2 ≤ 1048576 := by have := cnt_le (inRun l (t : Int) (r : Int)) l.length; unfold countL at hc2; omega
      rw [← hc1] at ka hs
      rw [← hc2, ← hc3] at hs
      rw [← hc3]
      obtain ⟨N, hN⟩ : ∃ N, N = nbl l.length B := ⟨_, rfl⟩
      rw [← hN] at hjn k1
      have HNn := hid hN
      have htb : (t : Int) ≤ 1048576 := by omega
      have hBp : (B : Int) ≠ 0 := by omega
      have H2 := hid hc2.symm
      have HS := hid hs
      clear hc1 hc2 hc3 hN hj ht hu hs hjr k3
      have hjb : (j : Int) < N := by omega
      have hjl : j ≤ 1048576 := by have := nbl_le (n := l.length) hB; have := HNn.out; omega
      have w3 : IntKind.i64.wrap ((j : Int) * (B : Int)) = (t : Int) := by rw [ht', IntWalk.i64_in _ (by omega)]
      have w4 : IntKind.i64.wrap ((c1 : Int) + (c2 : Int)) = (c3 : Int) := by rw [HS.out, IntWalk.i64_in _ (by have := HS.out; omega)]
      have z0 : ∀ xs m, (grow w xs m).cell? ⟨x, 0, none⟩ = some (.pointer (some ⟨p, 0, none⟩)) := fun xs m => ((grown w xs m).cell HX.out.hx 0).trans k0
      have z1 : ∀ xs m, (grow w xs m).cell? ⟨x, 1, none⟩ = some (.slice (some ⟨a, 0, none⟩) N cap) := fun xs m => ((grown w xs m).cell HX.out.hx 1).trans k1
      have z2 : ∀ xs m, (grow w xs m).cell? ⟨x, 2, none⟩ = some (.int .i64 B) := fun xs m => ((grown w xs m).cell HX.out.hx 2).trans k2
      have z4 : ∀ xs m, (grow w xs m).cell? ⟨a, j, none⟩ = some (.int .i64 c1) := fun xs m => ((grown w xs m).cell HX.out.ha j).trans ka
      go_enter Tryz.func199, Tryz.ntmps199
      go_upto_region 6 with (go_at_call 194; refine (len_vec HX.out.vec).mono ?_; rintro e w1 ⟨rfl, rfl⟩)
      refine wp_region_by (by kernel_rfl) (by kernel_rfl) ?_
      repeat (go_big_quiet_step (first
        | (go_at_call 219; have hc := fun xs m => count_vec (HX.out.vec.gr (grown w xs m)) (t : Int) (r : Int) (by omega); simp only [H2.out] at hc; exact Gets.grown (hc _ _))))
      refine wpQuiet_nil ?_
      intro _ hw'
      obtain ⟨⟨xs, nq⟩, hw''⟩ := hw'
      subst hw''
      go_wp2
      go_ret
      exact ⟨by first | rfl | exact ret_int HS.out, grown w _ _⟩
end Go.Proofs.YtbmidhlilafgeaaGreatDoor
end

section
namespace Go.Proofs.YtbmidhlilafgeaaGreatDoor
open Go.RowKit Word

end Go.Proofs.YtbmidhlilafgeaaGreatDoor
end

section
namespace Go.Proofs.YtbmidhlilafgeaaGreatDoor
open Go.RowKit Word

end Go.Proofs.YtbmidhlilafgeaaGreatDoor
end

section
namespace Go.Proofs.YtbmidhlilafgeaaGreatDoor
open Go.RowKit Word

end Go.Proofs.YtbmidhlilafgeaaGreatDoor
end

section
namespace Go.Proofs.YtbmidhlilafgeaaGreatDoor
open Go.RowKit Word

theorem infoInt : (Tryz.prog.info? 3).map (fun i => (i.zero, i.size, i.bytes)) = some (some (.int .i64 0), 1, 8) := by kernel_rfl
/-- An index of the bits l, apart from all that was there. -/
def NewIdx (w : World) (l : List Bool) (B : Nat) (e : Ending) (w' : World) : Prop :=
  ∃ x p b a, e = .returned (.tuple #[.pointer (some ⟨x, 0, none⟩), .int .i64 0]) ∧ Gr w w' ∧ Idx w' x p b a l B ∧ w.heap.size ≤ x ∧ w.heap.size ≤ p ∧ w.heap.size ≤ b ∧ w.heap.size ≤ a
def aheads (l : List Bool) (B k : Nat) : List Value := (List.range k).map fun j => Value.int .i64 (cnt (at_ l) (j * B) : Nat)
theorem aheads_succ (l : List Bool) (B k : Nat) : aheads l B (k + 1) = aheads l B k ++ [.int .i64 (cnt (at_ l) (k * B) : Nat)] := by
  unfold aheads; rw [List.range_succ, List.map_append]; rfl
/-- What holds between two blocks: k entries are laid, m blocks are counted. -/
structure NewAt (w : World) (l : List Bool) (B X p b BASE k m : Nat) (v : Value) (wr : World) : Prop where
  gr : Gr w wr
  vec : Vec wr p b l
  own : wr.ownsRow BASE 3 1 v k (aheads l B k)
  c0 : wr.cell? ⟨X, 0, none⟩ = some (.pointer (some ⟨p, 0, none⟩))
  c1 : wr.cell? ⟨X, 1, none⟩ = some v
  c2 : wr.cell? ⟨X, 2, none⟩ = some (.int .i64 B)
  c3 : wr.cell? ⟨X, 3, none⟩ = some (.int .i64 (countL l 0 (m * B : Nat) : Nat))
  free : ∀ o, wr.frozen? ⟨X, o, none⟩ = false
  lt : X < BASE
  ltp : p < X
  ltb : b < X
  ge : w.heap.size ≤ p ∧ w.heap.size ≤ b
  base : BASE ≤ wr.heap.size
theorem NewAt.far {w : World} {l : List Bool} {B X p b BASE k m : Nat} {v : Value} {wr : World} (h : NewAt w l B X p b BASE k m v wr) : v.ownBlock ≠ some X := fun e => by
  have := (own_lt h.own e).1; have := h.lt; omega
theorem NewAt.grow {w : World} {l : List Bool} {B X p b BASE k m : Nat} {v : Value} {wr wr' : World} (h : NewAt w l B X p b BASE k m v wr) (g : Gr wr wr') : NewAt w l B X p b BASE k m v wr' := by
  have hX : X < wr.heap.size := by have := h.lt; have := h.base; omega
  exact ⟨h.gr.trans g, h.vec.gr g, own_gr h.own g, (g.cell hX 0).trans h.c0, (g.cell hX 1).trans h.c1, (g.cell hX 2).trans h.c2, (g.cell hX 3).trans h.c3, fun o => (g.frozen hX o).trans (h.free o), h.lt, h.ltp, h.ltb, h.ge, Nat.le_trans h.base g.size⟩
/-- Behind the append and the store into the field. -/
theorem NewAt.append {w : World} {l : List Bool} {B X p b BASE k m : Nat} {v : Value} {wr w1 : World} (h : NewAt w l B X p b BASE k m v wr) {g c : Nat}
    (hown : w1.ownsRow BASE 3 1 (.slice (some ⟨g, 0, none⟩) (k + 1) c) (k + 1) (aheads l B (k + 1))) (hgrow : wr.grownBy w1 v.ownBlock) :
    NewAt w l B X p b BASE (k + 1) m (.slice (some ⟨g, 0, none⟩) (k + 1) c) (w1.setCell ⟨X, 1, none⟩ (.slice (some ⟨g, 0, none⟩) (k + 1) c)) := by
  have hX : X < wr.heap.size := by have := h.lt; have := h.base; omega
  have t : Touch (fun i => v.ownBlock = some i) wr w1 := grown_touch hgrow _ (fun k e _ => e)
  have t2 : Touch (fun i => i = X) w1 (w1.setCell ⟨X, 1, none⟩ (.slice (some ⟨g, 0, none⟩) (k + 1) c)) := (Touch.refl (fun i => i = X) w1).setCell (a := ⟨X, 1, none⟩) (fun _ => rfl) _
  have far : ∀ i, i < BASE → v.ownBlock ≠ some i := fun i hi e => by have := (own_lt h.own e).1; omega
  have hX1 : X < w1.heap.size := Nat.lt_of_lt_of_le hX t.size
  have e : ∀ o, w1.cell? ⟨X, o, none⟩ = wr.cell? ⟨X, o, none⟩ := fun o => t.cell hX (far X h.lt) o
  have o : ∀ o, o ≠ 1 → (w1.setCell ⟨X, 1, none⟩ (.slice (some ⟨g, 0, none⟩) (k + 1) c)).cell? ⟨X, o, none⟩ = wr.cell? ⟨X, o, none⟩ := fun o ho => by
    rw [World.cell?_setCell_other (h := by intro e2; injection e2 with _ e3; omega), e o]
  have hp := h.ltp
  have hb := h.ltb
  have hl := h.lt
  refine ⟨?_, ?_, ?_, (o 0 (by omega)).trans h.c0, ?_, (o 2 (by omega)).trans h.c2, (o 3 (by omega)).trans h.c3, ?_, h.lt, h.ltp, h.ltb, h.ge, Nat.le_trans h.base (Nat.le_trans t.size t2.size)⟩
  · refine (((h.gr.touch (fun _ => False)).trans' t (fun i hi e => ?_)).trans' t2 (fun i hi e => ?_)).gr
    · have := (own_lt h.own e).1; have := h.ge; omega
    · have e : i = X := e; have := h.ge; omega
  · exact (h.vec.touch t (far p (by omega)) (far b (by omega))).touch t2 (by omega) (by omega)
  · refine own_touch hown t2 (fun i hi e => ?_)
    have e : i = X := e
    have := (own_lt hown hi).1; omega
  · exact World.cell?_setCell_same (h := (e 1).trans h.c1) ..
  · intro o
    rw [World.frozen?_setCell, t.frozen hX (far X h.lt)]; exact h.free o
theorem NewAt.count {w : World} {l : List Bool} {B X p b BASE k m : Nat} {v : Value} {wr : World} (h : NewAt w l B X p b BASE k m v wr) {m' : Nat} {z : Int} (hz : z = (countL l 0 (m' * B : Nat) : Nat)) :
    NewAt w l B X p b BASE k m' v (wr.setCell ⟨X, 3, none⟩ (.int .i64 z)) := by
  have hX : X < wr.heap.size := by have := h.lt; have := h.base; omega
  have t2 : Touch (fun i => i = X) wr (wr.setCell ⟨X, 3, none⟩ (.int .i64 z)) := (Touch.refl (fun i => i = X) wr).setCell (a := ⟨X, 3, none⟩) (fun _ => rfl) _
  have hp := h.ltp
  have hb := h.ltb
  have hl := h.lt
  have o : ∀ o, o ≠ 3 → (wr.setCell ⟨X, 3, none⟩ (.int .i64 z)).cell? ⟨X, o, none⟩ = wr.cell? ⟨X, o, none⟩ := fun o ho => by
    rw [World.cell?_setCell_other (h := by intro e2; injection e2 with _ e3; omega)]
  refine ⟨?_, h.vec.touch t2 (by omega) (by omega), ?_, (o 0 (by omega)).trans h.c0, (o 1 (by omega)).trans h.c1, (o 2 (by omega)).trans h.c2, ?_, ?_, h.lt, h.ltp, h.ltb, h.ge, Nat.le_trans h.base t2.size⟩
  · refine ((h.gr.touch (fun _ => False)).trans' t2 (fun i hi e => ?_)).gr
    have e : i = X := e; have := h.ge; omega
  · refine own_touch h.own t2 (fun i hi e => ?_)
    have e : i = X := e
    have := (own_lt h.own hi).1; omega
  · rw [hz]; exact World.cell?_setCell_same (h := h.c3) ..
  · intro o
    rw [World.frozen?_setCell]; exact h.free o
theorem NewAt.done {w : World} {l : List Bool} {B X p b BASE k : Nat} {v : Value} {wr : World} (h : NewAt w l B X p b BASE k k v wr) (h1 : 1 ≤ B) (h2 : B ≤ 1024) (hk : k = nbl l.length B) (hl : l.length ≤ k * B) :
    ∃ a, Idx wr X p b a l B ∧ w.heap.size ≤ a := by
  have hn := h.vec.n1
  have hk0 : k ≠ 0 := by rintro rfl; omega
  obtain ⟨g, c, rfl, hg1, hg2, hg3, hg4⟩ := own_form h.own hk0
  have := h.lt
  have hb := h.base
  refine ⟨g, ⟨h.vec, h1, h2, by omega, hg4, h.c0, ⟨c, by rw [h.c1, hk]⟩, h.c2, ?_, fun j hj => ?_⟩, by have := h.ge; have := h.ltp; omega⟩
  · rw [h.c3, countL_all l (by omega)]
  · refine own_cell h.own ?_
    unfold aheads
    rw [List.getElem?_map, List.getElem?_range (by omega)]; rfl
set_option maxRecDepth 100000 in
set_option maxHeartbeats 800000 in
theorem new_start {w w1 : World} {l : List Bool} {B q r : Nat} {T : TypeId} (hg : Gr w w1) (hV : Vec w1 q r l) (h1 : w.heap.size ≤ q) (h2 : w.heap.size ≤ r) :
    NewAt w l B w1.heap.size q r (w1.heap.size + 1) 0 0 (.slice none 0 0) (w1.alloc (.cells #[.pointer (some ⟨q, 0, none⟩), .slice none 0 0, .int .i64 B, .int .i64 0] T)) := by
  have hp := hV.hp
  have hb := hV.hb
  refine ⟨hg.alloc _, hV.gr ((Gr.refl w1).alloc _), own_nil _ _ _ _, World.cell?_alloc_new .., World.cell?_alloc_new .., World.cell?_alloc_new .., ?_, fun o => World.frozen?_alloc_new .., by omega, hp, hb, ⟨h1, h2⟩, by simp⟩
  rw [show countL l 0 ((0 * B : Nat) : Int) = 0 from countL_none l (by simp)]
  exact World.cell?_alloc_new ..
set_option maxRecDepth 100000 in
set_option maxHeartbeats 800000 in
theorem rank_new_bad {w : World} {p b : Nat} {l : List Bool} (hV : Vec w p b l) (n : Int) (hn : blockOk n = false) (hn2 : n ≤ 9223372036854775807) :
    Calls Tryz.prog 193 #[.pointer (some ⟨p, 0, none⟩), .int .i64 n] w fun e w' => e = .returned (.tuple #[.pointer none, .int .i64 5]) ∧ w = w' := by
  have n1 : ((l.length : Int) == 0) = false := by have := hV.n1; exact beq_eq_false_iff_ne.2 (by omega)
  have HV := hid hV
  rw [blockOk_eq] at hn
  cases hp : powB n with
  | false =>
    have HP := hid hp
    clear hp hn hV
    go_enter Tryz.func193, Tryz.ntmps193
    go_wp2_with (first
      | (go_at_call 194; refine (len_vec HV.out).mono ?_; rintro e w1 ⟨rfl, rfl⟩)
      | (go_at_call 114; refine (power_any n hn2 _).mono ?_; rintro e w1 ⟨rfl, rfl⟩; rw [HP.out]))
    go_ret2
    exact ⟨ret2 rfl rfl, rfl⟩
  | true =>
    rw [hp] at hn
    have d1 : decide ((1024 : Int) < n) = true := by simp at hn; simp; omega
    have HP := hid hp
    clear hp hn hV
    go_enter Tryz.func193, Tryz.ntmps193
    go_wp2_with (first
      | (go_at_call 194; refine (len_vec HV.out).mono ?_; rintro e w1 ⟨rfl, rfl⟩)
      | (go_at_call 114; refine (power_any n hn2 _).mono ?_; rintro e w1 ⟨rfl, rfl⟩; rw [HP.out]))
    go_ret2
    exact ⟨ret2 rfl rfl, rfl⟩
set_option maxRecDepth 100000 in
set_option maxHeartbeats 3200000 in
theorem rank_new_in {w : World} {p b : Nat} {l : List Bool} (hV : Vec w p b l) (B : Nat) (hB : blockOk B = true) :
    Calls Tryz.prog 193 #[.pointer (some ⟨p, 0, none⟩), .int .i64 B] w (NewIdx w l B) := by
  have n1 : ((l.length : Int) == 0) = false := by have := hV.n1; exact beq_eq_false_iff_ne.2 (by omega)
  have n2 := hV.n2
  have hb := blockOk_pos hB
  have hb1 : 1 ≤ B := by omega
  have hb2 : B ≤ 1024 := by omega
  have d1 : decide ((1024 : Int) < (B : Int)) = false := by simp; omega
  have HP : Hid (powB B = true) := ⟨by rw [blockOk_eq] at hB; simp at hB; exact hB.1⟩
  obtain ⟨i0, hi, hz0, hz1, hz2⟩ := info_parts infoInt
  have HV := hid hV
  clear hV hB hb
  go_enter Tryz.func193, Tryz.ntmps193
  go_wp2_with (first
    | (go_at_call 194; refine (len_vec HV.out).mono ?_; rintro e w1 ⟨rfl, rfl⟩)
    | (go_at_call 114; refine (power_any B (by omega) _).mono ?_; rintro e w1 ⟨rfl, rfl⟩; rw [HP.out])
    | (go_at_call 218; refine (copy_vec HV.out).mono ?_; rintro e w1 ⟨q, r, rfl, hg1, hV1, hq1, hq2⟩))
  have HN0 := hid (new_start (B := B) (T := 274) hg1 hV1 hq1 hq2)
  generalize w1.alloc (.cells #[.pointer (some ⟨q, 0, none⟩), .slice none 0 0, .int .i64 B, .int .i64 0] 274) = W2 at *
  obtain ⟨X, hX⟩ : ∃ X, X = w1.heap.size := ⟨_, rfl⟩
  rw [← hX] at HN0 ⊢
  clear hX
  clear hg1 hV1 hq1 hq2
  go_loopw [7] (fun s7 wr => ∃ k t v, Hid (NewAt w l B X q r (X + 1) k k v wr) ∧ Hid (t = k * B) ∧ k ≤ t ∧ t ≤ 1048576 + 1024 ∧ Hid (∀ i, i < k → i * B < l.length) ∧ s7 = .int .i64 (t : Nat)) (fun s7 _ => 1048576 + 1025 - (intOf s7).toNat)
  case atStart => exact ⟨0, 0, _, HN0, ⟨by simp⟩, by omega, by omega, ⟨fun i h => by omega⟩, rfl⟩
  case round =>
    obtain ⟨k, t, v, HN, ht, hkt, htb, hno, rfl⟩ := hrel
    by_cases hlt : t < l.length
    · have HNo : Hid (∀ i, i < k + 1 → i * B < l.length) := ⟨fun i h => by
        rcases Nat.lt_or_ge i k with h1 | h1
        · exact hno.out i h1
        · rw [show i = k by omega, ← ht.out]; exact hlt⟩
      have HT2 : Hid (t + B = (k + 1) * B) := ⟨by rw [Nat.succ_mul, ht.out]⟩
      go_upto_region 9 with (go_at_call 194; refine (len_vec (HV.out.gr HN.out.gr)).mono ?_; rintro e w1 ⟨rfl, rfl⟩)
      have c1 := HN.out.c1
      obtain ⟨c, hc⟩ : ∃ c, c = countL l 0 (k * B : Nat) := ⟨_, rfl⟩
      have c3 := HN.out.c3
      have fr := HN.out.free 1
      rw [← hc] at c3
      have hca : aheads l B (k + 1) = aheads l B k ++ [.int .i64 (c : Nat)] := by
        rw [aheads_succ, hc, countL_upto l (by rw [← ht.out]; omega)]
      have HCA := hid hca
      have HC := hid hc
      have HX : Hid (X < wr.heap.size) := ⟨by have := HN.out.base; omega⟩
      clear hca hc
      have KS : Hid (∀ W', Gr wr W' → W'.cell? ⟨X, 1, none⟩ = some v ∧ W'.cell? ⟨X, 3, none⟩ = some (.int .i64 (c : Nat)) ∧ W'.frozen? ⟨X, 1, none⟩ = false) := ⟨fun W' h => ⟨(h.cell HX.out 1).trans c1, (h.cell HX.out 3).trans c3, (h.frozen HX.out 1).trans fr⟩⟩
      obtain ⟨S, hS⟩ : ∃ S : World → Prop, S = fun W' => W'.cell? ⟨X, 1, none⟩ = some v ∧ W'.cell? ⟨X, 3, none⟩ = some (.int .i64 (c : Nat)) ∧ W'.frozen? ⟨X, 1, none⟩ = false := ⟨_, rfl⟩
      have x1 : ∀ p : Held S, p.w.cell? ⟨X, 1, none⟩ = some v := fun p => (Held.get hS p).1
      have x3 : ∀ p : Held S, p.w.cell? ⟨X, 3, none⟩ = some (.int .i64 (c : Nat)) := fun p => (Held.get hS p).2.1
      have hS0 : S wr.drew := by rw [hS]; exact KS.out _ (Gr.refl _).drew
      have HS := hid hS
      clear hS
      have inst : Inhabited (Held S) := ⟨⟨_, hS0⟩⟩
      refine wp_region_mixS S 13 [([0, 1, 2, 3, 4, 5, 6, 7, 8], 9), ([], 10), ([11, 12], 13)] [] (by kernel_rfl) (by kernel_rfl) hS0 ?_
      refine segs_step ?_
      simp only [opsAt, List.getElem?_cons_zero, List.getElem?_cons_succ]
      repeat (go_big_quiet_step (fail))
      refine wpQuiet_nil ?_
      go_wp2
      refine ⟨.inr (Held.of (by rw [HS.out]; exact KS.out _ ((Gr.refl _).alloc _).drew)), ?_⟩
      refine segs_step ?_
      simp only [opsAt, List.getElem?_cons_zero, List.getElem?_cons_succ]
      refine wpQuiet_nil ?_
      go_wp2_with (at_builtin; refine wpList_append_lies _ rfl _ _ 30 rfl (X + 1) 3 i0 _ 1 8 Tryz.underlying30 hi hz0 hz1 hz2 rfl (by omega) v k (aheads l B k) rfl ((HN.out.own.alloc _).drew) ⟨wr.heap.size, 0, none⟩ 1 1 [.int .i64 (c : Nat)] rfl rfl (World.news_of_block (cs := #[.int .i64 (c : Nat)]) (t := 3) (fr := (0, 0)) (heap_alloc_new wr _)) (by simp [Value.oneCell']) (by omega) (by unfold maxLen; omega) (by omega) (by have := HX.out; simp; omega) (wr.heap.size + 1) (by simp) ?_; intro g cp w1 hown1 hgrow hat hlt1)
      go_frame
      have hg0 : Gr wr (wr.alloc (.cells #[.int .i64 (c : Nat)] 3)).drew := ((Gr.refl _).alloc _).drew
      have hK1 : w1.cell? ⟨X, 1, none⟩ = some v ∧ w1.cell? ⟨X, 3, none⟩ = some (.int .i64 (c : Nat)) ∧ w1.frozen? ⟨X, 1, none⟩ = false := by
        have hz := KS.out _ hg0
        exact ⟨(hgrow.cell_far ⟨X, 1, none⟩ (by have := HX.out; simp; omega) (Ne.symm HN.out.far)).trans hz.1, (hgrow.cell_far ⟨X, 3, none⟩ (by have := HX.out; simp; omega) (Ne.symm HN.out.far)).trans hz.2.1,
          (hgrow.frozen_far ⟨X, 1, none⟩ (by have := HX.out; simp; omega) (Ne.symm HN.out.far)).trans hz.2.2⟩
      refine ⟨.inr (Held.of (by rw [HS.out]; exact hK1)), ?_⟩
      have HM := hid ((HN.out.grow hg0).append (by rw [HCA.out]; exact hown1) hgrow)
      have k1 := hK1.1
      have k3 := hK1.2.2
      clear hg0 hown1 hgrow hat hlt1 hK1
      refine segs_step ?_
      simp only [opsAt, List.getElem?_cons_zero, List.getElem?_cons_succ]
      repeat (go_big_quiet_step (fail))
      refine wpQuiet_nil ?_
      go_wp2
      refine ⟨.inl trivial, ?_⟩
      refine segs_end ?_
      refine wpQuiet_nil ?_
      refine NoPanic.normal ?_
      generalize w1.setCell ⟨X, 1, none⟩ (.slice (some ⟨g, 0, none⟩) (k + 1) cp) = W3 at HM ⊢
      generalize (Value.slice (some ⟨g, 0, none⟩) (k + 1) cp) = v3 at HM ⊢
      clear x1 x3 hS0 HS inst k1 k3 KS c1 c3 fr HX
      clear S
      obtain ⟨tb, htb2⟩ : ∃ tb, tb = t + B := ⟨_, rfl⟩
      obtain ⟨d, hd⟩ : ∃ d, d = countL l (t : Int) (tb : Int) := ⟨_, rfl⟩
      obtain ⟨e, he⟩ : ∃ e, e = countL l 0 ((k + 1) * B : Nat) := ⟨_, rfl⟩
      have hcd : (c : Int) + (d : Int) = (e : Int) := by
        have := countL_add l (a := 0) (b := (t : Int)) (c := (tb : Int)) (by omega) (by omega)
        rw [hd, he, HC.out, ← ht.out, ← HT2.out, ← htb2]
        exact this
      have hel : e ≤ l.length := by rw [he]; exact cnt_le _ _
      have hw1 : IntKind.i64.wrap ((t : Int) + (B : Int)) = (tb : Int) := by rw [htb2, IntWalk.i64_in _ (by omega)]; omega
      have hw2 : IntKind.i64.wrap ((c : Int) + (d : Int)) = (e : Int) := by rw [hcd, IntWalk.i64_in _ (by omega)]
      have HD := hid hd
      have HE := hid he
      have HTB := hid htb2
      have k3 : W3.cell? ⟨X, 3, none⟩ = some (.int .i64 (c : Nat)) := by rw [HM.out.c3, HC.out]
      have fr : W3.frozen? ⟨X, 3, none⟩ = false := HM.out.free 3
      have HX : Hid (X < W3.heap.size) := ⟨by have := HM.out.base; omega⟩
      clear hcd hd he htb2
      go_upto_region 10 with (fail)
      obtain ⟨S, hS⟩ : ∃ S : World → Prop, S = fun W' => W'.cell? ⟨X, 3, none⟩ = some (.int .i64 (c : Nat)) := ⟨_, rfl⟩
      have x3 : ∀ p : Held S, p.w.cell? ⟨X, 3, none⟩ = some (.int .i64 (c : Nat)) := fun p => Held.get hS p
      have hS0 : S W3.drew := by rw [hS]; exact k3
      have HS := hid hS
      clear hS
      have inst : Inhabited (Held S) := ⟨⟨_, hS0⟩⟩
      refine wp_region_mixS S 13 [([0, 1, 2, 3, 4, 5, 6, 7, 8], 9), ([10, 11, 12], 13)] [] (by kernel_rfl) (by kernel_rfl) hS0 ?_
      refine segs_step ?_
      simp only [opsAt, List.getElem?_cons_zero, List.getElem?_cons_succ]
      repeat (go_big_quiet_step (fail))
      refine wpQuiet_nil ?_
      go_wp2_with (go_at_call 219; refine (count_vec (HV.out.gr (HM.out.gr.drew)) (t : Int) (tb : Int) (by omega)).mono ?_; rintro e' W4 ⟨rfl, hg4⟩; rw [← HD.out])
      have hg5 : Gr W3 W4 := (Gr.refl W3).drew.trans hg4
      have q3 := (hg5.cell HX.out 3).trans k3
      have qf := (hg5.frozen HX.out 3).trans fr
      have HM4 := hid ((HM.out.grow hg5).count (m' := k + 1) (z := (e : Nat)) (by rw [HE.out]))
      clear hg4 hg5
      refine ⟨.inr (Held.of (by rw [HS.out]; exact q3)), ?_⟩
      refine segs_step ?_
      simp only [opsAt, List.getElem?_cons_zero, List.getElem?_cons_succ]
      repeat (go_big_quiet_step (fail))
      refine wpQuiet_nil ?_
      go_wp2
      refine ⟨.inl trivial, ?_⟩
      refine segs_end ?_
      refine wpQuiet_nil ?_
      refine NoPanic.normal ?_
      generalize W4.setCell ⟨X, 3, none⟩ (.int .i64 (e : Nat)) = W5 at HM4 ⊢
      clear x3 hS0 HS inst q3 qf k3 fr hw1 hw2
      clear S
      go_wp2
      go_roundw
      case rel => exact ⟨k + 1, t + B, v3, HM4, HT2, by omega, by omega, HNo, by go_num⟩
      case measure => simp [intOf]; omega
    · have E := hid (nbl_eq hb1 (show l.length ≤ k * B by rw [← ht.out]; omega) hno.out)
      have HF := hid (HN.out.done hb1 hb2 E.out.symm (by rw [← ht.out]; omega))
      go_wp2_with (go_at_call 194; refine (len_vec (HV.out.gr HN.out.gr)).mono ?_; rintro e w1 ⟨rfl, rfl⟩)
      go_ret2
      obtain ⟨a, hI, ha⟩ := HF.out
      exact ⟨X, q, r, a, ret2 rfl rfl, HN.out.gr, hI, by have := HN.out.ge; have := HN.out.ltp; omega, HN.out.ge.1, HN.out.ge.2, ha⟩
end Go.Proofs.YtbmidhlilafgeaaGreatDoor
end

section
namespace Go.Proofs.YtbmidhlilafgeaaGreatDoor
open Go.RowKit Word

end Go.Proofs.YtbmidhlilafgeaaGreatDoor
end
end
