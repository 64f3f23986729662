/- Package pages: a map of pages. Package pages: set. Package pages: set, Put, Frame, Drop, New. Package pages: Put, Frame, Drop, New. -/
import Derived.Test.YtbmidhlilafgeaaGreatDoorKM1
section
namespace Go.Proofs.YtbmidhlilafgeaaGreatDoor
open Go.RowKit Word

def u32s (l : List Nat) : List Value := l.map fun x => .int .u32 (x : Nat)
/-- The entries of table number k. -/
def tabOf (pt : List Nat) (k : Nat) : List Nat := (List.range 256).map fun i => pt.getD (256 * k + i) 0
def nz (l : List Nat) : Nat := cnt (fun i => l.getD i 0 != 0) l.length
def tabRow (pt : List Nat) (k : Nat) : List Value := u32s (tabOf pt k) ++ [.int .i64 (nz (tabOf pt k) : Nat)]
def ptrs (L : List (Option Nat)) : List Value := L.map fun b => .pointer (b.map fun b => ⟨b, 0, none⟩)
def ntab (n : Nat) : Nat := (n + 255) / 256
structure PtOk (pt : List Nat) : Prop where
  n1 : 1 ≤ pt.length
  n2 : pt.length ≤ 524288
  lt : ∀ x ∈ pt, x < 4294967296
/-- A map q of pages lies in w, all of it in blocks of S: each page's frame and 1; 0: none. -/
structure PgAt (w : World) (S : Nat → Prop) (q : Nat) (pt : List Nat) : Prop where
  ok : PtOk pt
  sq : S q
  row : ∃ g c L, Rec w q 220 [.slice (some ⟨g, 0, none⟩) (ntab pt.length) c, .int .i64 pt.length, .int .i64 (nz pt : Nat)] ∧ ntab pt.length ≤ c ∧ c ≤ maxLen ∧ S g ∧
    w.ownsRow 0 254 1 (.slice (some ⟨g, 0, none⟩) (ntab pt.length) c) (ntab pt.length) (ptrs L) ∧
    (∀ k, k < ntab pt.length → match L.getD k none with
      | none => ∀ i, i < 256 → pt.getD (256 * k + i) 0 = 0
      | some b => S b ∧ Rec w b 257 (tabRow pt k)) ∧
    (∀ k j b, L.getD k none = some b → L.getD j none = some b → k = j)
theorem tabOf_len (pt : List Nat) (k : Nat) : (tabOf pt k).length = 256 := by simp [tabOf]
theorem tabOf_at (pt : List Nat) (k : Nat) {i : Nat} (h : i < 256) : (tabOf pt k).getD i 0 = pt.getD (256 * k + i) 0 := by simp [tabOf, List.getD_eq_getElem?_getD, h]
theorem tabRow_at (pt : List Nat) (k : Nat) {i : Nat} (h : i < 256) : (tabRow pt k)[i]? = some (.int .u32 (pt.getD (256 * k + i) 0 : Nat)) := by
  unfold tabRow u32s
  rw [List.getElem?_append_left (by simp [tabOf_len, h])]
  simp [tabOf, h]
theorem tabRow_n (pt : List Nat) (k : Nat) : (tabRow pt k)[256]? = some (.int .i64 (nz (tabOf pt k) : Nat)) := by
  unfold tabRow u32s
  rw [List.getElem?_append_right (by simp [tabOf_len])]
  simp [tabOf_len]
theorem PgAt.touch {S T : Nat → Prop} {w w' : World} {q : Nat} {pt : List Nat} (h : PgAt w S q pt) (t : Touch T w w') (hS : ∀ k, S k → k < w.heap.size → ¬ T k) : PgAt w' S q pt := by
  obtain ⟨ok, sq, g, c, L, hr, h1, h2, sg, ho, ht, hd⟩ := h
  refine ⟨ok, sq, g, c, L, hr.touch t (hS q sq hr.lt), h1, h2, sg, own_touch ho t (fun b hb => by cases hb; exact hS g sg (own_lt ho rfl).2), fun k hk => ?_, hd⟩
  have := ht k hk
  cases hl : L.getD k none with
  | none => rw [hl] at this; exact this
  | some b => rw [hl] at this; exact ⟨this.1, this.2.touch t (hS b this.1 this.2.lt)⟩
theorem PgAt.gr {S : Nat → Prop} {w w' : World} {q : Nat} {pt : List Nat} (h : PgAt w S q pt) (t : Gr w w') : PgAt w' S q pt := h.touch (t.touch (fun _ => False)) (fun _ _ _ h => h)
theorem PgAt.mono {S T : Nat → Prop} {w : World} {q : Nat} {pt : List Nat} (h : PgAt w S q pt) (hT : ∀ k, S k → T k) : PgAt w T q pt := by
  obtain ⟨ok, sq, g, c, L, hr, h1, h2, sg, ho, ht, hd⟩ := h
  refine ⟨ok, hT _ sq, g, c, L, hr, h1, h2, hT _ sg, ho, fun k hk => ?_, hd⟩
  have := ht k hk
  cases hl : L.getD k none with
  | none => rw [hl] at this; exact this
  | some b => rw [hl] at this; exact ⟨hT _ this.1, this.2⟩
theorem ntab_le {n : Nat} (h : n ≤ 524288) : ntab n ≤ 2048 := by unfold ntab; omega
theorem ntab_lt {n p : Nat} (h : p < n) : p / 256 < ntab n := by unfold ntab; omega
theorem ptrs_at {L : List (Option Nat)} {k : Nat} (h : k < L.length) : (ptrs L)[k]? = some (.pointer ((L.getD k none).map fun b => ⟨b, 0, none⟩)) := by
  simp [ptrs, List.getD_eq_getElem?_getD, h]
section
variable {w : World} {S : Nat → Prop} {q : Nat} {pt : List Nat}
set_option maxHeartbeats 800000 in
theorem pg_get (hM : PgAt w S q pt) {p : Nat} (hp : p < pt.length) : Calls Tryz.prog 158 #[.pointer (some ⟨q, 0, none⟩), .int .i64 p] w fun e w' => e = .returned (.int .u32 (pt.getD p 0 : Nat)) ∧ w = w' := by
  obtain ⟨ok, sq, g, c, L, hr, h1, h2, sg, ho, ht, hd⟩ := hM
  have hn := ntab_le ok.n2
  have hk := ntab_lt hp
  have hLl : L.length = ntab pt.length := by have := ho.1; simp [ptrs] at this; exact this
  have c0 := hr.cell (j := 0) rfl
  have k0 := own_cell ho (ptrs_at (L := L) (k := p / 256) (by omega))
  have hh := ht _ hk
  obtain ⟨k, hkk⟩ : ∃ k, k = p / 256 := ⟨_, rfl⟩
  obtain ⟨i, hii⟩ : ∃ i, i = p % 256 := ⟨_, rfl⟩
  have hpk : 256 * k + i = p := by omega
  have hi : i < 256 := by omega
  have e1 : (p : Int) / 256 = (k : Int) := by omega
  have e2 : (p : Int) % 256 = (i : Int) := by omega
  rw [← hkk] at k0 hk hh
  have hpb : (p : Int) ≤ 524288 := by have := ok.n2; omega
  have hkI : (k : Int) < (ntab pt.length : Int) := by omega
  have hiI : (i : Int) < 256 := by omega
  unfold maxLen at h2
  cases hl : L.getD k none with
  | none =>
    rw [hl] at hh k0
    have E := hid (hh i hi)
    rw [hpk] at E
    rw [E.out]
    clear hr ho ht hh hd hii hkk hpk hl
    go_enter Tryz.func158, Tryz.ntmps158
    go_wp2
    go_ret
    exact ⟨rfl, rfl⟩
  | some b =>
    rw [hl] at hh k0
    have k1 := hh.2.cell (tabRow_at pt k hi)
    rw [hpk] at k1
    clear hp
    generalize pt.getD p 0 = x at k1 ⊢
    clear hr ho ht hh hd hii hkk hpk hl
    go_enter Tryz.func158, Tryz.ntmps158
    go_wp2
    go_ret
    exact ⟨rfl, rfl⟩
/-- Whether a page is none of the map's. -/
def pgE (pt : List Nat) (p : Int) : Int := if 0 ≤ p ∧ p < pt.length then 0 else 11
def pgsE (pt : List Nat) (l : List Int) : Int := if l.all (fun p => decide (pgE pt p = 0)) then 0 else 11
theorem pgE_cut (pt : List Nat) (p : Int) : (decide (p < 0) = true ∧ pgE pt p = 11) ∨ (decide (p < 0) = false ∧ decide ((pt.length : Int) ≤ p) = true ∧ pgE pt p = 11) ∨ (decide (p < 0) = false ∧ decide ((pt.length : Int) ≤ p) = false ∧ pgE pt p = 0) := by
  unfold pgE
  by_cases h0 : p < 0
  · exact .inl ⟨decide_eq_true h0, if_neg (by omega)⟩
  · by_cases h1 : (pt.length : Int) ≤ p
    · exact .inr (.inl ⟨decide_eq_false h0, decide_eq_true h1, if_neg (by omega)⟩)
    · exact .inr (.inr ⟨decide_eq_false h0, decide_eq_false h1, if_pos (by omega)⟩)
theorem pgsE_end {pt : List Nat} {l : List Int} (h : ∀ i, i < l.length → pgE pt (l.getD i 0) = 0) : pgsE pt l = 0 := by
  unfold pgsE
  rw [if_pos]
  rw [List.all_eq_true]
  intro x hx
  obtain ⟨i, hi, rfl⟩ := List.mem_iff_getElem.1 hx
  have := h i hi
  rw [List.getD_eq_getElem?_getD, List.getElem?_eq_getElem hi] at this
  exact decide_eq_true this
theorem pgsE_at {pt : List Nat} {l : List Int} {i : Nat} (hi : i < l.length) (h : pgE pt (l.getD i 0) = 11) : pgsE pt l = 11 := by
  unfold pgsE
  rw [if_neg]
  rw [List.all_eq_true]
  intro ha
  have := ha l[i] (List.getElem_mem hi)
  rw [List.getD_eq_getElem?_getD, List.getElem?_eq_getElem hi] at h
  rw [Option.getD_some] at h
  rw [h] at this
  exact absurd this (by decide)
theorem pg_in (hM : PgAt w S q pt) {b n : Nat} {l : List Int} (hn : l.length = n) (hn2 : n ≤ 2) (hc : ∀ i, i < n → w.cell? ⟨b, i, none⟩ = some (.int .i64 (l.getD i 0))) : Calls Tryz.prog 157 #[.pointer (some ⟨q, 0, none⟩), .slice (some ⟨b, 0, none⟩) n n] w fun e w' => e = .returned (.int .i64 (pgsE pt l)) ∧ w = w' := by
  obtain ⟨ok, sq, g, c, L, hr, -⟩ := hM
  have c1 := hr.cell (j := 1) rfl
  have HC := hid hc
  clear hr hc
  go_enter Tryz.func157, Tryz.ntmps157
  go_wp2
  go_loop [11] (fun i => ∃ k : Nat, k ≤ n ∧ i = .int .i64 k ∧ Hid (∀ i, i < k → pgE pt (l.getD i 0) = 0)) (fun i => n - (intOf i).toNat)
  case atStart => exact ⟨0, by omega, rfl, ⟨fun i h => by omega⟩⟩
  case round =>
    obtain ⟨k, hk, rfl, hk1⟩ := hrel
    by_cases hlt : k < n
    · have hcell := HC.out k hlt
      have hq := pgE_cut pt (l.getD k 0)
      have H1 := hid (fun h => pgsE_at (pt := pt) (l := l) (i := k) (by omega) h)
      have H2 : Hid (pgE pt (l.getD k 0) = 0 → ∀ i, i < k + 1 → pgE pt (l.getD i 0) = 0) := ⟨fun h i hi => by
        by_cases e : i = k
        · subst e; exact h
        · exact hk1.out i (by omega)⟩
      generalize l.getD k 0 = p at hcell hq H1 H2
      clear hk1 HC hn
      rcases hq with ⟨d0, E⟩ | ⟨d0, d1, E⟩ | ⟨d0, d1, E⟩
      · have E := hid E
        go_wp2
        go_ret
        exact ⟨ret_int (by rw [H1.out E.out]), rfl⟩
      · have E := hid E
        go_wp2
        go_ret
        exact ⟨ret_int (by rw [H1.out E.out]), rfl⟩
      · have E := hid E
        go_wp2
        go_round
        case rel => exact ⟨k + 1, by omega, by go_num, ⟨H2.out E.out⟩⟩
        case measure => simp [intOf]; omega
    · obtain rfl : k = n := by omega
      have E := hid (pgsE_end (pt := pt) (l := l) (by rw [hn]; exact hk1.out))
      clear hk1 HC hn
      go_wp2
      go_ret
      exact ⟨ret_int (by rw [E.out]), rfl⟩
end
end Go.Proofs.YtbmidhlilafgeaaGreatDoor
end

section
namespace Go.Proofs.YtbmidhlilafgeaaGreatDoor
open Go.RowKit Word

theorem zero_table : (Tryz.zeroCells257).toList = u32s (List.replicate 256 0) ++ [.int .i64 0] := by kernel_rfl
theorem nz_at (l : List Nat) : nz l = cnt (at_ (l.map fun x => x != 0)) l.length := by
  unfold nz
  refine cnt_congr fun i hi => ?_
  simp [at_, hi]
theorem nz_set {l : List Nat} {i x : Nat} (hi : i < l.length) (h : l.getD i 0 = 0) (hx : x ≠ 0) : nz (l.set i x) = nz l + 1 := by
  have hm : (l.map fun x => x != 0).length = l.length := List.length_map _
  rw [nz_at, nz_at, List.length_set, List.map_set, ← hm]
  have : (x != 0) = true := by simp [hx]
  rw [this]
  refine cnt_set_true (by simpa using hi) ?_
  rw [List.getD_eq_getElem?_getD, List.getElem?_eq_getElem hi] at h
  simp [at_, hi]
  simpa using h
theorem nz_drop {l : List Nat} {i : Nat} (hi : i < l.length) (h : l.getD i 0 ≠ 0) : nz (l.set i 0) + 1 = nz l := by
  have hm : (l.map fun x => x != 0).length = l.length := List.length_map _
  rw [nz_at, nz_at, List.length_set, List.map_set, ← hm]
  have : ((0 : Nat) != 0) = false := rfl
  rw [this]
  refine cnt_set_false (by simpa using hi) ?_
  rw [List.getD_eq_getElem?_getD, List.getElem?_eq_getElem hi] at h
  simp [at_, hi]
  simpa using h
theorem nz_none {l : List Nat} (h : nz l = 0) {i : Nat} (hi : i < l.length) : l.getD i 0 = 0 := by
  have := cnt_zero_iff h i hi
  simpa using this
theorem nz_le (l : List Nat) : nz l ≤ l.length := cnt_le _ _
theorem tabOf_set {pt : List Nat} {k i x : Nat} (hp : 256 * k + i < pt.length) : tabOf (pt.set (256 * k + i) x) k = (tabOf pt k).set i x := by
  apply List.ext_getElem
  · simp [tabOf]
  · intro j h1 h2
    have hj : j < 256 := by simpa [tabOf] using h1
    simp only [tabOf, List.getElem_map, List.getElem_range, List.getElem_set, List.getD_eq_getElem?_getD, List.getElem?_set]
    by_cases e : i = j
    · subst e; simp [hp]
    · rw [if_neg (by omega), if_neg e]
theorem tabOf_other {pt : List Nat} {k i x j : Nat} (hi : i < 256) (hj : j ≠ k) : tabOf (pt.set (256 * k + i) x) j = tabOf pt j := by
  apply List.ext_getElem
  · simp [tabOf]
  · intro y h1 h2
    have hy : y < 256 := by simpa [tabOf] using h1
    simp only [tabOf, List.getElem_map, List.getElem_range, List.getD_eq_getElem?_getD, List.getElem?_set]
    rw [if_neg (by omega)]
theorem tabRow_set {pt : List Nat} {k i x t : Nat} (hp : 256 * k + i < pt.length) (hi : i < 256) (ht : nz ((tabOf pt k).set i x) = t) :
    tabRow (pt.set (256 * k + i) x) k = ((tabRow pt k).set i (.int .u32 x)).set 256 (.int .i64 t) := by
  unfold tabRow
  rw [tabOf_set hp, ht]
  have hl : (u32s (tabOf pt k)).length = 256 := by simp [u32s, tabOf_len]
  rw [List.set_append_left _ _ (by omega), List.set_append_right _ _ (by simp [hl])]
  simp [u32s, List.map_set, tabOf_len]
theorem tabRow_other {pt : List Nat} {k i x j : Nat} (hi : i < 256) (hj : j ≠ k) : tabRow (pt.set (256 * k + i) x) j = tabRow pt j := by
  unfold tabRow; rw [tabOf_other hi hj]
theorem tabRow_len (pt : List Nat) (k : Nat) : (tabRow pt k).length = 257 := by simp [tabRow, u32s, tabOf_len]
section
variable {w : World} {S : Nat → Prop} {q : Nat} {pt : List Nat}
set_option maxRecDepth 100000 in
set_option maxHeartbeats 800000 in
theorem pg_set_none {g n c : Nat} {m : Nat} {k i : Nat} (c0 : w.cell? ⟨q, 0, none⟩ = some (.slice (some ⟨g, 0, none⟩) n c)) (c2 : w.cell? ⟨q, 2, none⟩ = some (.int .i64 m))
    (f2 : w.frozen? ⟨q, 2, none⟩ = false) (cg : w.cell? ⟨g, k, none⟩ = some (.pointer none)) (fg : w.frozen? ⟨g, k, none⟩ = false) (hqg : q ≠ g) (hq : q < w.heap.size) (hg : g < w.heap.size)
    (hk : k < n) (hn : n ≤ 2048) (hi : i < 256) (hm : m ≤ 524288) {x : Nat} (hx : x ≠ 0) {p : Nat} (hp : p = 256 * k + i) : Calls Tryz.prog 185 #[.pointer (some ⟨q, 0, none⟩), .int .i64 p, .int .u32 x] w fun e w' => e = .returned (.tuple #[]) ∧
      w' = ((w.setCell ⟨g, k, none⟩ (.pointer (some ⟨w.heap.size, 0, none⟩))).setCell ⟨q, 2, none⟩ (.int .i64 (m + 1))).alloc
      (Obj.cells ((Tryz.zeroCells257.setIfInBounds i (.int .u32 x)).setIfInBounds 256 (.int .i64 1)) 257) := by
  have e1 : (p : Int) / 256 = (k : Int) := by omega
  have e2 : (p : Int) % 256 = (i : Int) := by omega
  have b1 : (p : Int) ≤ 524288 := by omega
  have hkI : (k : Int) < (n : Int) := by omega
  have hiI : (i : Int) < 256 := by omega
  have d0 : ((x : Int) == 0) = false := by simpa using hx
  have hz : ∀ h, (Tryz.zeroCells257.setIfInBounds i (.int .u32 x))[256]'h = .int .i64 0 := by
    intro h
    rw [Array.getElem_setIfInBounds_ne _ (by omega)]
    have hl : (Tryz.zeroCells257).toList.length = 257 := by rw [zero_table]; simp [u32s]
    rw [← Array.getElem_toList]
    · have : (Tryz.zeroCells257).toList[256]? = some (.int .i64 0) := by rw [zero_table, List.getElem?_append_right (by simp [u32s])]; simp [u32s]
      rw [List.getElem?_eq_getElem (by omega)] at this
      exact Option.some.inj this
    · have hl : (Tryz.zeroCells257).toList.length = 257 := by rw [zero_table]; simp [u32s]
      rw [Array.length_toList] at hl
      rw [hl]; omega
  clear hp
  go_enter Tryz.func185, Tryz.ntmps185
  go_wp2
  go_end0
  exact ⟨rfl, rfl⟩
def pgSet (w : World) (b i x t' q m' g k : Nat) : World :=
  if t' = 0 then (((w.setCell ⟨b, i, none⟩ (.int .u32 x)).setCell ⟨b, 256, none⟩ (.int .i64 t')).setCell ⟨q, 2, none⟩ (.int .i64 m')).setCell ⟨g, k, none⟩ (.pointer none)
  else ((w.setCell ⟨b, i, none⟩ (.int .u32 x)).setCell ⟨b, 256, none⟩ (.int .i64 t')).setCell ⟨q, 2, none⟩ (.int .i64 m')
set_option maxRecDepth 100000 in
set_option maxHeartbeats 1600000 in
theorem pg_set_some {g n c b : Nat} {m t t' m' : Nat} {y : Value} {k i : Nat} (c0 : w.cell? ⟨q, 0, none⟩ = some (.slice (some ⟨g, 0, none⟩) n c)) (c2 : w.cell? ⟨q, 2, none⟩ = some (.int .i64 m))
    (f2 : w.frozen? ⟨q, 2, none⟩ = false) (cg : w.cell? ⟨g, k, none⟩ = some (.pointer (some ⟨b, 0, none⟩))) (fg : w.frozen? ⟨g, k, none⟩ = false)
    (cb : w.cell? ⟨b, i, none⟩ = some y) (cn : w.cell? ⟨b, 256, none⟩ = some (.int .i64 t)) (fi : w.frozen? ⟨b, i, none⟩ = false) (fn : w.frozen? ⟨b, 256, none⟩ = false)
    (hqg : q ≠ g) (hbg : b ≠ g) (hbq : b ≠ q) (hk : k < n) (hn : n ≤ 2048) (hi : i < 256) (hm : m ≤ 524288) (hm' : m' ≤ 524288) (ht : t ≤ 256) (ht' : t' ≤ 256) {x : Nat} (hx : x < 4294967296)
    (hby : if x = 0 then t' + 1 = t ∧ m' + 1 = m else t' = t + 1 ∧ m' = m + 1) {p : Nat} (hp : p = 256 * k + i) : Calls Tryz.prog 185 #[.pointer (some ⟨q, 0, none⟩), .int .i64 p, .int .u32 x] w fun e w' => e = .returned (.tuple #[]) ∧
      w' = pgSet w b i x t' q m' g k := by
  have e1 : (p : Int) / 256 = (k : Int) := by omega
  have e2 : (p : Int) % 256 = (i : Int) := by omega
  have b1 : (p : Int) ≤ 524288 := by omega
  have hkI : (k : Int) < (n : Int) := by omega
  have hiI : (i : Int) < 256 := by omega
  have hi6 : ¬ i = 256 := by omega
  clear hp
  by_cases h0 : x = 0
  · rw [if_pos h0] at hby
    subst h0
    obtain ⟨rfl, rfl⟩ := hby
    have a1 : (t' : Int) + 1 + -1 = (t' : Int) := by omega
    have a2 : (m' : Int) + 1 + -1 = (m' : Int) := by omega
    by_cases h1 : t' = 0
    · subst h1
      have E : pgSet w b i 0 0 q m' g k = _ := if_pos rfl
      rw [E]
      clear E
      go_enter Tryz.func185, Tryz.ntmps185
      go_wp2
      go_end0
      exact ⟨rfl, rfl⟩
    · have d1 : ((t' : Int) == 0) = false := by simpa using h1
      have E : pgSet w b i 0 t' q m' g k = _ := if_neg h1
      rw [E]
      clear E
      go_enter Tryz.func185, Tryz.ntmps185
      go_wp2
      go_end0
      exact ⟨rfl, rfl⟩
  · rw [if_neg h0] at hby
    obtain ⟨rfl, rfl⟩ := hby
    have d0 : ((x : Int) == 0) = false := by simpa using h0
    have d1 : (((t + 1 : Nat) : Int) == 0) = false := by simp; omega
    have E : pgSet w b i x (t + 1) q (m + 1) g k = _ := if_neg (by omega)
    rw [E]
    clear E
    go_enter Tryz.func185, Tryz.ntmps185
    go_wp2
    go_end0
    exact ⟨rfl, rfl⟩
end
end Go.Proofs.YtbmidhlilafgeaaGreatDoor
end

section
namespace Go.Proofs.YtbmidhlilafgeaaGreatDoor
open Go.RowKit Word

theorem rec_cast {w : World} {q T : Nat} {xs ys : List Value} (h : Rec w q T xs) (e : xs = ys) : Rec w q T ys := e ▸ h
theorem PtOk.set {pt : List Nat} (h : PtOk pt) (p : Nat) {x : Nat} (hx : x < 4294967296) : PtOk (pt.set p x) :=
  ⟨by rw [List.length_set]; exact h.n1, by rw [List.length_set]; exact h.n2, fun y hy => by
    rcases List.mem_or_eq_of_mem_set hy with h' | h'
    · exact h.lt y h'
    · subst h'; exact hx⟩
theorem getD_set {l : List Nat} {p x : Nat} (hp : p < l.length) (j : Nat) : (l.set p x).getD j 0 = if p = j then x else l.getD j 0 := by
  simp only [List.getD_eq_getElem?_getD, List.getElem?_set]
  by_cases e : p = j
  · subst e; simp [hp]
  · simp [e]
theorem getD_setN {l : List (Option Nat)} {p : Nat} {x : Option Nat} (hp : p < l.length) (j : Nat) : (l.set p x).getD j none = if p = j then x else l.getD j none := by
  simp only [List.getD_eq_getElem?_getD, List.getElem?_set]
  by_cases e : p = j
  · subst e; simp [hp]
  · simp [e]
theorem ptrs_set (L : List (Option Nat)) (k : Nat) (b : Option Nat) : ptrs (L.set k b) = (ptrs L).set k (.pointer (b.map fun b => ⟨b, 0, none⟩)) := by
  unfold ptrs; rw [List.map_set]
theorem rep_all {l : List Nat} {n : Nat} (hl : l.length = n) (h : ∀ i, i < n → l.getD i 0 = 0) : l = List.replicate n 0 := by
  apply List.ext_getElem
  · rw [hl, List.length_replicate]
  · intro y y1 y2
    have := h y (by omega)
    rw [List.getD_eq_getElem?_getD, List.getElem?_eq_getElem y1] at this
    rw [List.getElem_replicate]
    exact this
theorem nz_rep (n : Nat) : nz (List.replicate n 0) = 0 := by
  refine cnt_none fun i hi => ?_
  rw [List.length_replicate] at hi
  simp [List.getD_eq_getElem?_getD, hi]
theorem tabRow_zero {pt : List Nat} {k : Nat} (h : ∀ i, i < 256 → pt.getD (256 * k + i) 0 = 0) : tabRow pt k = u32s (List.replicate 256 0) ++ [.int .i64 0] := by
  unfold tabRow
  rw [rep_all (tabOf_len pt k) (fun y hy => by rw [tabOf_at _ _ hy]; exact h y hy), nz_rep]
  rfl
def SetEnd (w : World) (S : Nat → Prop) (q : Nat) (pt : List Nat) (p x : Nat) (w' : World) : Prop := Touch S w w' ∧ PgAt w' (plus S w) q (pt.set p x)
section
variable {w : World} {S : Nat → Prop} {q : Nat} {pt : List Nat}
theorem pg_set (hM : PgAt w S q pt) {p x : Nat} (hp : p < pt.length) (hx : x < 4294967296) (hxx : if x = 0 then pt.getD p 0 ≠ 0 else pt.getD p 0 = 0) :
    Calls Tryz.prog 185 #[.pointer (some ⟨q, 0, none⟩), .int .i64 p, .int .u32 x] w fun e w' => e = .returned (.tuple #[]) ∧ SetEnd w S q pt p x w' := by
  obtain ⟨ok, sq, g, c, L, hr, h1, h2, sg, ho, ht, hd⟩ := hM
  have hn := ntab_le ok.n2
  have hk := ntab_lt hp
  have hLl : L.length = ntab pt.length := by have := ho.1; simp [ptrs] at this; exact this
  obtain ⟨k, hkk⟩ : ∃ k, k = p / 256 := ⟨_, rfl⟩
  obtain ⟨i, hii⟩ : ∃ i, i = p % 256 := ⟨_, rfl⟩
  have hpk : p = 256 * k + i := by omega
  have hi : i < 256 := by omega
  rw [← hkk] at hk
  have hkL : k < L.length := by omega
  clear hkk hii
  have cg := own_cell ho (ptrs_at hkL)
  have fg := own_free ho k
  have c0 := hr.cell (j := 0) rfl
  have c2 := hr.cell (j := 2) rfl
  have f2 := hr.free 2
  have hqg : q ≠ g := own_ne hr ho (by decide) rfl rfl
  have hgq : g ≠ q := fun e => hqg e.symm
  have hnz := nz_le pt
  have hn2 := ok.n2
  have hql := hr.lt
  have hgl := (own_lt ho rfl).2
  have hok' := ok.set p hx
  have hlen : (pt.set p x).length = pt.length := List.length_set
  have hh := ht k hk
  cases hl : L.getD k none with
  | none =>
    rw [hl] at hh cg
    have h0 : pt.getD p 0 = 0 := by rw [hpk]; exact hh i hi
    have hx0 : x ≠ 0 := by
      intro e; subst e
      rw [if_pos rfl] at hxx; exact hxx h0
    refine (pg_set_none c0 c2 f2 cg fg hqg hql hgl hk hn hi (by omega) hx0 hpk).mono ?_
    rintro e w' ⟨rfl, rfl⟩
    refine ⟨rfl, ((Touch.refl S w).setCell (a := ⟨g, k, none⟩) (fun _ => sg) _ |>.setCell (a := ⟨q, 2, none⟩) (fun _ => sq) _).alloc _, hok', .inl sq, g, c, L.set k (some w.heap.size), ?_, by rw [hlen]; exact h1, h2, .inl sg, ?_, fun j hj => ?_, fun a b y ha hb => ?_⟩
    · have r1 := (own_set_other (q := g) (j := k) hr (.pointer (some ⟨w.heap.size, 0, none⟩)) (fun y hy => by cases hy; exact hqg))
      have r2 : Rec _ _ _ _ := Rec.set (q := q) r1 2 (.int .i64 ((nz pt : Nat) + 1))
      refine rec_cast (r2.gr ((Gr.refl _).alloc _)) ?_
      rw [nz_set hp h0 hx0, hlen]
      rfl
    · rw [hlen, ptrs_set]
      exact own_gr (own_set_other (World.ownsRow.stored ho k _).1 _ (fun y hy => by cases hy; exact hgq)) ((Gr.refl _).alloc _)
    · rw [hlen] at hj
      rw [getD_setN hkL]
      by_cases e : k = j
      · subst e
        rw [if_pos rfl]
        refine ⟨.inr (Nat.le_refl _), ?_⟩
        have hs : ∀ (W : World) (Z : Array Value) (xs : List Value) (N : Nat), W.heap.size = N → Z.toList = xs → Rec (W.alloc (.cells Z 257)) N 257 xs := by
          rintro W Z xs N rfl rfl
          exact Rec.new W _ _
        refine hs _ _ _ _ (by simp) ?_
        rw [Array.toList_setIfInBounds, Array.toList_setIfInBounds, zero_table, hpk, tabRow_set (by omega) hi rfl]
        have : nz ((tabOf pt k).set i x) = 1 := by
          rw [nz_set (by rw [tabOf_len]; exact hi) (by rw [tabOf_at _ _ hi]; exact hh i hi) hx0, rep_all (tabOf_len pt k) (fun y hy => by rw [tabOf_at _ _ hy]; exact hh y hy), nz_rep]
        rw [this, tabRow_zero hh]
        rfl
      · rw [if_neg e]
        have hh' := ht j hj
        cases hl' : L.getD j none with
        | none =>
          rw [hl'] at hh'
          intro y hy
          rw [getD_set hp, if_neg (by omega)]
          exact hh' y hy
        | some b =>
          rw [hl'] at hh'
          refine ⟨.inl hh'.1, ?_⟩
          rw [hpk, tabRow_other hi (fun h => e h.symm)]
          have hbg : b ≠ g := own_ne hh'.2 ho (by decide) rfl rfl
          have hbq : b ≠ q := own_ne hh'.2 hr (by decide) rfl rfl
          have r1 := own_set_other (q := g) (j := k) hh'.2 (.pointer (some ⟨w.heap.size, 0, none⟩)) (fun y hy => by cases hy; exact hbg)
          exact Rec.gr (own_set_other r1 _ (fun y hy => by cases hy; exact hbq)) ((Gr.refl _).alloc _)
    · rw [getD_setN hkL] at ha hb
      have hne : ∀ j, L.getD j none ≠ some w.heap.size := fun j hj => by
        by_cases hj' : j < ntab pt.length
        · have := ht j hj'
          rw [hj] at this
          exact absurd this.2.lt (Nat.lt_irrefl _)
        · rw [List.getD_eq_getElem?_getD, List.getElem?_eq_none (by omega)] at hj; cases hj
      by_cases e1 : k = a <;> by_cases e2 : k = b
      · rw [← e1, e2]
      · rw [if_pos e1] at ha; rw [if_neg e2] at hb; cases ha; exact absurd hb (hne b)
      · rw [if_neg e1] at ha; rw [if_pos e2] at hb; cases hb; exact absurd ha (hne a)
      · rw [if_neg e1] at ha; rw [if_neg e2] at hb; exact hd _ _ _ ha hb
  | some b =>
    rw [hl] at hh cg
    obtain ⟨sb, hb⟩ := hh
    have hbg : b ≠ g := own_ne hb ho (by decide) rfl rfl
    have hgb : g ≠ b := fun e => hbg e.symm
    have hbq : b ≠ q := own_ne hb hr (by decide) rfl rfl
    have hqb : q ≠ b := fun e => hbq e.symm
    have cb := hb.cell (tabRow_at pt k hi)
    have cn := hb.cell (tabRow_n pt k)
    have hti : i < (tabOf pt k).length := by rw [tabOf_len]; exact hi
    have htat : (tabOf pt k).getD i 0 = pt.getD p 0 := by rw [tabOf_at _ _ hi, hpk]
    have hby : if x = 0 then nz ((tabOf pt k).set i x) + 1 = nz (tabOf pt k) ∧ nz (pt.set p x) + 1 = nz pt else nz ((tabOf pt k).set i x) = nz (tabOf pt k) + 1 ∧ nz (pt.set p x) = nz pt + 1 := by
      by_cases e : x = 0
      · rw [if_pos e] at hxx ⊢
        subst e
        exact ⟨nz_drop hti (by rw [htat]; exact hxx), nz_drop hp hxx⟩
      · rw [if_neg e] at hxx ⊢
        exact ⟨nz_set hti (by rw [htat]; exact hxx) e, nz_set hp hxx e⟩
    have l1 := nz_le (tabOf pt k)
    have l2 := nz_le ((tabOf pt k).set i x)
    rw [List.length_set] at l2
    rw [tabOf_len] at l1 l2
    have l3 := nz_le (pt.set p x)
    rw [hlen] at l3
    refine (pg_set_some c0 c2 f2 cg fg cb cn (hb.free i) (hb.free 256) hqg hbg hbq hk hn hi (by omega) (m' := nz (pt.set p x)) (by omega) l1 l2 hx hby hpk).mono ?_
    rintro e w' ⟨rfl, rfl⟩
    obtain ⟨t', ht'⟩ : ∃ t', t' = nz ((tabOf pt k).set i x) := ⟨_, rfl⟩
    rw [← ht']
    have hrow := tabRow_set (pt := pt) (k := k) (i := i) (x := x) (t := t') (by omega) hi ht'.symm
    rw [← hpk] at hrow
    -- the world behind the first three stores
    obtain ⟨W, hW⟩ : ∃ W, W = ((w.setCell ⟨b, i, none⟩ (.int .u32 x)).setCell ⟨b, 256, none⟩ (.int .i64 t')).setCell ⟨q, 2, none⟩ (.int .i64 (nz (pt.set p x) : Nat)) := ⟨_, rfl⟩
    have TW : Touch S w W := by rw [hW]; exact ((Touch.refl S w).setCell (a := ⟨b, i, none⟩) (fun _ => sb) _ |>.setCell (a := ⟨b, 256, none⟩) (fun _ => sb) _).setCell (a := ⟨q, 2, none⟩) (fun _ => sq) _
    have RQ : Rec W q 220 [.slice (some ⟨g, 0, none⟩) (ntab pt.length) c, .int .i64 pt.length, .int .i64 (nz (pt.set p x) : Nat)] := by
      rw [hW]
      have r1 := own_set_other (q := b) (j := i) hr (.int .u32 x) (fun y hy => by cases hy; exact hqb)
      have r2 := own_set_other (q := b) (j := 256) r1 (.int .i64 t') (fun y hy => by cases hy; exact hqb)
      exact Rec.set r2 2 _
    have RG : W.ownsRow 0 254 1 (.slice (some ⟨g, 0, none⟩) (ntab pt.length) c) (ntab pt.length) (ptrs L) := by
      rw [hW]
      exact own_set_other (own_set_other (own_set_other ho _ (fun y hy => by cases hy; exact hgb)) _ (fun y hy => by cases hy; exact hgb)) _ (fun y hy => by cases hy; exact hgq)
    have RB : Rec W b 257 (tabRow (pt.set p x) k) := by
      rw [hW, hrow]
      exact own_set_other (Rec.set (Rec.set hb i _) 256 _) _ (fun y hy => by cases hy; exact hbq)
    have RO : ∀ j y, j ≠ k → j < ntab pt.length → L.getD j none = some y → S y ∧ Rec W y 257 (tabRow (pt.set p x) j) := fun j y hj hj2 hy => by
      have := ht j hj2
      rw [hy] at this
      refine ⟨this.1, ?_⟩
      rw [hpk, tabRow_other hi hj, hW]
      have hyb : y ≠ b := fun e => hj (hd _ _ _ (by rw [e] at hy; exact hy) hl)
      have hyq : y ≠ q := own_ne this.2 hr (by decide) rfl rfl
      exact own_set_other (own_set_other (own_set_other this.2 _ (fun z hz => by cases hz; exact hyb)) _ (fun z hz => by cases hz; exact hyb)) _ (fun z hz => by cases hz; exact hyq)
    have RN : ∀ j, j ≠ k → j < ntab pt.length → L.getD j none = none → ∀ y, y < 256 → (pt.set p x).getD (256 * j + y) 0 = 0 := fun j hj hj2 hy y hy2 => by
      have := ht j hj2
      rw [hy] at this
      rw [getD_set hp, if_neg (by omega)]
      exact this y hy2
    unfold pgSet
    by_cases h0 : t' = 0
    · rw [if_pos h0, ← hW]
      refine ⟨rfl, TW.setCell (a := ⟨g, k, none⟩) (fun _ => sg) _, hok', .inl sq, g, c, L.set k none, ?_, by rw [hlen]; exact h1, h2, .inl sg, ?_, fun j hj => ?_, fun a y z ha hz => ?_⟩
      · rw [hlen]
        exact own_set_other RQ _ (fun y hy => by cases hy; exact hqg)
      · rw [hlen, ptrs_set]
        exact (World.ownsRow.stored RG k _).1
      · rw [hlen] at hj
        rw [getD_setN hkL]
        by_cases e : k = j
        · subst e
          rw [if_pos rfl]
          intro y hy
          have := nz_none (l := (tabOf pt k).set i x) (by rw [← ht']; exact h0) (i := y) (by rw [List.length_set, tabOf_len]; exact hy)
          rw [← tabOf_set (by omega), tabOf_at _ _ hy, ← hpk] at this
          exact this
        · rw [if_neg e]
          cases hl' : L.getD j none with
          | none => exact RN j (fun h => e h.symm) hj hl'
          | some y =>
            have := RO j y (fun h => e h.symm) hj hl'
            have hyg : y ≠ g := own_ne this.2 RG (by decide) rfl rfl
            exact ⟨.inl this.1, own_set_other this.2 _ (fun z hz => by cases hz; exact hyg)⟩
      · rw [getD_setN hkL] at ha hz
        by_cases e1 : k = a
        · rw [if_pos e1] at ha; cases ha
        · by_cases e2 : k = y
          · rw [if_pos e2] at hz; cases hz
          · rw [if_neg e1] at ha; rw [if_neg e2] at hz; exact hd _ _ _ ha hz
    · rw [if_neg h0, ← hW]
      refine ⟨rfl, TW, hok', .inl sq, g, c, L, ?_, by rw [hlen]; exact h1, h2, .inl sg, ?_, fun j hj => ?_, hd⟩
      · rw [hlen]; exact RQ
      · rw [hlen]; exact RG
      · rw [hlen] at hj
        by_cases e : k = j
        · subst e
          rw [hl]
          exact ⟨.inl sb, RB⟩
        · cases hl' : L.getD j none with
          | none => exact RN j (fun h => e h.symm) hj hl'
          | some y =>
            have := RO j y (fun h => e h.symm) hj hl'
            exact ⟨.inl this.1, this.2⟩
end
end Go.Proofs.YtbmidhlilafgeaaGreatDoor
end

section
namespace Go.Proofs.YtbmidhlilafgeaaGreatDoor
open Go.RowKit Word

def frE (pt : List Nat) (p : Int) : Int := if pgE pt p = 0 then (if pt.getD p.toNat 0 = 0 then 12 else 0) else 11
def frV (pt : List Nat) (p : Int) : Int := if frE pt p = 0 then (pt.getD p.toNat 0 : Nat) - 1 else 0
section
variable {w : World} {S : Nat → Prop} {q : Nat} {pt : List Nat}
theorem pg_in1 (hM : PgAt w S q pt) {b : Nat} {p : Int} (hc : w.cell? ⟨b, 0, none⟩ = some (.int .i64 p)) : Calls Tryz.prog 157 #[.pointer (some ⟨q, 0, none⟩), .slice (some ⟨b, 0, none⟩) 1 1] w fun e w' => e = .returned (.int .i64 (pgE pt p)) ∧ w = w' := by
  have := pg_in hM (b := b) (n := 1) (l := [p]) rfl (by omega) (fun i hi => by
    obtain rfl : i = 0 := by omega
    exact hc)
  refine this.mono ?_
  rintro e w' ⟨rfl, rfl⟩
  refine ⟨ret_int ?_, rfl⟩
  unfold pgsE
  rcases pgE_cut pt p with h | h | h
  · simp [h.2]
  · simp [h.2.2]
  · simp [h.2.2]
theorem pgE_zero {pt : List Nat} {p : Int} (h : pgE pt p = 0) : ∃ j : Nat, p = j ∧ j < pt.length := by
  unfold pgE at h
  split at h
  · exact ⟨p.toNat, by omega, by omega⟩
  · cases h
theorem pgE_two (pt : List Nat) (p : Int) : pgE pt p = 0 ∨ pgE pt p = 11 := by unfold pgE; split <;> simp
set_option maxRecDepth 100000 in
set_option maxHeartbeats 800000 in
theorem pg_frame (hM : PgAt w S q pt) (p : Int) : Calls Tryz.prog 91 #[.pointer (some ⟨q, 0, none⟩), .int .i64 p] w fun e w' => e = .returned (.tuple #[.int .i64 (frV pt p), .int .i64 (frE pt p)]) ∧ Gr w w' := by
  have HM := hid hM
  rcases pgE_two pt p with h0 | h0
  · obtain ⟨j, rfl, hj⟩ := pgE_zero h0
    have hl : pt.getD j 0 < 4294967296 := by
      rw [List.getD_eq_getElem?_getD, List.getElem?_eq_getElem hj]
      exact hM.ok.lt _ (List.getElem_mem hj)
    have HV : Hid (frE pt j = if pt.getD j 0 = 0 then 12 else 0) := ⟨by unfold frE; rw [if_pos h0, Int.toNat_natCast]⟩
    have HF : Hid (frV pt j = if frE pt j = 0 then ((pt.getD j 0 : Nat) : Int) - 1 else 0) := ⟨by unfold frV; rw [Int.toNat_natCast]⟩
    have HG := hid (fun (w' : World) (h : Gr w w') => pg_get (hM.gr h) hj)
    have H0 := hid h0
    clear hM hj h0
    generalize pt.getD j 0 = x at HV HF HG hl
    by_cases hx : x = 0
    · subst hx
      have E1 := HV.out
      rw [if_pos rfl] at E1
      have E2 := HF.out
      rw [E1, if_neg (by decide)] at E2
      have HE := hid (And.intro E1 E2)
      clear E1 E2 HV HF
      go_enter Tryz.func91, Tryz.ntmps91
      go_wp2_with (first
        | (go_at_call 157; refine (pg_in1 (HM.out.gr ((Gr.refl w).alloc _)) (p := j) (World.cell?_alloc_at _ _ _ 0 rfl)).mono ?_; rintro e w1 ⟨rfl, rfl⟩; rw [H0.out])
        | (go_at_call 158; refine (HG.out _ ((Gr.refl w).alloc _)).mono ?_; rintro e w1 ⟨rfl, rfl⟩))
      go_ret2
      exact ⟨ret2 (vint (by rw [HE.out.2])) (vint (by rw [HE.out.1])), (Gr.refl w).alloc _⟩
    · have E1 := HV.out
      rw [if_neg hx] at E1
      have E2 := HF.out
      rw [E1, if_pos rfl] at E2
      have HE := hid (And.intro E1 E2)
      have d0 : ((x : Int) == 0) = false := by simpa using hx
      clear E1 E2 HV HF
      go_enter Tryz.func91, Tryz.ntmps91
      go_wp2_with (first
        | (go_at_call 157; refine (pg_in1 (HM.out.gr ((Gr.refl w).alloc _)) (p := j) (World.cell?_alloc_at _ _ _ 0 rfl)).mono ?_; rintro e w1 ⟨rfl, rfl⟩; rw [H0.out])
        | (go_at_call 158; refine (HG.out _ ((Gr.refl w).alloc _)).mono ?_; rintro e w1 ⟨rfl, rfl⟩))
      go_ret2
      exact ⟨ret2 (vint (by rw [HE.out.2])) (vint (by rw [HE.out.1])), (Gr.refl w).alloc _⟩
  · have E1 : frE pt p = 11 := by unfold frE; rw [if_neg (by rw [h0]; decide)]
    have E2 : frV pt p = 0 := by unfold frV; rw [if_neg (by rw [E1]; decide)]
    have HE := hid (And.intro E1 E2)
    have H0 := hid h0
    clear E1 E2 h0 hM
    go_enter Tryz.func91, Tryz.ntmps91
    go_wp2_with (go_at_call 157; refine (pg_in1 (HM.out.gr ((Gr.refl w).alloc _)) (p := p) (World.cell?_alloc_at _ _ _ 0 rfl)).mono ?_; rintro e w1 ⟨rfl, rfl⟩; rw [H0.out])
    go_ret2
    exact ⟨ret2 (vint (by rw [HE.out.2])) (vint (by rw [HE.out.1])), (Gr.refl w).alloc _⟩
set_option maxRecDepth 100000 in
set_option maxHeartbeats 800000 in
theorem pg_put (hM : PgAt w S q pt) {p f : Nat} (hp : p < pt.length) (h0 : pt.getD p 0 = 0) (hf : f < 4096) : Calls Tryz.prog 172 #[.pointer (some ⟨q, 0, none⟩), .int .i64 p, .int .i64 f] w fun e w' => e = .returned (.int .i64 0) ∧ SetEnd w S q pt p (f + 1) w' := by
  have HM := hid hM
  have HI : Hid (pgE pt p = 0) := ⟨by unfold pgE; rw [if_pos ⟨by omega, by omega⟩]⟩
  have HG := hid (fun (w' : World) (h : Gr w w') => pg_get (hM.gr h) hp)
  have HS := hid (fun (w' : World) (h : Gr w w') => pg_set (hM.gr h) (x := f + 1) hp (by omega) (by rw [if_neg (by omega)]; exact h0))
  rw [h0] at HG
  have b1 : ((f : Int) + 1) % 4294967296 = (f : Int) + 1 := by omega
  have b2 : (f : Int) % 4294967296 = (f : Int) := by omega
  clear hM hp h0
  go_enter Tryz.func172, Tryz.ntmps172
  go_wp2_with (first
    | (go_at_call 157; refine (pg_in1 (HM.out.gr ((Gr.refl w).alloc _)) (p := p) (World.cell?_alloc_at _ _ _ 0 rfl)).mono ?_; rintro e w1 ⟨rfl, rfl⟩; rw [HI.out])
    | (go_at_call 158; refine (HG.out _ ((Gr.refl w).alloc _)).mono ?_; rintro e w1 ⟨rfl, rfl⟩)
    | (go_at_call 185; refine (HS.out _ ((Gr.refl w).alloc _)).mono ?_; rintro e w1 ⟨rfl, hs1⟩; have HE := hid hs1; clear hs1))
  go_ret
  obtain ⟨t1, t2⟩ := HE.out
  exact ⟨rfl, (((Gr.refl w).alloc _).touch S).trans t1, t2.mono (fun k hk => hk.imp id (fun h => Nat.le_trans ((Gr.refl w).alloc _).size h))⟩
/-- Drop's results. -/
def PgDropEnd (w : World) (S : Nat → Prop) (q : Nat) (pt : List Nat) (p : Int) (w' : World) : Prop := (frE pt p ≠ 0 ∧ Gr w w') ∨ (frE pt p = 0 ∧ SetEnd w S q pt p.toNat 0 w')
theorem frE_zero {pt : List Nat} {p : Int} (h : frE pt p = 0) : ∃ j : Nat, p = j ∧ j < pt.length ∧ pt.getD j 0 ≠ 0 := by
  unfold frE at h
  split at h
  · rename_i h0
    obtain ⟨j, rfl, hj⟩ := pgE_zero h0
    refine ⟨j, rfl, hj, fun e => ?_⟩
    rw [Int.toNat_natCast, if_pos e] at h
    cases h
  · cases h
theorem frE_range (pt : List Nat) (p : Int) : 0 ≤ frE pt p ∧ frE pt p ≤ 12 := by unfold frE; split <;> (try split) <;> omega
set_option maxRecDepth 100000 in
set_option maxHeartbeats 800000 in
theorem pg_drop (hM : PgAt w S q pt) (p : Int) : Calls Tryz.prog 136 #[.pointer (some ⟨q, 0, none⟩), .int .i64 p] w fun e w' => e = .returned (.tuple #[.int .i64 (frV pt p), .int .i64 (frE pt p)]) ∧ PgDropEnd w S q pt p w' := by
  have HM := hid hM
  by_cases h0 : frE pt p = 0
  · have HZ := hid h0
    obtain ⟨j, rfl, hj, hx⟩ := frE_zero h0
    have HS := hid (fun (w' : World) (h : Gr w w') => pg_set (hM.gr h) (x := 0) hj (by omega) (by rw [if_pos rfl]; exact hx))
    clear h0 hM hj hx
    go_enter Tryz.func136, Tryz.ntmps136
    go_wp2_with (first
      | (go_at_call 91; refine (pg_frame HM.out j).mono ?_; rintro e w1 ⟨rfl, hg1⟩; rw [HZ.out]; have HG1 := hid hg1; clear hg1)
      | (go_at_call 185; refine (HS.out _ HG1.out).mono ?_; rintro e w2 ⟨rfl, hs1⟩; have HE := hid hs1; clear hs1))
    go_ret2
    obtain ⟨t1, t2⟩ := HE.out
    refine ⟨ret2 rfl (vint (by rw [HZ.out])), .inr ⟨HZ.out, (HG1.out.touch S).trans t1, ?_⟩⟩
    rw [Int.toNat_natCast]
    exact t2.mono (fun k hk => hk.imp id (fun h => Nat.le_trans HG1.out.size h))
  · have HZ := hid h0
    have hr := frE_range pt p
    have HV : Hid (frE pt p = frE pt p) := ⟨rfl⟩
    obtain ⟨x, hx⟩ : ∃ x, x = frE pt p := ⟨_, rfl⟩
    have HX := hid hx
    rw [← hx] at h0 hr
    have d0 : (x == 0) = false := by simpa using h0
    clear hM hx
    go_enter Tryz.func136, Tryz.ntmps136
    go_wp2_with (go_at_call 91; refine (pg_frame HM.out p).mono ?_; rintro e w1 ⟨rfl, hg1⟩; rw [← HX.out]; have HG1 := hid hg1; clear hg1)
    go_ret2
    exact ⟨ret2 rfl (vint (by rw [HX.out])), .inl ⟨HZ.out, HG1.out⟩⟩
theorem PtOk.new {n : Nat} (h1 : 1 ≤ n) (h2 : n ≤ 524288) : PtOk (List.replicate n 0) :=
  ⟨by simpa using h1, by simpa using h2, fun x hx => by rw [List.eq_of_mem_replicate hx]; decide⟩
theorem rep_getD (n i : Nat) : (List.replicate n 0).getD i 0 = 0 := by
  rw [List.getD_eq_getElem?_getD, List.getElem?_replicate]
  split <;> rfl
theorem infoTabP : (Tryz.prog.info? 254).map (fun i => (i.zero, i.size, i.bytes)) = some (some (.pointer none), 1, 8) := by kernel_rfl
theorem made_none (n : Nat) : (madeCells #[.pointer none] n).toList = ptrs (List.replicate n none) := by
  unfold madeCells ptrs
  apply List.ext_getElem
  · simp
  · intro i h1 h2
    simp [Nat.mod_one]
theorem own_zero {w : World} {base E size : Nat} {v : Value} {n : Nat} {xs : List Value} (h : w.ownsRow base E size v n xs) : w.ownsRow 0 E size v n xs := by
  obtain ⟨h1, h | ⟨g, c, cur, e1, e2, h⟩⟩ := h
  · exact ⟨h1, .inl h⟩
  · exact ⟨h1, .inr ⟨g, c, cur, e1, Nat.zero_le _, h⟩⟩
set_option maxRecDepth 100000 in
set_option maxHeartbeats 800000 in
theorem pg_new {n : Nat} (h1 : 1 ≤ n) (h2 : n ≤ 524288) : Calls Tryz.prog 120 #[.int .i64 n] w fun e w' => ∃ q, e = .returned (.tuple #[.pointer (some ⟨q, 0, none⟩), .int .i64 0]) ∧ Gr w w' ∧ PgAt w' (fun k => w.heap.size ≤ k) q (List.replicate n 0) := by
  obtain ⟨i0, hi, hz0, hz1, hz2⟩ := info_parts infoTabP
  have e1 : ((n : Int) + 256 - 1) / 256 = (ntab n : Int) := by unfold ntab; omega
  have b0 : ntab n ≤ 2048 := ntab_le h2
  have HB : Hid (i0.bytes * ntab n ≤ 281474976710656) := ⟨by rw [hz2]; omega⟩
  have HM : Hid (ntab n ≤ maxLen) := ⟨by unfold maxLen; omega⟩
  go_enter Tryz.func120, Tryz.ntmps120
  go_wp2_with (at_make; refine wpList_make_full _ rfl _ _ 218 rfl w.heap.size 254 i0 (.pointer none) 1 Tryz.underlying218 hi hz0 hz1 .i64 .i64 _ _ (ntab n) rfl rfl ?h1 ?h2 HB.out HM.out (Nat.le_refl _) ?h3)
  case h1 => omega
  case h2 => omega
  case h3 =>
    intro w1 hown hgrow
    have hg1 : Gr w w1 := (grownBy_touch hgrow (fun _ => False) (fun k e _ => by cases e)).gr
    have HO := hid (own_zero hown)
    have HG := hid hg1
    clear hown hgrow hg1
    go_wp2
    go_ret2
    have hl : (List.replicate n 0).length = n := List.length_replicate
    have hown := HO.out
    rw [made_none] at hown
    refine ⟨_, ret2 rfl rfl, HG.out.alloc _, PtOk.new h1 h2, HG.out.size, w.heap.size, ntab n, List.replicate (ntab n) none, ?_, by rw [hl]; exact Nat.le_refl _, HM.out, Nat.le_refl _, ?_, fun k hk => ?_, fun k j b hk => ?_⟩
    · rw [hl, nz_rep]; exact Rec.new w1 _ _
    · rw [hl]; exact own_gr hown ((Gr.refl _).alloc _)
    · rw [List.getD_eq_getElem?_getD, List.getElem?_replicate]
      rw [hl] at hk
      rw [if_pos hk]
      exact fun i _ => rep_getD n _
    · rw [List.getD_eq_getElem?_getD, List.getElem?_replicate] at hk
      split at hk <;> cases hk
end
end Go.Proofs.YtbmidhlilafgeaaGreatDoor
end
