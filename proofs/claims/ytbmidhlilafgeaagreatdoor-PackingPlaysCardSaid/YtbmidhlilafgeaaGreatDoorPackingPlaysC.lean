/- Part 3 of what PackingPlays leans on: my own lemmas, merged by shake.py. -/
import Derived.Test.YtbmidhlilafgeaaGreatDoorPackingPlaysB
section
section
namespace Go.Proofs.YtbmidhlilafgeaaGreatDoor
open Go.RowKit Word

def u32s (l : List Nat) : List Value := l.map fun x => .int .u32 (x : Nat)
/-- The entries of table number k. -/
def tabOf (pt : List Nat) (k : Nat) : List Nat := (List.range 256).map fun i => pt.getD (256 * k + i) 0
def nz (l : List Nat) : Nat := cnt (fun i => l.getD i 0 != 0) l.length
def tabRow (pt : List Nat) (k : Nat) : List Value := u32s (tabOf pt k) ++ [.int .i64 (nz (tabOf pt k) : Nat)]
def ptrs (L : List (Option Nat)) : List Value := L.map fun b => .pointer (b.map fun b => ⟨b, 0, none⟩)
def ntab (n : Nat) : Nat := (n + 255) / 256
structure PtOk (pt : List Nat) : Prop where
  n1 : 1 ≤ pt.length
  n2 : pt.length ≤ 524288
  lt : ∀ x ∈ pt, x < 4294967296
/-- A map q of pages lies in w, all of it in blocks of S: each page's frame and 1; 0: none. -/
structure PgAt (w : World) (S : Nat → Prop) (q : Nat) (pt : List Nat) : Prop where
  ok : PtOk pt
  sq : S q
  row : ∃ g c L, Rec w q 220 [.slice (some ⟨g, 0, none⟩) (ntab pt.length) c, .int .i64 pt.length, .int .i64 (nz pt : Nat)] ∧ ntab pt.length ≤ c ∧ c ≤ maxLen ∧ S g ∧
    w.ownsRow 0 254 1 (.slice (some ⟨g, 0, none⟩) (ntab pt.length) c) (ntab pt.length) (ptrs L) ∧
    (∀ k, k < ntab pt.length → match L.getD k none with
      | none => ∀ i, i < 256 → pt.getD (256 * k + i) 0 = 0
      | some b => S b ∧ Rec w b 257 (tabRow pt k)) ∧
    (∀ k j b, L.getD k none = some b → L.getD j none = some b → k = j)
theorem tabOf_len (pt : List Nat) (k : Nat) : (tabOf pt k).length = 256 := by simp [tabOf]
theorem tabOf_at (pt : List Nat) (k : Nat) {i : Nat} (h : i < 256) : (tabOf pt k).getD i 0 = pt.getD (256 * k + i) 0 := by simp [tabOf, List.getD_eq_getElem?_getD, h]
theorem tabRow_at (pt : List Nat) (k : Nat) {i : Nat} (h : i < 256) : (tabRow pt k)[i]? = some (.int .u32 (pt.getD (256 * k + i) 0 : Nat)) := by
  unfold tabRow u32s
  rw [List.getElem?_append_left (by simp [tabOf_len, h])]
  simp [tabOf, h]
theorem tabRow_n (pt : List Nat) (k : Nat) : (tabRow pt k)[256]? = some (.int .i64 (nz (tabOf pt k) : Nat)) := by
  unfold tabRow u32s
  rw [List.getElem?_append_right (by simp [tabOf_len])]
  simp [tabOf_len]
theorem PgAt.touch {S T : Nat → Prop} {w w' : World} {q : Nat} {pt : List Nat} (h : PgAt w S q pt) (t : Touch T w w') (hS : ∀ k, S k → k < w.heap.size → ¬ T k) : PgAt w' S q pt := by
  obtain ⟨ok, sq, g, c, L, hr, h1, h2, sg, ho, ht, hd⟩ := h
  refine ⟨ok, sq, g, c, L, hr.touch t (hS q sq hr.lt), h1, h2, sg, own_touch ho t (fun b hb => by cases hb; exact hS g sg (own_lt ho rfl).2), fun k hk => ?_, hd⟩
  have := ht k hk
  cases hl : L.getD k none with
  | none => rw [hl] at this; exact this
  | some b => rw [hl] at this; exact ⟨this.1, this.2.touch t (hS b this.1 this.2.lt)⟩
theorem PgAt.gr {S : Nat → Prop} {w w' : World} {q : Nat} {pt : List Nat} (h : PgAt w S q pt) (t : Gr w w') : PgAt w' S q pt := h.touch (t.touch (fun _ => False)) (fun _ _ _ h => h)
theorem PgAt.mono {S T : Nat → Prop} {w : World} {q : Nat} {pt : List Nat} (h : PgAt w S q pt) (hT : ∀ k, S k → T k) : PgAt w T q pt := by
  obtain ⟨ok, sq, g, c, L, hr, h1, h2, sg, ho, ht, hd⟩ := h
  refine ⟨ok, hT _ sq, g, c, L, hr, h1, h2, hT _ sg, ho, fun k hk => ?_, hd⟩
  have := ht k hk
  cases hl : L.getD k none with
  | none => rw [hl] at this; exact this
  | some b => rw [hl] at this; exact ⟨hT _ this.1, this.2⟩
theorem ntab_le {n : Nat} (h : n ≤ 524288) : ntab n ≤ 2048 := by unfold ntab; omega
theorem ntab_lt {n p : Nat} (h : p < n) : p / 256 < ntab n := by unfold ntab; omega
theorem ptrs_at {L : List (Option Nat)} {k : Nat} (h : k < L.length) : (ptrs L)[k]? = some (.pointer ((L.getD k none).map fun b => ⟨b, 0, none⟩)) := by
  simp [ptrs, List.getD_eq_getElem?_getD, h]
section
variable {w : World} {S : Nat → Prop} {q : Nat} {pt : List Nat}
set_option maxHeartbeats 800000 in
theorem pg_get (hM : PgAt w S q pt) {p : Nat} (hp : p < pt.length) : Calls Tryz.prog 158 #[.pointer (some ⟨q, 0, none⟩), .int .i64 p] w fun e w' => e = .returned (.int .u32 (pt.getD p 0 : Nat)) ∧ w = w' := by
  obtain ⟨ok, sq, g, c, L, hr, h1, h2, sg, ho, ht, hd⟩ := hM
  have hn := ntab_le ok.n2
  have hk := ntab_lt hp
  have hLl : L.length = ntab pt.length := by have := ho.1; simp [ptrs] at this; exact this
  have c0 := hr.cell (j := 0) rfl
  have k0 := own_cell ho (ptrs_at (L := L) (k := p / 256) (by omega))
  have hh := ht _ hk
  obtain ⟨k, hkk⟩ : ∃ k, k = p / 256 := ⟨_, rfl⟩
  obtain ⟨i, hii⟩ : ∃ i, i = p % 256 := ⟨_, rfl⟩
  have hpk : 256 * k + i = p := by omega
  have hi : i < 256 := by omega
  have e1 : (p : Int) / 256 = (k : Int) := by omega
  have e2 : (p : Int) % 256 = (i : Int) := by omega
  rw [← hkk] at k0 hk hh
  have hpb : (p : Int) ≤ 524288 := by have := ok.n2; omega
  have hkI : (k : Int) < (ntab pt.length : Int) := by omega
  have hiI : (i : Int) < 256 := by omega
  unfold maxLen at h2
  cases hl : L.getD k none with
  | none =>
    rw [hl] at hh k0
    have E := hid (hh i hi)
    rw [hpk] at E
    rw [E.out]
    clear hr ho ht hh hd hii hkk hpk hl
    go_enter Tryz.func158, Tryz.ntmps158
    go_wp2
    go_ret
    exact ⟨rfl, rfl⟩
  | some b =>
    rw [hl] at hh k0
    have k1 := hh.2.cell (tabRow_at pt k hi)
    rw [hpk] at k1
    clear hp
    generalize pt.getD p 0 = x at k1 ⊢
    clear hr ho ht hh hd hii hkk hpk hl
    go_enter Tryz.func158, Tryz.ntmps158
    go_wp2
    go_ret
    exact ⟨rfl, rfl⟩
/-- Whether a page is none of the map's. -/
def pgE (pt : List Nat) (p : Int) : Int := if 0 ≤ p ∧ p < pt.length then 0 else 11
def pgsE (pt : List Nat) (l : List Int) : Int := if l.all (fun p => decide (pgE pt p = 0)) then 0 else 11
theorem pgE_cut (pt : List Nat) (p : Int) : (decide (p < 0) = true ∧ pgE pt p = 11) ∨ (decide (p < 0) = false ∧ decide ((pt.length : Int) ≤ p) = true ∧ pgE pt p = 11) ∨ (decide (p < 0) = false ∧ decide ((pt.length : Int) ≤ p) = false ∧ pgE pt p = 0) := by
  unfold pgE
  by_cases h0 : p < 0
  · exact .inl ⟨decide_eq_true h0, if_neg (by omega)⟩
  · by_cases h1 : (pt.length : Int) ≤ p
    · exact .inr (.inl ⟨decide_eq_false h0, decide_eq_true h1, if_neg (by omega)⟩)
    · exact .inr (.inr ⟨decide_eq_false h0, decide_eq_false h1, if_pos (by omega)⟩)
theorem pgsE_end {pt : List Nat} {l : List Int} (h : ∀ i, i < l.length → pgE pt (l.getD i 0) = 0) : pgsE pt l = 0 := by
  unfold pgsE
  rw [if_pos]
  rw [List.all_eq_true]
  intro x hx
  obtain ⟨i, hi, rfl⟩ := List.mem_iff_getElem.1 hx
  have := h i hi
  rw [List.getD_eq_getElem?_getD, List.getElem?_eq_getElem hi] at this
  exact decide_eq_true this
theorem pgsE_at {pt : List Nat} {l : List Int} {i : Nat} (hi : i < l.length) (h : pgE pt (l.getD i 0) = 11) : pgsE pt l = 11 := by
  unfold pgsE
  rw [if_neg]
  rw [List.all_eq_true]
  intro ha
  have := ha l[i] (List.getElem_mem hi)
  rw [List.getD_eq_getElem?_getD, List.getElem?_eq_getElem hi] at h
  rw [Option.getD_some] at h
  rw [h] at this
  exact absurd this (by decide)
theorem pg_in (hM : PgAt w S q pt) {b n : Nat} {l : List Int} (hn : l.length = n) (hn2 : n ≤ 2) (hc : ∀ i, i < n → w.cell? ⟨b, i, none⟩ = some (.int .i64 (l.getD i 0))) : Calls Tryz.prog 157 #[.pointer (some ⟨q, 0, none⟩), .slice (some ⟨b, 0, none⟩) n n] w fun e w' => e = .returned (.int .i64 (pgsE pt l)) ∧ w = w' := by
  obtain ⟨ok, sq, g, c, L, hr, -⟩ := hM
  have c1 := hr.cell (j := 1) rfl
  have HC := hid hc
  clear hr hc
  go_enter Tryz.func157, Tryz.ntmps157
  go_wp2
  go_loop [11] (fun i => ∃ k : Nat, k ≤ n ∧ i = .int .i64 k ∧ Hid (∀ i, i < k → pgE pt (l.getD i 0) = 0)) (fun i => n - (intOf i).toNat)
  case atStart => exact ⟨0, by omega, rfl, ⟨fun i h => by omega⟩⟩
  case round =>
    obtain ⟨k, hk, rfl, hk1⟩ := hrel
    by_cases hlt : k < n
    · have hcell := HC.out k hlt
      have hq := pgE_cut pt (l.getD k 0)
      have H1 := hid (fun h => pgsE_at (pt := pt) (l := l) (i := k) (by omega) h)
      have H2 : Hid (pgE pt (l.getD k 0) = 0 → ∀ i, i < k + 1 → pgE pt (l.getD i 0) = 0) := ⟨fun h i hi => by
        by_cases e : i = k
        · subst e; exact h
        · exact hk1.out i (by omega)⟩
      generalize l.getD k 0 = p at hcell hq H1 H2
      clear hk1 HC hn
      rcases hq with ⟨d0, E⟩ | ⟨d0, d1, E⟩ | ⟨d0, d1, E⟩
      · have E := hid E
        go_wp2
        go_ret
        exact ⟨ret_int (by rw [H1.out E.out]), rfl⟩
      · have E := hid E
        go_wp2
        go_ret
        exact ⟨ret_int (by rw [H1.out E.out]), rfl⟩
      · have E := hid E
        go_wp2
        go_round
        case rel => exact ⟨k + 1, by omega, by go_num, ⟨H2.out E.out⟩⟩
        case measure => simp [intOf]; omega
    · obtain rfl : k = n := by omega
      have E := hid (pgsE_end (pt := pt) (l := l) (by rw [hn]; exact hk1.out))
      clear hk1 HC hn
      go_wp2
      go_ret
      exact ⟨ret_int (by rw [E.out]), rfl⟩
end
end Go.Proofs.YtbmidhlilafgeaaGreatDoor
end

section
namespace Go.Proofs.YtbmidhlilafgeaaGreatDoor
open Go.RowKit Word

theorem zero_table : (Tryz.zeroCells257).toList = u32s (List.replicate 256 0) ++ [.int .i64 0] := by kernel_rfl
theorem nz_at (l : List Nat) : nz l = cnt (at_ (l.map fun x => x != 0)) l.length := by
  unfold nz
  refine cnt_congr fun i hi => ?_
  simp [at_, hi]
theorem nz_set {l : List Nat} {i x : Nat} (hi : i < l.length) (h : l.getD i 0 = 0) (hx : x ≠ 0) : nz (l.set i x) = nz l + 1 := by
  have hm : (l.map fun x => x != 0).length = l.length := List.length_map _
  rw [nz_at, nz_at, List.length_set, List.map_set, ← hm]
  have : (x != 0) = true := by simp [hx]
  rw [this]
  refine cnt_set_true (by simpa using hi) ?_
  rw [List.getD_eq_getElem?_getD, List.getElem?_eq_getElem hi] at h
  simp [at_, hi]
  simpa using h
theorem nz_drop {l : List Nat} {i : Nat} (hi : i < l.length) (h : l.getD i 0 ≠ 0) : nz (l.set i 0) + 1 = nz l := by
  have hm : (l.map fun x => x != 0).length = l.length := List.length_map _
  rw [nz_at, nz_at, List.length_set, List.map_set, ← hm]
  have : ((0 : Nat) != 0) = false := rfl
  rw [this]
  refine cnt_set_false (by simpa using hi) ?_
  rw [List.getD_eq_getElem?_getD, List.getElem?_eq_getElem hi] at h
  simp [at_, hi]
  simpa using h
theorem nz_none {l : List Nat} (h : nz l = 0) {i : Nat} (hi : i < l.length) : l.getD i 0 = 0 := by
  have := cnt_zero_iff h i hi
  simpa using this
theorem nz_le (l : List Nat) : nz l ≤ l.length := cnt_le _ _
theorem tabOf_set {pt : List Nat} {k i x : Nat} (hp : 256 * k + i < pt.length) : tabOf (pt.set (256 * k + i) x) k = (tabOf pt k).set i x := by
  apply List.ext_getElem
  · simp [tabOf]
  · intro j h1 h2
    have hj : j < 256 := by simpa [tabOf] using h1
    simp only [tabOf, List.getElem_map, List.getElem_range, List.getElem_set, List.getD_eq_getElem?_getD, List.getElem?_set]
    by_cases e : i = j
    · subst e; simp [hp]
    · rw [if_neg (by omega), if_neg e]
theorem tabOf_other {pt : List Nat} {k i x j : Nat} (hi : i < 256) (hj : j ≠ k) : tabOf (pt.set (256 * k + i) x) j = tabOf pt j := by
  apply List.ext_getElem
  · simp [tabOf]
  · intro y h1 h2
    have hy : y < 256 := by simpa [tabOf] using h1
    simp only [tabOf, List.getElem_map, List.getElem_range, List.getD_eq_getElem?_getD, List.getElem?_set]
    rw [if_neg (by omega)]
theorem tabRow_set {pt : List Nat} {k i x t : Nat} (hp : 256 * k + i < pt.length) (hi : i < 256) (ht : nz ((tabOf pt k).set i x) = t) :
    tabRow (pt.set (256 * k + i) x) k = ((tabRow pt k).set i (.int .u32 x)).set 256 (.int .i64 t) := by
  unfold tabRow
  rw [tabOf_set hp, ht]
  have hl : (u32s (tabOf pt k)).length = 256 := by simp [u32s, tabOf_len]
  rw [List.set_append_left _ _ (by omega), List.set_append_right _ _ (by simp [hl])]
  simp [u32s, List.map_set, tabOf_len]
theorem tabRow_other {pt : List Nat} {k i x j : Nat} (hi : i < 256) (hj : j ≠ k) : tabRow (pt.set (256 * k + i) x) j = tabRow pt j := by
  unfold tabRow; rw [tabOf_other hi hj]
section
variable {w : World} {S : Nat → Prop} {q : Nat} {pt : List Nat}
set_option maxRecDepth 100000 in
set_option maxHeartbeats 800000 in
theorem pg_set_none {g n c : Nat} {m : Nat} {k i : Nat} (c0 : w.cell? ⟨q, 0, none⟩ = some (.slice (some ⟨g, 0, none⟩) n c)) (c2 : w.cell? ⟨q, 2, none⟩ = some (.int .i64 m))
    (f2 : w.frozen? ⟨q, 2, none⟩ = false) (cg : w.cell? ⟨g, k, none⟩ = some (.pointer none)) (fg : w.frozen? ⟨g, k, none⟩ = false) (hqg : q ≠ g) (hq : q < w.heap.size) (hg : g < w.heap.size)
    (hk : k < n) (hn : n ≤ 2048) (hi : i < 256) (hm : m ≤ 524288) {x : Nat} (hx : x ≠ 0) {p : Nat} (hp : p = 256 * k + i) : Calls Tryz.prog 185 #[.pointer (some ⟨q, 0, none⟩), .int .i64 p, .int .u32 x] w fun e w' => e = .returned (.tuple #[]) ∧
      w' = ((w.setCell ⟨g, k, none⟩ (.pointer (some ⟨w.heap.size, 0, none⟩))).setCell ⟨q, 2, none⟩ (.int .i64 (m + 1))).alloc
      (Obj.cells ((Tryz.zeroCells257.setIfInBounds i (.int .u32 x)).setIfInBounds 256 (.int .i64 1)) 257) := by
  have e1 : (p : Int) / 256 = (k : Int) := by omega
  have e2 : (p : Int) % 256 = (i : Int) := by omega
  have b1 : (p : Int) ≤ 524288 := by omega
  have hkI : (k : Int) < (n : Int) := by omega
  have hiI : (i : Int) < 256 := by omega
  have d0 : ((x : Int) == 0) = false := by simpa using hx
  have hz : ∀ h, (Tryz.zeroCells257.setIfInBounds i (.int .u32 x))[256]'h = .int .i64 0 := by
    intro h
    rw [Array.getElem_setIfInBounds_ne _ (by omega)]
    have hl : (Tryz.zeroCells257).toList.length = 257 := by rw [zero_table]; simp [u32s]
    rw [← Array.getElem_toList]
    · have : (Tryz.zeroCells257).toList[256]? = some (.int .i64 0) := by rw [zero_table, List.getElem?_append_right (by simp [u32s])]; simp [u32s]
      rw [List.getElem?_eq_getElem (by omega)] at this
      exact Option.some.inj this
    · have hl : (Tryz.zeroCells257).toList.length = 257 := by rw [zero_table]; simp [u32s]
      rw [Array.length_toList] at hl
      rw [hl]; omega
  clear hp
  go_enter Tryz.func185, Tryz.ntmps185
  go_wp2
  go_end0
  exact ⟨rfl, rfl⟩
def pgSet (w : World) (b i x t' q m' g k : Nat) : World :=
  if t' = 0 then (((w.setCell ⟨b, i, none⟩ (.int .u32 x)).setCell ⟨b, 256, none⟩ (.int .i64 t')).setCell ⟨q, 2, none⟩ (.int .i64 m')).setCell ⟨g, k, none⟩ (.pointer none)
  else ((w.setCell ⟨b, i, none⟩ (.int .u32 x)).setCell ⟨b, 256, none⟩ (.int .i64 t')).setCell ⟨q, 2, none⟩ (.int .i64 m')
set_option maxRecDepth 100000 in
set_option maxHeartbeats 1600000 in
theorem pg_set_some {g n c b : Nat} {m t t' m' : Nat} {y : Value} {k i : Nat} (c0 : w.cell? ⟨q, 0, none⟩ = some (.slice (some ⟨g, 0, none⟩) n c)) (c2 : w.cell? ⟨q, 2, none⟩ = some (.int .i64 m))
    (f2 : w.frozen? ⟨q, 2, none⟩ = false) (cg : w.cell? ⟨g, k, none⟩ = some (.pointer (some ⟨b, 0, none⟩))) (fg : w.frozen? ⟨g, k, none⟩ = false)
    (cb : w.cell? ⟨b, i, none⟩ = some y) (cn : w.cell? ⟨b, 256, none⟩ = some (.int .i64 t)) (fi : w.frozen? ⟨b, i, none⟩ = false) (fn : w.frozen? ⟨b, 256, none⟩ = false)
    (hqg : q ≠ g) (hbg : b ≠ g) (hbq : b ≠ q) (hk : k < n) (hn : n ≤ 2048) (hi : i < 256) (hm : m ≤ 524288) (hm' : m' ≤ 524288) (ht : t ≤ 256) (ht' : t' ≤ 256) {x : Nat} (hx : x < 4294967296)
    (hby : if x = 0 then t' + 1 = t ∧ m' + 1 = m else t' = t + 1 ∧ m' = m + 1) {p : Nat} (hp : p = 256 * k + i) : Calls Tryz.prog 185 #[.pointer (some ⟨q, 0, none⟩), .int .i64 p, .int .u32 x] w fun e w' => e = .returned (.tuple #[]) ∧
      w' = pgSet w b i x t' q m' g k := by
  have e1 : (p : Int) / 256 = (k : Int) := by omega
  have e2 : (p : Int) % 256 = (i : Int) := by omega
  have b1 : (p : Int) ≤ 524288 := by omega
  have hkI : (k : Int) < (n : Int) := by omega
  have hiI : (i : Int) < 256 := by omega
  have hi6 : ¬ i = 256 := by omega
  clear hp
  by_cases h0 : x = 0
  · rw [if_pos h0] at hby
    subst h0
    obtain ⟨rfl, rfl⟩ := hby
    have a1 : (t' : Int) + 1 + -1 = (t' : Int) := by omega
    have a2 : (m' : Int) + 1 + -1 = (m' : Int) := by omega
    by_cases h1 : t' = 0
    · subst h1
      have E : pgSet w b i 0 0 q m' g k = _ := if_pos rfl
      rw [E]
      clear E
      go_enter Tryz.func185, Tryz.ntmps185
      go_wp2
      go_end0
      exact ⟨rfl, rfl⟩
    · have d1 : ((t' : Int) == 0) = false := by simpa using h1
      have E : pgSet w b i 0 t' q m' g k = _ := if_neg h1
      rw [E]
      clear E
      go_enter Tryz.func185, Tryz.ntmps185
      go_wp2
      go_end0
      exact ⟨rfl, rfl⟩
  · rw [if_neg h0] at hby
    obtain ⟨rfl, rfl⟩ := hby
    have d0 : ((x : Int) == 0) = false := by simpa using h0
    have d1 : (((t + 1 : Nat) : Int) == 0) = false := by simp; omega
    have E : pgSet w b i x (t + 1) q (m + 1) g k = _ := if_neg (by omega)
    rw [E]
    clear E
    go_enter Tryz.func185, Tryz.ntmps185
    go_wp2
    go_end0
    exact ⟨rfl, rfl⟩
end
end Go.Proofs.YtbmidhlilafgeaaGreatDoor
end

section
namespace Go.Proofs.YtbmidhlilafgeaaGreatDoor
open Go.RowKit Word

theorem rec_cast {w : World} {q T : Nat} {xs ys : List Value} (h : Rec w q T xs) (e : xs = ys) : Rec w q T ys := e ▸ h
theorem PtOk.set {pt : List Nat} (h : PtOk pt) (p : Nat) {x : Nat} (hx : x < 4294967296) : PtOk (pt.set p x) :=
  ⟨by rw [List.length_set]; exact h.n1, by rw [List.length_set]; exact h.n2, fun y hy => by
    rcases List.mem_or_eq_of_mem_set hy with h' | h'
    · exact h.lt y h'
    · subst h'; exact hx⟩
theorem getD_setM {l : List Nat} {p x : Nat} (hp : p < l.length) (j : Nat) : (l.set p x).getD j 0 = if p = j then x else l.getD j 0 := by
  simp only [List.getD_eq_getElem?_getD, List.getElem?_set]
  by_cases e : p = j
  · subst e; simp [hp]
  · simp [e]
theorem getD_setN {l : List (Option Nat)} {p : Nat} {x : Option Nat} (hp : p < l.length) (j : Nat) : (l.set p x).getD j none = if p = j then x else l.getD j none := by
  simp only [List.getD_eq_getElem?_getD, List.getElem?_set]
  by_cases e : p = j
  · subst e; simp [hp]
  · simp [e]
theorem ptrs_set (L : List (Option Nat)) (k : Nat) (b : Option Nat) : ptrs (L.set k b) = (ptrs L).set k (.pointer (b.map fun b => ⟨b, 0, none⟩)) := by
  unfold ptrs; rw [List.map_set]
theorem rep_all {l : List Nat} {n : Nat} (hl : l.length = n) (h : ∀ i, i < n → l.getD i 0 = 0) : l = List.replicate n 0 := by
  apply List.ext_getElem
  · rw [hl, List.length_replicate]
  · intro y y1 y2
    have := h y (by omega)
    rw [List.getD_eq_getElem?_getD, List.getElem?_eq_getElem y1] at this
    rw [List.getElem_replicate]
    exact this
theorem nz_rep (n : Nat) : nz (List.replicate n 0) = 0 := by
  refine cnt_none fun i hi => ?_
  rw [List.length_replicate] at hi
  simp [List.getD_eq_getElem?_getD, hi]
theorem tabRow_zero {pt : List Nat} {k : Nat} (h : ∀ i, i < 256 → pt.getD (256 * k + i) 0 = 0) : tabRow pt k = u32s (List.replicate 256 0) ++ [.int .i64 0] := by
  unfold tabRow
  rw [rep_all (tabOf_len pt k) (fun y hy => by rw [tabOf_at _ _ hy]; exact h y hy), nz_rep]
  rfl
def SetEnd (w : World) (S : Nat → Prop) (q : Nat) (pt : List Nat) (p x : Nat) (w' : World) : Prop := Touch S w w' ∧ PgAt w' (plus S w) q (pt.set p x)
section
variable {w : World} {S : Nat → Prop} {q : Nat} {pt : List Nat}
theorem pg_set (hM : PgAt w S q pt) {p x : Nat} (hp : p < pt.length) (hx : x < 4294967296) (hxx : if x = 0 then pt.getD p 0 ≠ 0 else pt.getD p 0 = 0) :
    Calls Tryz.prog 185 #[.pointer (some ⟨q, 0, none⟩), .int .i64 p, .int .u32 x] w fun e w' => e = .returned (.tuple #[]) ∧ SetEnd w S q pt p x w' := by
  obtain ⟨ok, sq, g, c, L, hr, h1, h2, sg, ho, ht, hd⟩ := hM
  have hn := ntab_le ok.n2
  have hk := ntab_lt hp
  have hLl : L.length = ntab pt.length := by have := ho.1; simp [ptrs] at this; exact this
  obtain ⟨k, hkk⟩ : ∃ k, k = p / 256 := ⟨_, rfl⟩
  obtain ⟨i, hii⟩ : ∃ i, i = p % 256 := ⟨_, rfl⟩
  have hpk : p = 256 * k + i := by omega
  have hi : i < 256 := by omega
  rw [← hkk] at hk
  have hkL : k < L.length := by omega
  clear hkk hii
  have cg := own_cell ho (ptrs_at hkL)
  have fg := own_free ho k
  have c0 := hr.cell (j := 0) rfl
  have c2 := hr.cell (j := 2) rfl
  have f2 := hr.free 2
  have hqg : q ≠ g := own_ne hr ho (by decide) rfl rfl
  have hgq : g ≠ q := fun e => hqg e.symm
  have hnz := nz_le pt
  have hn2 := ok.n2
  have hql := hr.lt
  have hgl := (own_lt ho rfl).2
  have hok' := ok.set p hx
  have hlen : (pt.set p x).length = pt.length := List.length_set
  have hh := ht k hk
  cases hl : L.getD k none with
  | none =>
    rw [hl] at hh cg
    have h0 : pt.getD p 0 = 0 := by rw [hpk]; exact hh i hi
    have hx0 : x ≠ 0 := by
      intro e; subst e
      rw [if_pos rfl] at hxx; exact hxx h0
    refine (pg_set_none c0 c2 f2 cg fg hqg hql hgl hk hn hi (by omega) hx0 hpk).mono ?_
    rintro e w' ⟨rfl, rfl⟩
    refine ⟨rfl, ((Touch.refl S w).setCell (a := ⟨g, k, none⟩) (fun _ => sg) _ |>.setCell (a := ⟨q, 2, none⟩) (fun _ => sq) _).alloc _, hok', .inl sq, g, c, L.set k (some w.heap.size), ?_, by rw [hlen]; exact h1, h2, .inl sg, ?_, fun j hj => ?_, fun a b y ha hb => ?_⟩
    · have r1 := (own_set_other (q := g) (j := k) hr (.pointer (some ⟨w.heap.size, 0, none⟩)) (fun y hy => by cases hy; exact hqg))
      have r2 : Rec _ _ _ _ := Rec.set (q := q) r1 2 (.int .i64 ((nz pt : Nat) + 1))
      refine rec_cast (r2.gr ((Gr.refl _).alloc _)) ?_
      rw [nz_set hp h0 hx0, hlen]
      rfl
    · rw [hlen, ptrs_set]
      exact own_gr (own_set_other (World.ownsRow.stored ho k _).1 _ (fun y hy => by cases hy; exact hgq)) ((Gr.refl _).alloc _)
    · rw [hlen] at hj
      rw [getD_setN hkL]
      by_cases e : k = j
      · subst e
        rw [if_pos rfl]
        refine ⟨.inr (Nat.le_refl _), ?_⟩
        have hs : ∀ (W : World) (Z : Array Value) (xs : List Value) (N : Nat), W.heap.size = N → Z.toList = xs → Rec (W.alloc (.cells Z 257)) N 257 xs := by
          rintro W Z xs N rfl rfl
          exact Rec.new W _ _
        refine hs _ _ _ _ (by simp) ?_
        rw [Array.toList_setIfInBounds, Array.toList_setIfInBounds, zero_table, hpk, tabRow_set (by omega) hi rfl]
        have : nz ((tabOf pt k).set i x) = 1 := by
          rw [nz_set (by rw [tabOf_len]; exact hi) (by rw [tabOf_at _ _ hi]; exact hh i hi) hx0, rep_all (tabOf_len pt k) (fun y hy => by rw [tabOf_at _ _ hy]; exact hh y hy), nz_rep]
        rw [this, tabRow_zero hh]
        rfl
      · rw [if_neg e]
        have hh' := ht j hj
        cases hl' : L.getD j none with
        | none =>
          rw [hl'] at hh'
          intro y hy
          rw [getD_setM hp, if_neg (by omega)]
          exact hh' y hy
        | some b =>
          rw [hl'] at hh'
          refine ⟨.inl hh'.1, ?_⟩
          rw [hpk, tabRow_other hi (fun h => e h.symm)]
          have hbg : b ≠ g := own_ne hh'.2 ho (by decide) rfl rfl
          have hbq : b ≠ q := own_ne hh'.2 hr (by decide) rfl rfl
          have r1 := own_set_other (q := g) (j := k) hh'.2 (.pointer (some ⟨w.heap.size, 0, none⟩)) (fun y hy => by cases hy; exact hbg)
          exact Rec.gr (own_set_other r1 _ (fun y hy => by cases hy; exact hbq)) ((Gr.refl _).alloc _)
    · rw [getD_setN hkL] at ha hb
      have hne : ∀ j, L.getD j none ≠ some w.heap.size := fun j hj => by
        by_cases hj' : j < ntab pt.length
        · have := ht j hj'
          rw [hj] at this
          exact absurd this.2.lt (Nat.lt_irrefl _)
        · rw [List.getD_eq_getElem?_getD, List.getElem?_eq_none (by omega)] at hj; cases hj
      by_cases e1 : k = a <;> by_cases e2 : k = b
      · rw [← e1, e2]
      · rw [if_pos e1] at ha; rw [if_neg e2] at hb; cases ha; exact absurd hb (hne b)
      · rw [if_neg e1] at ha; rw [if_pos e2] at hb; cases hb; exact absurd ha (hne a)
      · rw [if_neg e1] at ha; rw [if_neg e2] at hb; exact hd _ _ _ ha hb
  | some b =>
    rw [hl] at hh cg
    obtain ⟨sb, hb⟩ := hh
    have hbg : b ≠ g := own_ne hb ho (by decide) rfl rfl
    have hgb : g ≠ b := fun e => hbg e.symm
    have hbq : b ≠ q := own_ne hb hr (by decide) rfl rfl
    have hqb : q ≠ b := fun e => hbq e.symm
    have cb := hb.cell (tabRow_at pt k hi)
    have cn := hb.cell (tabRow_n pt k)
    have hti : i < (tabOf pt k).length := by rw [tabOf_len]; exact hi
    have htat : (tabOf pt k).getD i 0 = pt.getD p 0 := by rw [tabOf_at _ _ hi, hpk]
    have hby : if x = 0 then nz ((tabOf pt k).set i x) + 1 = nz (tabOf pt k) ∧ nz (pt.set p x) + 1 = nz pt else nz ((tabOf pt k).set i x) = nz (tabOf pt k) + 1 ∧ nz (pt.set p x) = nz pt + 1 := by
      by_cases e : x = 0
      · rw [if_pos e] at hxx ⊢
        subst e
        exact ⟨nz_drop hti (by rw [htat]; exact hxx), nz_drop hp hxx⟩
      · rw [if_neg e] at hxx ⊢
        exact ⟨nz_set hti (by rw [htat]; exact hxx) e, nz_set hp hxx e⟩
    have l1 := nz_le (tabOf pt k)
    have l2 := nz_le ((tabOf pt k).set i x)
    rw [List.length_set] at l2
    rw [tabOf_len] at l1 l2
    have l3 := nz_le (pt.set p x)
    rw [hlen] at l3
    refine (pg_set_some c0 c2 f2 cg fg cb cn (hb.free i) (hb.free 256) hqg hbg hbq hk hn hi (by omega) (m' := nz (pt.set p x)) (by omega) l1 l2 hx hby hpk).mono ?_
    rintro e w' ⟨rfl, rfl⟩
    obtain ⟨t', ht'⟩ : ∃ t', t' = nz ((tabOf pt k).set i x) := ⟨_, rfl⟩
    rw [← ht']
    have hrow := tabRow_set (pt := pt) (k := k) (i := i) (x := x) (t := t') (by omega) hi ht'.symm
    rw [← hpk] at hrow
    -- the world behind the first three stores
    obtain ⟨W, hW⟩ : ∃ W, W = ((w.setCell ⟨b, i, none⟩ (.int .u32 x)).setCell ⟨b, 256, none⟩ (.int .i64 t')).setCell ⟨q, 2, none⟩ (.int .i64 (nz (pt.set p x) : Nat)) := ⟨_, rfl⟩
    have TW : Touch S w W := by rw [hW]; exact ((Touch.refl S w).setCell (a := ⟨b, i, none⟩) (fun _ => sb) _ |>.setCell (a := ⟨b, 256, none⟩) (fun _ => sb) _).setCell (a := ⟨q, 2, none⟩) (fun _ => sq) _
    have RQ : Rec W q 220 [.slice (some ⟨g, 0, none⟩) (ntab pt.length) c, .int .i64 pt.length, .int .i64 (nz (pt.set p x) : Nat)] := by
      rw [hW]
      have r1 := own_set_other (q := b) (j := i) hr (.int .u32 x) (fun y hy => by cases hy; exact hqb)
      have r2 := own_set_other (q := b) (j := 256) r1 (.int .i64 t') (fun y hy => by cases hy; exact hqb)
      exact Rec.set r2 2 _
    have RG : W.ownsRow 0 254 1 (.slice (some ⟨g, 0, none⟩) (ntab pt.length) c) (ntab pt.length) (ptrs L) := by
      rw [hW]
      exact own_set_other (own_set_other (own_set_other ho _ (fun y hy => by cases hy; exact hgb)) _ (fun y hy => by cases hy; exact hgb)) _ (fun y hy => by cases hy; exact hgq)
    have RB : Rec W b 257 (tabRow (pt.set p x) k) := by
      rw [hW, hrow]
      exact own_set_other (Rec.set (Rec.set hb i _) 256 _) _ (fun y hy => by cases hy; exact hbq)
    have RO : ∀ j y, j ≠ k → j < ntab pt.length → L.getD j none = some y → S y ∧ Rec W y 257 (tabRow (pt.set p x) j) := fun j y hj hj2 hy => by
      have := ht j hj2
      rw [hy] at this
      refine ⟨this.1, ?_⟩
      rw [hpk, tabRow_other hi hj, hW]
      have hyb : y ≠ b := fun e => hj (hd _ _ _ (by rw [e] at hy; exact hy) hl)
      have hyq : y ≠ q := own_ne this.2 hr (by decide) rfl rfl
      exact own_set_other (own_set_other (own_set_other this.2 _ (fun z hz => by cases hz; exact hyb)) _ (fun z hz => by cases hz; exact hyb)) _ (fun z hz => by cases hz; exact hyq)
    have RN : ∀ j, j ≠ k → j < ntab pt.length → L.getD j none = none → ∀ y, y < 256 → (pt.set p x).getD (256 * j + y) 0 = 0 := fun j hj hj2 hy y hy2 => by
      have := ht j hj2
      rw [hy] at this
      rw [getD_setM hp, if_neg (by omega)]
      exact this y hy2
    unfold pgSet
    by_cases h0 : t' = 0
    · rw [if_pos h0, ← hW]
      refine ⟨rfl, TW.setCell (a := ⟨g, k, none⟩) (fun _ => sg) _, hok', .inl sq, g, c, L.set k none, ?_, by rw [hlen]; exact h1, h2, .inl sg, ?_, fun j hj => ?_, fun a y z ha hz => ?_⟩
      · rw [hlen]
        exact own_set_other RQ _ (fun y hy => by cases hy; exact hqg)
      · rw [hlen, ptrs_set]
        exact (World.ownsRow.stored RG k _).1
      · rw [hlen] at hj
        rw [getD_setN hkL]
        by_cases e : k = j
        · subst e
          rw [if_pos rfl]
          intro y hy
          have := nz_none (l := (tabOf pt k).set i x) (by rw [← ht']; exact h0) (i := y) (by rw [List.length_set, tabOf_len]; exact hy)
          rw [← tabOf_set (by omega), tabOf_at _ _ hy, ← hpk] at this
          exact this
        · rw [if_neg e]
          cases hl' : L.getD j none with
          | none => exact RN j (fun h => e h.symm) hj hl'
          | some y =>
            have := RO j y (fun h => e h.symm) hj hl'
            have hyg : y ≠ g := own_ne this.2 RG (by decide) rfl rfl
            exact ⟨.inl this.1, own_set_other this.2 _ (fun z hz => by cases hz; exact hyg)⟩
      · rw [getD_setN hkL] at ha hz
        by_cases e1 : k = a
        · rw [if_pos e1] at ha; cases ha
        · by_cases e2 : k = y
          · rw [if_pos e2] at hz; cases hz
          · rw [if_neg e1] at ha; rw [if_neg e2] at hz; exact hd _ _ _ ha hz
    · rw [if_neg h0, ← hW]
      refine ⟨rfl, TW, hok', .inl sq, g, c, L, ?_, by rw [hlen]; exact h1, h2, .inl sg, ?_, fun j hj => ?_, hd⟩
      · rw [hlen]; exact RQ
      · rw [hlen]; exact RG
      · rw [hlen] at hj
        by_cases e : k = j
        · subst e
          rw [hl]
          exact ⟨.inl sb, RB⟩
        · cases hl' : L.getD j none with
          | none => exact RN j (fun h => e h.symm) hj hl'
          | some y =>
            have := RO j y (fun h => e h.symm) hj hl'
            exact ⟨.inl this.1, this.2⟩
end
end Go.Proofs.YtbmidhlilafgeaaGreatDoor
end

section
namespace Go.Proofs.YtbmidhlilafgeaaGreatDoor
open Go.RowKit Word

def frE (pt : List Nat) (p : Int) : Int := if pgE pt p = 0 then (if pt.getD p.toNat 0 = 0 then 12 else 0) else 11
def frV (pt : List Nat) (p : Int) : Int := if frE pt p = 0 then (pt.getD p.toNat 0 : Nat) - 1 else 0
section
variable {w : World} {S : Nat → Prop} {q : Nat} {pt : List Nat}
theorem pg_in1 (hM : PgAt w S q pt) {b : Nat} {p : Int} (hc : w.cell? ⟨b, 0, none⟩ = some (.int .i64 p)) : Calls Tryz.prog 157 #[.pointer (some ⟨q, 0, none⟩), .slice (some ⟨b, 0, none⟩) 1 1] w fun e w' => e = .returned (.int .i64 (pgE pt p)) ∧ w = w' := by
  have := pg_in hM (b := b) (n := 1) (l := [p]) rfl (by omega) (fun i hi => by
    obtain rfl : i = 0 := by omega
    exact hc)
  refine this.mono ?_
  rintro e w' ⟨rfl, rfl⟩
  refine ⟨ret_int ?_, rfl⟩
  unfold pgsE
  rcases pgE_cut pt p with h | h | h
  · simp [h.2]
  · simp [h.2.2]
  · simp [h.2.2]
theorem pgE_zero {pt : List Nat} {p : Int} (h : pgE pt p = 0) : ∃ j : Nat, p = j ∧ j < pt.length := by
  unfold pgE at h
  split at h
  · exact ⟨p.toNat, by omega, by omega⟩
  · cases h
theorem pgE_two (pt : List Nat) (p : Int) : pgE pt p = 0 ∨ pgE pt p = 11 := by unfold pgE; split <;> simp
set_option maxRecDepth 100000 in
set_option maxHeartbeats 800000 in
theorem pg_frame (hM : PgAt w S q pt) (p : Int) : Calls Tryz.prog 91 #[.pointer (some ⟨q, 0, none⟩), .int .i64 p] w fun e w' => e = .returned (.tuple #[.int .i64 (frV pt p), .int .i64 (frE pt p)]) ∧ Gr w w' := by
  have HM := hid hM
  rcases pgE_two pt p with h0 | h0
  · obtain ⟨j, rfl, hj⟩ := pgE_zero h0
    have hl : pt.getD j 0 < 4294967296 := by
      rw [List.getD_eq_getElem?_getD, List.getElem?_eq_getElem hj]
      exact hM.ok.lt _ (List.getElem_mem hj)
    have HV : Hid (frE pt j = if pt.getD j 0 = 0 then 12 else 0) := ⟨by unfold frE; rw [if_pos h0, Int.toNat_natCast]⟩
    have HF : Hid (frV pt j = if frE pt j = 0 then ((pt.getD j 0 : Nat) : Int) - 1 else 0) := ⟨by unfold frV; rw [Int.toNat_natCast]⟩
    have HG := hid (fun (w' : World) (h : Gr w w') => pg_get (hM.gr h) hj)
    have H0 := hid h0
    clear hM hj h0
    generalize pt.getD j 0 = x at HV HF HG hl
    by_cases hx : x = 0
    · subst hx
      have E1 := HV.out
      rw [if_pos rfl] at E1
      have E2 := HF.out
      rw [E1, if_neg (by decide)] at E2
      have HE := hid (And.intro E1 E2)
      clear E1 E2 HV HF
      go_enter Tryz.func91, Tryz.ntmps91
      go_wp2_with (first
        | (go_at_call 157; refine (pg_in1 (HM.out.gr ((Gr.refl w).alloc _)) (p := j) (World.cell?_alloc_at _ _ _ 0 rfl)).mono ?_; rintro e w1 ⟨rfl, rfl⟩; rw [H0.out])
        | (go_at_call 158; refine (HG.out _ ((Gr.refl w).alloc _)).mono ?_; rintro e w1 ⟨rfl, rfl⟩))
      go_ret2
      exact ⟨ret2 (vint (by rw [HE.out.2])) (vint (by rw [HE.out.1])), (Gr.refl w).alloc _⟩
    · have E1 := HV.out
      rw [if_neg hx] at E1
      have E2 := HF.out
      rw [E1, if_pos rfl] at E2
      have HE := hid (And.intro E1 E2)
      have d0 : ((x : Int) == 0) = false := by simpa using hx
      clear E1 E2 HV HF
      go_enter Tryz.func91, Tryz.ntmps91
      go_wp2_with (first
        | (go_at_call 157; refine (pg_in1 (HM.out.gr ((Gr.refl w).alloc _)) (p := j) (World.cell?_alloc_at _ _ _ 0 rfl)).mono ?_; rintro e w1 ⟨rfl, rfl⟩; rw [H0.out])
        | (go_at_call 158; refine (HG.out _ ((Gr.refl w).alloc _)).mono ?_; rintro e w1 ⟨rfl, rfl⟩))
      go_ret2
      exact ⟨ret2 (vint (by rw [HE.out.2])) (vint (by rw [HE.out.1])), (Gr.refl w).alloc _⟩
  · have E1 : frE pt p = 11 := by unfold frE; rw [if_neg (by rw [h0]; decide)]
    have E2 : frV pt p = 0 := by unfold frV; rw [if_neg (by rw [E1]; decide)]
    have HE := hid (And.intro E1 E2)
    have H0 := hid h0
    clear E1 E2 h0 hM
    go_enter Tryz.func91, Tryz.ntmps91
    go_wp2_with (go_at_call 157; refine (pg_in1 (HM.out.gr ((Gr.refl w).alloc _)) (p := p) (World.cell?_alloc_at _ _ _ 0 rfl)).mono ?_; rintro e w1 ⟨rfl, rfl⟩; rw [H0.out])
    go_ret2
    exact ⟨ret2 (vint (by rw [HE.out.2])) (vint (by rw [HE.out.1])), (Gr.refl w).alloc _⟩
set_option maxRecDepth 100000 in
set_option maxHeartbeats 800000 in
theorem pg_put (hM : PgAt w S q pt) {p f : Nat} (hp : p < pt.length) (h0 : pt.getD p 0 = 0) (hf : f < 4096) : Calls Tryz.prog 172 #[.pointer (some ⟨q, 0, none⟩), .int .i64 p, .int .i64 f] w fun e w' => e = .returned (.int .i64 0) ∧ SetEnd w S q pt p (f + 1) w' := by
  have HM := hid hM
  have HI : Hid (pgE pt p = 0) := ⟨by unfold pgE; rw [if_pos ⟨by omega, by omega⟩]⟩
  have HG := hid (fun (w' : World) (h : Gr w w') => pg_get (hM.gr h) hp)
  have HS := hid (fun (w' : World) (h : Gr w w') => pg_set (hM.gr h) (x := f + 1) hp (by omega) (by rw [if_neg (by omega)]; exact h0))
  rw [h0] at HG
  have b1 : ((f : Int) + 1) % 4294967296 = (f : Int) + 1 := by omega
  have b2 : (f : Int) % 4294967296 = (f : Int) := by omega
  clear hM hp h0
  go_enter Tryz.func172, Tryz.ntmps172
  go_wp2_with (first
    | (go_at_call 157; refine (pg_in1 (HM.out.gr ((Gr.refl w).alloc _)) (p := p) (World.cell?_alloc_at _ _ _ 0 rfl)).mono ?_; rintro e w1 ⟨rfl, rfl⟩; rw [HI.out])
    | (go_at_call 158; refine (HG.out _ ((Gr.refl w).alloc _)).mono ?_; rintro e w1 ⟨rfl, rfl⟩)
    | (go_at_call 185; refine (HS.out _ ((Gr.refl w).alloc _)).mono ?_; rintro e w1 ⟨rfl, hs1⟩; have HE := hid hs1; clear hs1))
  go_ret
  obtain ⟨t1, t2⟩ := HE.out
  exact ⟨rfl, (((Gr.refl w).alloc _).touch S).trans t1, t2.mono (fun k hk => hk.imp id (fun h => Nat.le_trans ((Gr.refl w).alloc _).size h))⟩
/-- Drop's results. -/
def PgDropEnd (w : World) (S : Nat → Prop) (q : Nat) (pt : List Nat) (p : Int) (w' : World) : Prop := (frE pt p ≠ 0 ∧ Gr w w') ∨ (frE pt p = 0 ∧ SetEnd w S q pt p.toNat 0 w')
theorem frE_zero {pt : List Nat} {p : Int} (h : frE pt p = 0) : ∃ j : Nat, p = j ∧ j < pt.length ∧ pt.getD j 0 ≠ 0 := by
  unfold frE at h
  split at h
  · rename_i h0
    obtain ⟨j, rfl, hj⟩ := pgE_zero h0
    refine ⟨j, rfl, hj, fun e => ?_⟩
    rw [Int.toNat_natCast, if_pos e] at h
    cases h
  · cases h
theorem frE_range (pt : List Nat) (p : Int) : 0 ≤ frE pt p ∧ frE pt p ≤ 12 := by unfold frE; split <;> (try split) <;> omega
set_option maxRecDepth 100000 in
set_option maxHeartbeats 800000 in
theorem pg_drop (hM : PgAt w S q pt) (p : Int) : Calls Tryz.prog 136 #[.pointer (some ⟨q, 0, none⟩), .int .i64 p] w fun e w' => e = .returned (.tuple #[.int .i64 (frV pt p), .int .i64 (frE pt p)]) ∧ PgDropEnd w S q pt p w' := by
  have HM := hid hM
  by_cases h0 : frE pt p = 0
  · have HZ := hid h0
    obtain ⟨j, rfl, hj, hx⟩ := frE_zero h0
    have HS := hid (fun (w' : World) (h : Gr w w') => pg_set (hM.gr h) (x := 0) hj (by omega) (by rw [if_pos rfl]; exact hx))
    clear h0 hM hj hx
    go_enter Tryz.func136, Tryz.ntmps136
    go_wp2_with (first
      | (go_at_call 91; refine (pg_frame HM.out j).mono ?_; rintro e w1 ⟨rfl, hg1⟩; rw [HZ.out]; have HG1 := hid hg1; clear hg1)
      | (go_at_call 185; refine (HS.out _ HG1.out).mono ?_; rintro e w2 ⟨rfl, hs1⟩; have HE := hid hs1; clear hs1))
    go_ret2
    obtain ⟨t1, t2⟩ := HE.out
    refine ⟨ret2 rfl (vint (by rw [HZ.out])), .inr ⟨HZ.out, (HG1.out.touch S).trans t1, ?_⟩⟩
    rw [Int.toNat_natCast]
    exact t2.mono (fun k hk => hk.imp id (fun h => Nat.le_trans HG1.out.size h))
  · have HZ := hid h0
    have hr := frE_range pt p
    have HV : Hid (frE pt p = frE pt p) := ⟨rfl⟩
    obtain ⟨x, hx⟩ : ∃ x, x = frE pt p := ⟨_, rfl⟩
    have HX := hid hx
    rw [← hx] at h0 hr
    have d0 : (x == 0) = false := by simpa using h0
    clear hM hx
    go_enter Tryz.func136, Tryz.ntmps136
    go_wp2_with (go_at_call 91; refine (pg_frame HM.out p).mono ?_; rintro e w1 ⟨rfl, hg1⟩; rw [← HX.out]; have HG1 := hid hg1; clear hg1)
    go_ret2
    exact ⟨ret2 rfl (vint (by rw [HX.out])), .inl ⟨HZ.out, HG1.out⟩⟩
theorem PtOk.new {n : Nat} (h1 : 1 ≤ n) (h2 : n ≤ 524288) : PtOk (List.replicate n 0) :=
  ⟨by simpa using h1, by simpa using h2, fun x hx => by rw [List.eq_of_mem_replicate hx]; decide⟩
theorem rep_getD (n i : Nat) : (List.replicate n 0).getD i 0 = 0 := by
  rw [List.getD_eq_getElem?_getD, List.getElem?_replicate]
  split <;> rfl
theorem infoTabP : (Tryz.prog.info? 254).map (fun i => (i.zero, i.size, i.bytes)) = some (some (.pointer none), 1, 8) := by kernel_rfl
theorem made_none (n : Nat) : (madeCells #[.pointer none] n).toList = ptrs (List.replicate n none) := by
  unfold madeCells ptrs
  apply List.ext_getElem
  · simp
  · intro i h1 h2
    simp [Nat.mod_one]
theorem own_zero {w : World} {base E size : Nat} {v : Value} {n : Nat} {xs : List Value} (h : w.ownsRow base E size v n xs) : w.ownsRow 0 E size v n xs := by
  obtain ⟨h1, h | ⟨g, c, cur, e1, e2, h⟩⟩ := h
  · exact ⟨h1, .inl h⟩
  · exact ⟨h1, .inr ⟨g, c, cur, e1, Nat.zero_le _, h⟩⟩
set_option maxRecDepth 100000 in
set_option maxHeartbeats 800000 in
theorem pg_new {n : Nat} (h1 : 1 ≤ n) (h2 : n ≤ 524288) : Calls Tryz.prog 120 #[.int .i64 n] w fun e w' => ∃ q, e = .returned (.tuple #[.pointer (some ⟨q, 0, none⟩), .int .i64 0]) ∧ Gr w w' ∧ PgAt w' (fun k => w.heap.size ≤ k) q (List.replicate n 0) := by
  obtain ⟨i0, hi, hz0, hz1, hz2⟩ := info_parts infoTabP
  have e1 : ((n : Int) + 256 - 1) / 256 = (ntab n : Int) := by unfold ntab; omega
  have b0 : ntab n ≤ 2048 := ntab_le h2
  have HB : Hid (i0.bytes * ntab n ≤ 281474976710656) := ⟨by rw [hz2]; omega⟩
  have HM : Hid (ntab n ≤ maxLen) := ⟨by unfold maxLen; omega⟩
  go_enter Tryz.func120, Tryz.ntmps120
  go_wp2_with (at_make; refine wpList_make_full _ rfl _ _ 218 rfl w.heap.size 254 i0 (.pointer none) 1 Tryz.underlying218 hi hz0 hz1 .i64 .i64 _ _ (ntab n) rfl rfl ?h1 ?h2 HB.out HM.out (Nat.le_refl _) ?h3)
  case h1 => omega
  case h2 => omega
  case h3 =>
    intro w1 hown hgrow
    have hg1 : Gr w w1 := (grownBy_touch hgrow (fun _ => False) (fun k e _ => by cases e)).gr
    have HO := hid (own_zero hown)
    have HG := hid hg1
    clear hown hgrow hg1
    go_wp2
    go_ret2
    have hl : (List.replicate n 0).length = n := List.length_replicate
    have hown := HO.out
    rw [made_none] at hown
    refine ⟨_, ret2 rfl rfl, HG.out.alloc _, PtOk.new h1 h2, HG.out.size, w.heap.size, ntab n, List.replicate (ntab n) none, ?_, by rw [hl]; exact Nat.le_refl _, HM.out, Nat.le_refl _, ?_, fun k hk => ?_, fun k j b hk => ?_⟩
    · rw [hl, nz_rep]; exact Rec.new w1 _ _
    · rw [hl]; exact own_gr hown ((Gr.refl _).alloc _)
    · rw [List.getD_eq_getElem?_getD, List.getElem?_replicate]
      rw [hl] at hk
      rw [if_pos hk]
      exact fun i _ => rep_getD n _
    · rw [List.getD_eq_getElem?_getD, List.getElem?_replicate] at hk
      split at hk <;> cases hk
end
end Go.Proofs.YtbmidhlilafgeaaGreatDoor
end
end
section
section
namespace Go.Proofs.YtbmidhlilafgeaaGreatDoor
open Go.RowKit Word

/-- A paged memory: how many words, the pool, each page's frame and 1. -/
structure Vm where
  n : Nat
  pl : Pl
  pt : List Nat
structure VmOk (v : Vm) : Prop where
  pl : PlOk v.pl
  pt : PtOk v.pt
  n2 : v.n ≤ 524288
  np : v.n = v.pt.length * v.pl.pg
  fr : ∀ p, p < v.pt.length → v.pt.getD p 0 ≠ 0 → at_ v.pl.tk (v.pt.getD p 0 - 1) = true
  inj : ∀ p p', p < v.pt.length → p' < v.pt.length → v.pt.getD p 0 ≠ 0 → v.pt.getD p 0 = v.pt.getD p' 0 → p = p'
  us : v.pl.used = nz v.pt
/-- A paged memory q lies in w, all of it in blocks of S. -/
structure VmAt (w : World) (S : Nat → Prop) (q : Nat) (v : Vm) : Prop where
  ok : VmOk v
  sq : S q
  row : ∃ S1 S2 b1 b2, Rec w q 115 [.pointer (some ⟨b1, 0, none⟩), .pointer (some ⟨b2, 0, none⟩), .int .i64 v.n] ∧ PoolAt w S1 b1 v.pl ∧ PgAt w S2 b2 v.pt ∧
    (∀ k, S1 k → S k) ∧ (∀ k, S2 k → S k) ∧ (∀ k, S1 k → ¬ S2 k) ∧ ¬ S1 q ∧ ¬ S2 q
theorem VmAt.touch {S T : Nat → Prop} {w w' : World} {q : Nat} {v : Vm} (h : VmAt w S q v) (t : Touch T w w') (hS : ∀ k, S k → k < w.heap.size → ¬ T k) : VmAt w' S q v := by
  obtain ⟨h1, h2, S1, S2, b1, b2, hr, hp, hg, s1, s2, s3, s4, s5⟩ := h
  exact ⟨h1, h2, S1, S2, b1, b2, hr.touch t (hS _ h2 hr.lt), hp.touch t (fun k hk => hS k (s1 k hk)), hg.touch t (fun k hk => hS k (s2 k hk)), s1, s2, s3, s4, s5⟩
theorem VmAt.gr {S : Nat → Prop} {w w' : World} {q : Nat} {v : Vm} (h : VmAt w S q v) (t : Gr w w') : VmAt w' S q v := h.touch (t.touch (fun _ => False)) (fun _ _ _ h => h)
theorem VmAt.mono {S T : Nat → Prop} {w : World} {q : Nat} {v : Vm} (h : VmAt w S q v) (hT : ∀ k, S k → T k) : VmAt w T q v := by
  obtain ⟨h1, h2, S1, S2, b1, b2, hr, hp, hg, s1, s2, s3, s4, s5⟩ := h
  exact ⟨h1, hT _ h2, S1, S2, b1, b2, hr, hp, hg, fun k hk => hT k (s1 k hk), fun k hk => hT k (s2 k hk), s3, s4, s5⟩
/-- S, without what is not there. -/
def cutS (S : Nat → Prop) (w : World) (k : Nat) : Prop := S k ∧ k < w.heap.size
theorem PoolAt.cut {w : World} {S : Nat → Prop} {q : Nat} {p : Pl} (h : PoolAt w S q p) : PoolAt w (cutS S w) q p := by
  obtain ⟨h1, h2, vw, vt, vb, hi, ts, hr, o1, o2, o3, s1, s2, s3⟩ := h
  exact ⟨h1, ⟨h2, hr.lt⟩, vw, vt, vb, hi, ts, hr, o1, o2, o3, fun g hg => ⟨s1 g hg, (own_lt o1 hg).2⟩, fun g hg => ⟨s2 g hg, (own_lt o2 hg).2⟩, fun g hg => ⟨s3 g hg, (own_lt o3 hg).2⟩⟩
theorem PgAt.cut {w : World} {S : Nat → Prop} {q : Nat} {pt : List Nat} (h : PgAt w S q pt) : PgAt w (cutS S w) q pt := by
  obtain ⟨ok, sq, g, c, L, hr, h1, h2, sg, ho, ht, hd⟩ := h
  refine ⟨ok, ⟨sq, hr.lt⟩, g, c, L, hr, h1, h2, ⟨sg, (own_lt ho rfl).2⟩, ho, fun k hk => ?_, hd⟩
  have := ht k hk
  cases hl : L.getD k none with
  | none => rw [hl] at this; exact this
  | some b => rw [hl] at this; exact ⟨⟨this.1, this.2.lt⟩, this.2⟩
theorem VmAt.cut {w : World} {S : Nat → Prop} {q : Nat} {v : Vm} (h : VmAt w S q v) : VmAt w (cutS S w) q v := by
  obtain ⟨h1, h2, S1, S2, b1, b2, hr, hp, hg, s1, s2, s3, s4, s5⟩ := h
  exact ⟨h1, ⟨h2, hr.lt⟩, cutS S1 w, cutS S2 w, b1, b2, hr, hp.cut, hg.cut, fun k hk => ⟨s1 k hk.1, hk.2⟩, fun k hk => ⟨s2 k hk.1, hk.2⟩, fun k hk hk2 => s3 k hk.1 hk2.1, fun h => s4 h.1, fun h => s5 h.1⟩
theorem ret3v {a b c a' b' c' : Value} (h1 : a = a') (h2 : b = b') (h3 : c = c') : Ending.returned (.tuple #[a, b, c]) = .returned (.tuple #[a', b', c']) := by rw [h1, h2, h3]
/-- Whether there is a word at an address, and where. -/
def Vm.ldE (v : Vm) (a : Int) : Int := if 0 ≤ a ∧ a < v.n then frE v.pt (a / v.pl.pg) else 11
def Vm.at (v : Vm) (a : Int) : Nat := (v.pt.getD (a / v.pl.pg).toNat 0 - 1) * v.pl.pg + (a % v.pl.pg).toNat
def Vm.ldV (v : Vm) (a : Int) : Nat := if v.ldE a = 0 then v.pl.wd.getD (v.at a) 0 else 0
def Vm.st (v : Vm) (a : Int) (x : Nat) : Vm := if v.ldE a = 0 then { v with pl := { v.pl with wd := v.pl.wd.set (v.at a) x } } else v
theorem VmOk.page {v : Vm} (h : VmOk v) : 1 ≤ v.pl.pg ∧ v.pl.pg ≤ 256 := ⟨by have := blockOk_pos h.pl.pg; omega, h.pl.pg2⟩
/-- An address's page and place. -/
theorem VmOk.split {v : Vm} (h : VmOk v) {a : Nat} (ha : a < v.n) : a / v.pl.pg < v.pt.length ∧ a % v.pl.pg < v.pl.pg := by
  have hp := h.page
  refine ⟨(Nat.div_lt_iff_lt_mul hp.1).2 (by rw [← h.np]; exact ha), Nat.mod_lt _ hp.1⟩
theorem VmOk.hit {v : Vm} {a : Int} (h0 : v.ldE a = 0) : ∃ j : Nat, a = j ∧ j < v.n ∧ v.pt.getD (j / v.pl.pg) 0 ≠ 0 := by
  unfold Vm.ldE at h0
  split at h0
  · rename_i hr
    obtain ⟨j, rfl⟩ : ∃ j : Nat, a = j := ⟨a.toNat, by omega⟩
    obtain ⟨p, hp1, hp2, hp3⟩ := frE_zero h0
    have hpj : p = j / v.pl.pg := by omega
    exact ⟨j, rfl, by omega, by rw [← hpj]; exact hp3⟩
  · cases h0
section
variable {w : World} {S : Nat → Prop} {q : Nat} {v : Vm}
theorem vm_none (hV : VmAt w S q v) : Calls Tryz.prog 75 #[.pointer (some ⟨q, 0, none⟩)] w fun e w' => e = .returned (.bool false) ∧ w = w' := by
  obtain ⟨S1, S2, b1, b2, hr, -⟩ := hV.row
  have c0 := hr.cell (j := 0) rfl
  clear hr
  go_enter Tryz.func75, Tryz.ntmps75
  go_wp2
  go_ret
  exact ⟨rfl, rfl⟩
def FindEnd (w : World) (v : Vm) (a : Int) (e : Ending) (w' : World) : Prop :=
  Gr w w' ∧ ∃ x y : Int, e = .returned (.tuple #[.int .i64 x, .int .i64 y, .int .i64 (v.ldE a)]) ∧ (v.ldE a = 0 → x = (v.pt.getD (a / v.pl.pg).toNat 0 : Nat) - 1 ∧ y = a % v.pl.pg)
set_option maxRecDepth 100000 in
set_option maxHeartbeats 1600000 in
theorem vm_find (hV : VmAt w S q v) (a : Int) : Calls Tryz.prog 128 #[.pointer (some ⟨q, 0, none⟩), .int .i64 a] w (FindEnd w v a) := by
  have HV := hid hV
  obtain ⟨S1, S2, b1, b2, hr, hp, hg, -⟩ := hV.row
  have c0 := hr.cell (j := 0) rfl
  have c1 := hr.cell (j := 1) rfl
  have c2 := hr.cell (j := 2) rfl
  have hql := hr.lt
  have HP := hid hp
  have HG := hid hg
  have hpg := hV.ok.page
  have hn := hV.ok.n2
  by_cases hin : 0 ≤ a ∧ a < v.n
  · obtain ⟨j, rfl⟩ : ∃ j : Nat, a = j := ⟨a.toNat, by omega⟩
    have HE : Hid (v.ldE j = frE v.pt ((j / v.pl.pg : Nat) : Int)) := ⟨by unfold Vm.ldE; rw [if_pos hin, Int.natCast_ediv]⟩
    have HA : Hid (((j : Int) / (v.pl.pg : Int)).toNat = j / v.pl.pg ∧ ((j % v.pl.pg : Nat) : Int) = (j : Int) % (v.pl.pg : Int)) := ⟨⟨by rw [← Int.natCast_ediv, Int.toNat_natCast], Int.natCast_emod ..⟩⟩
    obtain ⟨p, hpp⟩ : ∃ p, p = j / v.pl.pg := ⟨_, rfl⟩
    obtain ⟨o, hoo⟩ : ∃ o, o = j % v.pl.pg := ⟨_, rfl⟩
    have q1 : ((j : Int).tdiv (v.pl.pg : Int)) = (p : Int) := by rw [hpp]; rfl
    have q2 : ((j : Int) / (v.pl.pg : Int)) = (p : Int) := by rw [hpp]; rfl
    have q3 : ((j : Int).tmod (v.pl.pg : Int)) = (o : Int) := by rw [hoo]; rfl
    have q4 : ((j : Int) % (v.pl.pg : Int)) = (o : Int) := by rw [hoo]; rfl
    have hBp : (v.pl.pg : Int) ≠ 0 := by omega
    rw [← hpp] at HE
    rw [← hpp, ← hoo] at HA
    have hp2 : p ≤ 524288 := by have := Nat.div_le_self j v.pl.pg; omega
    have ho2 : o ≤ 524288 := by have := Nat.mod_le j v.pl.pg; omega
    have hjI : (j : Int) < (v.n : Int) := by omega
    obtain ⟨B, hB⟩ : ∃ B, B = v.pl.pg := ⟨_, rfl⟩
    have HB := hid hB
    rw [← hB] at q1 q2 q3 q4 hBp hpg
    have d0 : decide ((j : Int) < 0) = false := decide_eq_false (by omega)
    have d1 : decide ((v.n : Int) ≤ (j : Int)) = false := decide_eq_false (by omega)
    clear hr hp hg hV hin hpp hoo hB
    go_enter Tryz.func128, Tryz.ntmps128
    go_wp2_with (first
      | (go_at_call 75; refine (vm_none HV.out).mono ?_; rintro e w1 ⟨rfl, rfl⟩)
      | (go_at_call 122; refine (pool_page HP.out).mono ?_; rintro e w1 ⟨rfl, rfl⟩; rw [← HB.out]))
    have z1 : ∀ xs m, (grow w xs m).cell? ⟨q, 1, none⟩ = some (.pointer (some ⟨b2, 0, none⟩)) := fun xs m => ((grown w xs m).cell hql 1).trans c1
    refine wp_region_by (by kernel_rfl) (by kernel_rfl) ?_
    repeat (go_big_quiet_step ((go_at_call 91; have hc := fun xs m => pg_frame (HG.out.gr (grown w xs m)) (p : Int); exact Gets.grown (hc _ _))))
    refine wpQuiet_nil ?_
    intro _ hw'
    obtain ⟨⟨xs, nq⟩, hw''⟩ := hw'
    subst hw''
    go_wp2
    go_quiet (fail)
    go_wp2
    go_ret3
    refine ⟨(grown w _ _).drewN _, _, _, ret3v rfl rfl (vint HE.out.symm), fun h0 => ?_⟩
    rw [HE.out] at h0
    rw [HA.out.1, ← HA.out.2]
    refine ⟨?_, rfl⟩
    unfold frV
    rw [if_pos h0, Int.toNat_natCast]
  · have E : v.ldE a = 11 := by unfold Vm.ldE; rw [if_neg hin]
    have HE := hid E
    rcases (by omega : a < 0 ∨ (0 ≤ a ∧ (v.n : Int) ≤ a)) with h | h
    · have d0 : decide (a < 0) = true := decide_eq_true h
      clear hr hp hg hV hin E h
      go_enter Tryz.func128, Tryz.ntmps128
      go_wp2_with (go_at_call 75; refine (vm_none HV.out).mono ?_; rintro e w1 ⟨rfl, rfl⟩)
      go_ret3
      exact ⟨Gr.refl w, _, _, ret3v rfl rfl (vint HE.out.symm), fun h0 => by rw [HE.out] at h0; exact absurd h0 (by decide)⟩
    · have d0 : decide (a < 0) = false := decide_eq_false (by omega)
      have d1 : decide ((v.n : Int) ≤ a) = true := decide_eq_true h.2
      clear hr hp hg hV hin E h
      go_enter Tryz.func128, Tryz.ntmps128
      go_wp2_with (go_at_call 75; refine (vm_none HV.out).mono ?_; rintro e w1 ⟨rfl, rfl⟩)
      go_ret3
      exact ⟨Gr.refl w, _, _, ret3v rfl rfl (vint HE.out.symm), fun h0 => by rw [HE.out] at h0; exact absurd h0 (by decide)⟩
/-- What a found place is to the pool. -/
theorem find_wrd (hok : VmOk v) {a x y : Int} (h0 : v.ldE a = 0) (hx : x = (v.pt.getD (a / v.pl.pg).toNat 0 : Nat) - 1) (hy : y = a % v.pl.pg) : wrdE v.pl x y = 0 ∧ x.toNat * v.pl.pg + y.toNat = v.at a := by
  obtain ⟨j, rfl, hj, hne⟩ := VmOk.hit h0
  obtain ⟨h1, h2⟩ := hok.split hj
  have hf := hok.fr _ h1 hne
  have e1 : ((j : Int) / (v.pl.pg : Int)).toNat = j / v.pl.pg := by rw [← Int.natCast_ediv, Int.toNat_natCast]
  have e2 : (j : Int) % (v.pl.pg : Int) = ((j % v.pl.pg : Nat) : Int) := (Int.natCast_emod ..).symm
  rw [e1] at hx
  rw [e2] at hy
  have hx1 : 0 ≤ x := by omega
  have hx2 : x.toNat = v.pt.getD (j / v.pl.pg) 0 - 1 := by omega
  have hc : chkE v.pl x = 0 := by unfold chkE; rw [decide_eq_true hx1, hx2, hf]; rfl
  refine ⟨?_, ?_⟩
  · unfold wrdE
    rw [if_pos hc, if_pos ⟨by omega, by omega⟩]
  · unfold Vm.at
    rw [e1, e2, hx2, hy]
set_option maxRecDepth 100000 in
set_option maxHeartbeats 800000 in
theorem vm_load (hV : VmAt w S q v) (a : Int) : Calls Tryz.prog 64 #[.pointer (some ⟨q, 0, none⟩), .int .i64 a] w fun e w' => e = .returned (.tuple #[.int .u64 (v.ldV a : Nat), .int .i64 (v.ldE a)]) ∧ Gr w w' := by
  have HV := hid hV
  obtain ⟨S1, S2, b1, b2, hr, hp, hg, -⟩ := hV.row
  have hql := hr.lt
  have c0 := hr.cell (j := 0) rfl
  have HP := hid hp
  by_cases h0 : v.ldE a = 0
  · have HE := hid h0
    have HW : Hid (∀ x y : Int, x = (v.pt.getD (a / v.pl.pg).toNat 0 : Nat) - 1 → y = a % v.pl.pg → wrdE v.pl x y = 0 ∧ wrdV v.pl x y = v.ldV a) := ⟨fun x y hx hy => by
      obtain ⟨h1, h2⟩ := find_wrd hV.ok h0 hx hy
      refine ⟨h1, ?_⟩
      unfold wrdV Vm.ldV
      rw [if_pos h1, if_pos h0, h2]⟩
    clear hr hp hg hV h0
    go_enter Tryz.func64, Tryz.ntmps64
    go_wp2_with (first
      | (go_at_call 128; refine (vm_find HV.out a).mono ?_; rintro e w1 ⟨hg1, x, y, rfl, hxy⟩; have HXY := hid (HW.out x y (hxy HE.out).1 (hxy HE.out).2); rw [HE.out]; have k0 := (hg1.cell hql 0).trans c0; have HG1 := hid hg1; clear hg1 hxy)
      | (go_at_call 130; refine (pool_load (HP.out.gr HG1.out) x y).mono ?_; rintro e w2 ⟨rfl, rfl⟩))
    go_ret2
    exact ⟨ret2 (congrArg (fun n : Nat => Value.int .u64 (n : Int)) HXY.out.2) (vint (by rw [HXY.out.1, HE.out])), HG1.out⟩
  · have HV0 : Hid (v.ldV a = 0) := ⟨by unfold Vm.ldV; rw [if_neg h0]⟩
    obtain ⟨x, hx⟩ : ∃ x, x = v.ldE a := ⟨_, rfl⟩
    have HX := hid hx
    have d0 : (x == 0) = false := by rw [hx]; simpa using h0
    clear hr hp hg hV h0 hx
    go_enter Tryz.func64, Tryz.ntmps64
    go_wp2_with (go_at_call 128; refine (vm_find HV.out a).mono ?_; rintro e w1 ⟨hg1, x1, y1, rfl, -⟩; rw [← HX.out]; have HG1 := hid hg1; clear hg1)
    go_ret2
    exact ⟨ret2 (by rw [HV0.out]; rfl) (vint (by rw [HX.out])), HG1.out⟩
def StEnd (w : World) (S : Nat → Prop) (q : Nat) (v : Vm) (a : Int) (x : Nat) (w' : World) : Prop := Touch S w w' ∧ VmAt w' S q (v.st a x)
theorem VmOk.st (h : VmOk v) (a : Int) {x : Nat} (hx : x < 18446744073709551616) : VmOk (v.st a x) := by
  unfold Vm.st
  split
  · exact ⟨plOk_store h.pl _ _ hx, h.pt, h.n2, h.np, h.fr, h.inj, h.us⟩
  · exact h
set_option maxRecDepth 100000 in
set_option maxHeartbeats 800000 in
theorem vm_store (hV : VmAt w S q v) (a : Int) {x : Nat} (hx : x < 18446744073709551616) : Calls Tryz.prog 61 #[.pointer (some ⟨q, 0, none⟩), .int .i64 a, .int .u64 x] w fun e w' => e = .returned (.int .i64 (v.ldE a)) ∧ StEnd w S q v a x w' := by
  have HV := hid hV
  obtain ⟨S1, S2, b1, b2, hr, hp, hg, s1, s2, s3, s4, s5⟩ := hV.row
  have hql := hr.lt
  have c0 := hr.cell (j := 0) rfl
  have HP := hid hp
  have hok := hid (hV.ok.st a hx)
  have hX := hid hx
  by_cases h0 : v.ldE a = 0
  · have HE := hid h0
    have HS : Hid (v.st a x = { v with pl := { v.pl with wd := v.pl.wd.set (v.at a) x } }) := ⟨by unfold Vm.st; rw [if_pos h0]⟩
    have HW : Hid (∀ y z : Int, y = (v.pt.getD (a / v.pl.pg).toNat 0 : Nat) - 1 → z = a % v.pl.pg → wrdE v.pl y z = 0 ∧ wrdSet v.pl y z x = { v.pl with wd := v.pl.wd.set (v.at a) x }) := ⟨fun y z hy hz => by
      obtain ⟨h1, h2⟩ := find_wrd hV.ok h0 hy hz
      refine ⟨h1, ?_⟩
      unfold wrdSet
      rw [if_pos h1, h2]⟩
    have HK : Hid (∀ (w1 : World), Gr w w1 → ∀ w2, Touch S1 w1 w2 → PoolAt w2 S1 b1 { v.pl with wd := v.pl.wd.set (v.at a) x } → StEnd w S q v a x w2) := ⟨fun w1 g1 w2 t2 p2 => by
      have T : Touch S1 w w2 := (g1.touch S1).trans t2
      refine ⟨T.mono (fun k _ hk => s1 k hk), hok.out, hV.sq, S1, S2, b1, b2, ?_, ?_, ?_, s1, s2, s3, s4, s5⟩
      · rw [HS.out]; exact hr.touch T s4
      · rw [HS.out]; exact p2
      · rw [HS.out]; exact hg.touch T (fun k hk _ hk2 => s3 k hk2 hk)⟩
    clear hr hp hg hV h0 hx s1 s2 s3 s4 s5
    go_enter Tryz.func61, Tryz.ntmps61
    go_wp2_with (first
      | (go_at_call 128; refine (vm_find HV.out a).mono ?_; rintro e w1 ⟨hg1, y, z, rfl, hxy⟩; have HXY := hid (HW.out y z (hxy HE.out).1 (hxy HE.out).2); rw [HE.out]; have k0 := (hg1.cell hql 0).trans c0; have HG1 := hid hg1; clear hg1 hxy)
      | (go_at_call 129; refine (pool_store (HP.out.gr HG1.out) y z x hX.out).mono ?_; rintro e w2 ⟨rfl, ht2, hp2⟩; have HT2 := hid ht2; have HP2 := hid hp2; clear ht2 hp2))
    go_ret
    refine ⟨ret_int (by rw [HXY.out.1, HE.out]), HK.out _ HG1.out _ HT2.out ?_⟩
    rw [← HXY.out.2]; exact HP2.out
  · have HS : Hid (v.st a x = v) := ⟨by unfold Vm.st; rw [if_neg h0]⟩
    obtain ⟨y, hy⟩ : ∃ y, y = v.ldE a := ⟨_, rfl⟩
    have HX := hid hy
    have d0 : (y == 0) = false := by rw [hy]; simpa using h0
    clear hr hp hg hV h0 hx hy
    go_enter Tryz.func61, Tryz.ntmps61
    go_wp2_with (go_at_call 128; refine (vm_find HV.out a).mono ?_; rintro e w1 ⟨hg1, x1, y1, rfl, -⟩; rw [← HX.out]; have HG1 := hid hg1; clear hg1)
    go_ret
    exact ⟨ret_int (by rw [HX.out]), HG1.out.touch S, by rw [HS.out]; exact HV.out.gr HG1.out⟩
end
end Go.Proofs.YtbmidhlilafgeaaGreatDoor
end

section
namespace Go.Proofs.YtbmidhlilafgeaaGreatDoor
open Go.RowKit Word

def Vm.mpE (v : Vm) (p : Int) : Int := if pgE v.pt p ≠ 0 then 11 else if v.pt.getD p.toNat 0 ≠ 0 then 13 else if v.pl.used = v.pl.rm then 14 else 0
def Vm.mp (v : Vm) (p : Int) : Vm := if v.mpE p = 0 then { v with pl := v.pl.take, pt := v.pt.set p.toNat (v.pl.next + 1) } else v
def Vm.um (v : Vm) (p : Int) : Vm := if frE v.pt p = 0 then { v with pl := v.pl.give (v.pt.getD p.toNat 0 - 1), pt := v.pt.set p.toNat 0 } else v
theorem at_fresh {p : Pl} {f : Nat} (h : at_ p.tk f = true) : at_ p.fresh.tk f = true := by
  unfold Pl.fresh
  split
  · have := at_lt h
    show at_ (p.tk ++ [false]) f = true
    unfold at_ at h ⊢
    rw [List.getD_eq_getElem?_getD, List.getElem?_append_left this, ← List.getD_eq_getElem?_getD]
    exact h
  · exact h
theorem at_setB (l : List Bool) {i : Nat} (hi : i < l.length) (x : Bool) (j : Nat) : at_ (l.set i x) j = if i = j then x else at_ l j := by
  unfold at_
  simp only [List.getD_eq_getElem?_getD, List.getElem?_set]
  by_cases e : i = j
  · subst e; simp [hi]
  · simp [e]
theorem at_take {p : Pl} (h : PlOk p) (f : Nat) : at_ p.take.tk f = if p.next = f then true else at_ p.fresh.tk f := at_setB _ (next_lt h).1 _ _
theorem take_ne {p : Pl} (h : PlOk p) {f : Nat} (hf : at_ p.tk f = true) : f ≠ p.next := by
  rintro rfl
  have h1 := (next_lt h).2.2
  rw [at_fresh hf] at h1
  cases h1
theorem VmOk.frame {v : Vm} (h : VmOk v) {p : Nat} (hp : v.pt.getD p 0 ≠ 0) : at_ v.pl.tk (v.pt.getD p 0 - 1) = true := by
  by_cases hl : p < v.pt.length
  · exact h.fr p hl hp
  · rw [List.getD_eq_getElem?_getD, List.getElem?_eq_none (by omega)] at hp
    exact absurd rfl hp
theorem VmOk.mp {v : Vm} (h : VmOk v) (p : Int) : VmOk (v.mp p) := by
  unfold Vm.mp
  split
  · rename_i h0
    unfold Vm.mpE at h0
    by_cases h1 : pgE v.pt p ≠ 0
    · rw [if_pos h1] at h0; cases h0
    · rw [if_neg h1] at h0
      by_cases h2 : v.pt.getD p.toNat 0 ≠ 0
      · rw [if_pos h2] at h0; cases h0
      · rw [if_neg h2] at h0
        have h2' : v.pt.getD p.toNat 0 = 0 := Decidable.not_not.1 h2
        by_cases h3 : v.pl.used = v.pl.rm
        · rw [if_pos h3] at h0; cases h0
        · obtain ⟨j, rfl, hj⟩ := pgE_zero (Decidable.not_not.1 h1)
          rw [Int.toNat_natCast] at h2' ⊢
          have hn := next_lt h.pl
          have hle := used_le h.pl
          have hok := take_ok h.pl (by omega)
          have hlen : v.pl.fresh.tk.length = v.pl.take.tk.length := by unfold Pl.take; exact List.length_set.symm
          have hn2 : v.pl.next < 4096 := by have := hok.le; have := hok.rm; omega
          refine ⟨hok, h.pt.set j (by omega), h.n2, ?_, fun i hi hne => ?_, fun i i' hi hi' hne he => ?_, ?_⟩
          · show v.n = (v.pt.set j _).length * v.pl.take.pg
            rw [List.length_set]
            have : v.pl.take.pg = v.pl.pg := (fresh_same v.pl).1
            rw [this]; exact h.np
          · show at_ v.pl.take.tk ((v.pt.set j _).getD i 0 - 1) = true
            rw [getD_setM hj, at_take h.pl]
            by_cases e : j = i
            · rw [if_pos e, if_pos (by omega)]
            · rw [if_neg e]
              split
              · rfl
              · refine at_fresh (h.frame ?_)
                have : (v.pt.set j (v.pl.next + 1)).getD i 0 ≠ 0 := hne
                rw [getD_setM hj, if_neg e] at this
                exact this
          · have hne : (v.pt.set j (v.pl.next + 1)).getD i 0 ≠ 0 := hne
            have he : (v.pt.set j (v.pl.next + 1)).getD i 0 = (v.pt.set j (v.pl.next + 1)).getD i' 0 := he
            have hi : i < v.pt.length := by have : i < (v.pt.set j (v.pl.next + 1)).length := hi; rwa [List.length_set] at this
            have hi' : i' < v.pt.length := by have : i' < (v.pt.set j (v.pl.next + 1)).length := hi'; rwa [List.length_set] at this
            rw [getD_setM hj] at hne he
            rw [getD_setM hj] at he
            by_cases e : j = i <;> by_cases e' : j = i'
            · rw [← e, e']
            · rw [if_pos e, if_neg e'] at he
              have := take_ne h.pl (h.frame (p := i') (by omega))
              omega
            · rw [if_neg e, if_pos e'] at he
              have := take_ne h.pl (h.frame (p := i) (by omega))
              omega
            · rw [if_neg e] at hne he
              rw [if_neg e'] at he
              exact h.inj i i' hi hi' hne he
          · show v.pl.take.used = nz (v.pt.set j (v.pl.next + 1))
            rw [take_used h.pl, nz_set hj h2' (by omega), h.us]
  · exact h
theorem VmOk.um {v : Vm} (h : VmOk v) (p : Int) : VmOk (v.um p) := by
  unfold Vm.um
  split
  · rename_i h0
    obtain ⟨j, rfl, hj, hne⟩ := frE_zero h0
    rw [Int.toNat_natCast]
    have hf := h.fr j hj hne
    refine ⟨give_ok h.pl hf, h.pt.set j (by omega), h.n2, ?_, fun i hi hn => ?_, fun i i' hi hi' hn he => ?_, ?_⟩
    · show v.n = (v.pt.set j 0).length * v.pl.pg
      rw [List.length_set]; exact h.np
    · have hi : i < v.pt.length := by have : i < (v.pt.set j 0).length := hi; rwa [List.length_set] at this
      have hn : (v.pt.set j 0).getD i 0 ≠ 0 := hn
      show at_ (v.pl.tk.set _ false) ((v.pt.set j 0).getD i 0 - 1) = true
      rw [getD_setM hj] at hn ⊢
      by_cases e : j = i
      · rw [if_pos e] at hn; exact absurd rfl hn
      · rw [if_neg e] at hn ⊢
        rw [at_setB _ (at_lt hf), if_neg, h.fr i hi hn]
        intro e2
        exact e (h.inj j i hj hi hne (by omega))
    · have hi : i < v.pt.length := by have : i < (v.pt.set j 0).length := hi; rwa [List.length_set] at this
      have hi' : i' < v.pt.length := by have : i' < (v.pt.set j 0).length := hi'; rwa [List.length_set] at this
      have hn : (v.pt.set j 0).getD i 0 ≠ 0 := hn
      have he : (v.pt.set j 0).getD i 0 = (v.pt.set j 0).getD i' 0 := he
      rw [getD_setM hj] at hn he
      rw [getD_setM hj] at he
      by_cases e : j = i
      · rw [if_pos e] at hn; exact absurd rfl hn
      · rw [if_neg e] at hn he
        by_cases e' : j = i'
        · rw [if_pos e'] at he; omega
        · rw [if_neg e'] at he
          exact h.inj i i' hi hi' hn he
    · show (v.pl.give _).used = nz (v.pt.set j 0)
      have h1 := give_used (p := v.pl) hf
      have h2 := nz_drop hj hne
      have := h.us
      omega
  · exact h
/-! What is seen of a memory -/
theorem VmOk.place_lt {v : Vm} (h : VmOk v) {a : Int} (h0 : v.ldE a = 0) : v.at a < v.pl.wd.length := by
  obtain ⟨j, rfl, hj, hne⟩ := VmOk.hit h0
  obtain ⟨h1, h2⟩ := h.split hj
  have hf := at_lt (h.fr _ h1 hne)
  unfold Vm.at
  rw [← Int.natCast_ediv, Int.toNat_natCast, ← Int.natCast_emod, Int.toNat_natCast, h.pl.wl]
  have : (v.pt.getD (j / v.pl.pg) 0 - 1 + 1) * v.pl.pg ≤ v.pl.tk.length * v.pl.pg := Nat.mul_le_mul_right _ hf
  rw [Nat.succ_mul] at this
  omega
theorem split_mul {g f o f' o' : Nat} (h1 : o < g) (h2 : o' < g) (h : f * g + o = f' * g + o') : f = f' ∧ o = o' := by
  have e1 : (f * g + o) / g = f := by rw [Nat.mul_comm, Nat.mul_add_div (by omega), Nat.div_eq_of_lt h1, Nat.add_zero]
  have e2 : (f' * g + o') / g = f' := by rw [Nat.mul_comm, Nat.mul_add_div (by omega), Nat.div_eq_of_lt h2, Nat.add_zero]
  rw [h, e2] at e1
  subst e1
  exact ⟨rfl, by omega⟩
theorem VmOk.at_inj {v : Vm} (h : VmOk v) {a b : Int} (ha : v.ldE a = 0) (hb : v.ldE b = 0) (he : v.at a = v.at b) : a = b := by
  obtain ⟨j, rfl, hj, hne⟩ := VmOk.hit ha
  obtain ⟨i, rfl, hi, hne'⟩ := VmOk.hit hb
  obtain ⟨h1, h2⟩ := h.split hj
  obtain ⟨h3, h4⟩ := h.split hi
  unfold Vm.at at he
  rw [← Int.natCast_ediv, Int.toNat_natCast, ← Int.natCast_emod, Int.toNat_natCast, ← Int.natCast_ediv, Int.toNat_natCast, ← Int.natCast_emod, Int.toNat_natCast] at he
  obtain ⟨e1, e2⟩ := split_mul h2 h4 he
  have e3 := h.inj _ _ h1 h3 hne (by omega)
  have := Nat.div_add_mod j v.pl.pg
  have := Nat.div_add_mod i v.pl.pg
  rw [e3, e2] at *
  omega
theorem st_ldE (v : Vm) (a : Int) (x : Nat) (b : Int) : (v.st a x).ldE b = v.ldE b := by unfold Vm.st; split <;> rfl
theorem VmOk.st_ldV {v : Vm} (h : VmOk v) {a : Int} (x : Nat) (ha : v.ldE a = 0) (b : Int) : (v.st a x).ldV b = if a = b then x else v.ldV b := by
  have e1 : v.st a x = { v with pl := { v.pl with wd := v.pl.wd.set (v.at a) x } } := if_pos ha
  have e2 : (v.st a x).at b = v.at b := by rw [e1]; rfl
  have e3 : (v.st a x).pl.wd = v.pl.wd.set (v.at a) x := by rw [e1]
  unfold Vm.ldV
  rw [st_ldE, e2, e3]
  by_cases hb : v.ldE b = 0
  · rw [if_pos hb, if_pos hb, getD_setM (h.place_lt ha)]
    by_cases e : a = b
    · rw [if_pos e, if_pos (by rw [e])]
    · rw [if_neg e, if_neg (fun he => e (h.at_inj ha hb he))]
  · rw [if_neg hb, if_neg hb]
    by_cases e : a = b
    · subst e; exact absurd ha hb
    · rw [if_neg e]
theorem mp_none {v : Vm} {p : Int} (h : v.mpE p ≠ 0) : v.mp p = v := if_neg h
theorem um_none {v : Vm} {p : Int} (h : frE v.pt p ≠ 0) : v.um p = v := if_neg h
theorem mpE_zero {v : Vm} {p : Int} (h : v.mpE p = 0) : ∃ j : Nat, p = j ∧ j < v.pt.length ∧ v.pt.getD j 0 = 0 ∧ v.pl.used ≠ v.pl.rm := by
  unfold Vm.mpE at h
  split at h
  · cases h
  · rename_i h1
    obtain ⟨j, rfl, hj⟩ := pgE_zero (Decidable.not_not.1 h1)
    rw [Int.toNat_natCast] at h
    split at h
    · cases h
    · rename_i h2
      split at h
      · cases h
      · rename_i h3
        exact ⟨j, rfl, hj, Decidable.not_not.1 h2, h3⟩
theorem frE_of {pt : List Nat} {p : Nat} (h : p < pt.length) : frE pt p = if pt.getD p 0 = 0 then 12 else 0 := by
  unfold frE pgE
  rw [if_pos (show (if (0 : Int) ≤ (p : Int) ∧ (p : Int) < (pt.length : Int) then (0 : Int) else 11) = 0 from if_pos ⟨by omega, by omega⟩), Int.toNat_natCast]
theorem VmOk.ldE_of {v : Vm} (h : VmOk v) {a : Nat} (ha : a < v.n) : v.ldE a = if v.pt.getD (a / v.pl.pg) 0 = 0 then 12 else 0 := by
  unfold Vm.ldE
  rw [if_pos ⟨by omega, by omega⟩, ← Int.natCast_ediv, frE_of (h.split ha).1]
theorem VmOk.mp_ldE {v : Vm} (h : VmOk v) {p : Nat} (hp : v.mpE p = 0) {a : Nat} (ha : a < v.n) : (v.mp p).ldE a = if a / v.pl.pg = p then 0 else v.ldE a := by
  have e1 : v.mp p = { v with pl := v.pl.take, pt := v.pt.set p (v.pl.next + 1) } := by unfold Vm.mp; rw [if_pos hp, Int.toNat_natCast]
  obtain ⟨j, hj, hjl, -, -⟩ := mpE_zero hp
  obtain rfl : p = j := by omega
  have h1 := (h.mp p).ldE_of (a := a) (by rw [e1]; exact ha)
  have e2 : (v.mp p).pl.pg = v.pl.pg := by rw [e1]; exact (fresh_same v.pl).1
  have e3 : (v.mp p).pt = v.pt.set p (v.pl.next + 1) := by rw [e1]
  rw [h1, e2, e3, getD_setM hjl, h.ldE_of ha]
  by_cases e : a / v.pl.pg = p
  · rw [if_pos e.symm, if_pos e, if_neg (by omega)]
  · have en : ¬ p = a / v.pl.pg := fun h => e h.symm
    rw [if_neg en, if_neg e]
theorem VmOk.mp_ldV {v : Vm} (h : VmOk v) {p : Nat} (hp : v.mpE p = 0) {a : Nat} (ha : a < v.n) : (v.mp p).ldV a = if a / v.pl.pg = p then 0 else v.ldV a := by
  have e1 : v.mp p = { v with pl := v.pl.take, pt := v.pt.set p (v.pl.next + 1) } := by unfold Vm.mp; rw [if_pos hp, Int.toNat_natCast]
  obtain ⟨j, hj, hjl, -, -⟩ := mpE_zero hp
  obtain rfl : p = j := by omega
  have hE := h.mp_ldE hp ha
  obtain ⟨n1, n2, n3⟩ := next_lt h.pl
  have hf : v.pl.next * v.pl.pg + v.pl.pg ≤ v.pl.fresh.wd.length := by rw [n2, ← Nat.succ_mul]; exact Nat.mul_le_mul_right _ n1
  have e2 : (v.mp p).pl.pg = v.pl.pg := by rw [e1]; exact (fresh_same v.pl).1
  have e3 : (v.mp p).pt = v.pt.set p (v.pl.next + 1) := by rw [e1]
  have e4 : (v.mp p).pl.wd = zeroAt v.pl.fresh.wd (v.pl.next * v.pl.pg) v.pl.pg := by rw [e1]; rfl
  obtain ⟨s1, s2⟩ := h.split ha
  have e5 : (v.mp p).at a = ((v.pt.set p (v.pl.next + 1)).getD (a / v.pl.pg) 0 - 1) * v.pl.pg + a % v.pl.pg := by
    unfold Vm.at
    rw [e2, e3, ← Int.natCast_ediv, Int.toNat_natCast, ← Int.natCast_emod, Int.toNat_natCast]
  unfold Vm.ldV
  rw [hE, e4, e5, getD_setM hjl]
  by_cases e : a / v.pl.pg = p
  · rw [if_pos e, if_pos e, if_pos rfl, if_pos e.symm, zeroAt_get hf, if_pos ⟨by simp, by rw [Nat.add_sub_cancel]; omega⟩]
  · have en : ¬ p = a / v.pl.pg := fun h => e h.symm
    rw [if_neg e, if_neg e, if_neg en]
    by_cases h0 : v.ldE a = 0
    · rw [if_pos h0, if_pos h0]
      obtain ⟨j', hj', hj2, hne⟩ := VmOk.hit h0
      obtain rfl : a = j' := by omega
      have hfr := h.fr _ s1 hne
      have hnx := take_ne h.pl hfr
      have hlt := at_lt hfr
      have hat : v.at a = (v.pt.getD (a / v.pl.pg) 0 - 1) * v.pl.pg + a % v.pl.pg := by
        unfold Vm.at
        rw [← Int.natCast_ediv, Int.toNat_natCast, ← Int.natCast_emod, Int.toNat_natCast]
      have hal := h.place_lt h0
      rw [hat] at hal ⊢
      rw [zeroAt_get hf, if_neg]
      · unfold Pl.fresh
        split
        · generalize (v.pt.getD (a / v.pl.pg) 0 - 1) * v.pl.pg + a % v.pl.pg = i at hal
          simp only [List.getD_eq_getElem?_getD]
          rw [List.getElem?_append_left hal]
        · rfl
      · rintro ⟨c1, c2⟩
        generalize v.pt.getD (a / v.pl.pg) 0 - 1 = f at *
        rcases Nat.lt_or_ge f v.pl.next with hl | hl
        · have : (f + 1) * v.pl.pg ≤ v.pl.next * v.pl.pg := Nat.mul_le_mul_right _ hl
          rw [Nat.succ_mul] at this
          omega
        · have : (v.pl.next + 1) * v.pl.pg ≤ f * v.pl.pg := Nat.mul_le_mul_right _ (by omega)
          rw [Nat.succ_mul] at this
          omega
    · rw [if_neg h0, if_neg h0]
theorem VmOk.um_ldE {v : Vm} (h : VmOk v) {p : Nat} (hp : frE v.pt p = 0) {a : Nat} (ha : a < v.n) : (v.um p).ldE a = if a / v.pl.pg = p then 12 else v.ldE a := by
  have e1 : v.um p = { v with pl := v.pl.give (v.pt.getD p 0 - 1), pt := v.pt.set p 0 } := by unfold Vm.um; rw [if_pos hp, Int.toNat_natCast]
  obtain ⟨j, hj, hjl, -⟩ := frE_zero hp
  obtain rfl : p = j := by omega
  have h1 := (h.um p).ldE_of (a := a) (by rw [e1]; exact ha)
  have e2 : (v.um p).pl.pg = v.pl.pg := by rw [e1]; rfl
  have e3 : (v.um p).pt = v.pt.set p 0 := by rw [e1]
  rw [h1, e2, e3, getD_setM hjl, h.ldE_of ha]
  by_cases e : a / v.pl.pg = p
  · rw [if_pos e.symm, if_pos e, if_pos rfl]
  · have en : ¬ p = a / v.pl.pg := fun h => e h.symm
    rw [if_neg en, if_neg e]
theorem VmOk.um_ldV {v : Vm} (h : VmOk v) {p : Nat} (hp : frE v.pt p = 0) {a : Nat} (ha : a < v.n) (hne : a / v.pl.pg ≠ p) : (v.um p).ldV a = v.ldV a := by
  have e1 : v.um p = { v with pl := v.pl.give (v.pt.getD p 0 - 1), pt := v.pt.set p 0 } := by unfold Vm.um; rw [if_pos hp, Int.toNat_natCast]
  obtain ⟨j, hj, hjl, -⟩ := frE_zero hp
  obtain rfl : p = j := by omega
  have hE := h.um_ldE hp ha
  rw [if_neg hne] at hE
  have e5 : (v.um p).at a = v.at a := by
    unfold Vm.at
    rw [e1]
    show ((v.pt.set p 0).getD ((a : Int) / (v.pl.pg : Int)).toNat 0 - 1) * v.pl.pg + _ = _
    rw [← Int.natCast_ediv, Int.toNat_natCast, getD_setM hjl, if_neg (show ¬ p = a / v.pl.pg from fun h => hne h.symm)]
    rfl
  unfold Vm.ldV
  rw [hE, e5, e1]
  rfl
end Go.Proofs.YtbmidhlilafgeaaGreatDoor
end

section
namespace Go.Proofs.YtbmidhlilafgeaaGreatDoor
open Go.RowKit Word

def VmEnd (w : World) (S : Nat → Prop) (q : Nat) (v : Vm) (w' : World) : Prop := Touch S w w' ∧ VmAt w' (plus S w) q v
section
variable {w : World} {S : Nat → Prop} {q : Nat} {v : Vm}
theorem mpE_fr (v : Vm) (p : Int) : (frE v.pt p = 11 ∧ v.mpE p = 11) ∨ (frE v.pt p = 0 ∧ v.mpE p = 13) ∨ (frE v.pt p = 12 ∧ v.pl.used = v.pl.rm ∧ v.mpE p = 14) ∨ (frE v.pt p = 12 ∧ v.pl.used ≠ v.pl.rm ∧ v.mpE p = 0) := by
  have e1 : frE v.pt p = if pgE v.pt p = 0 then (if v.pt.getD p.toNat 0 = 0 then 12 else 0) else 11 := rfl
  have e2 : v.mpE p = if pgE v.pt p ≠ 0 then 11 else if v.pt.getD p.toNat 0 ≠ 0 then 13 else if v.pl.used = v.pl.rm then 14 else 0 := rfl
  rw [e1, e2]
  by_cases h : pgE v.pt p = 0
  · have h' : ¬ pgE v.pt p ≠ 0 := fun h' => h' h
    by_cases h2 : v.pt.getD p.toNat 0 = 0
    · have h2' : ¬ v.pt.getD p.toNat 0 ≠ 0 := fun h' => h' h2
      by_cases h3 : v.pl.used = v.pl.rm
      · exact .inr (.inr (.inl ⟨by rw [if_pos h, if_pos h2], h3, by rw [if_neg h', if_neg h2', if_pos h3]⟩))
      · exact .inr (.inr (.inr ⟨by rw [if_pos h, if_pos h2], h3, by rw [if_neg h', if_neg h2', if_neg h3]⟩))
    · exact .inr (.inl ⟨by rw [if_pos h, if_neg h2], by rw [if_neg h', if_pos h2]⟩)
  · exact .inl ⟨by rw [if_neg h], by rw [if_pos h]⟩
set_option maxRecDepth 100000 in
set_option maxHeartbeats 1600000 in
theorem vm_map (hV : VmAt w S q v) (p : Int) : Calls Tryz.prog 123 #[.pointer (some ⟨q, 0, none⟩), .int .i64 p] w fun e w' => e = .returned (.int .i64 (v.mpE p)) ∧ VmEnd w S q (v.mp p) w' := by
  have HV := hid hV
  obtain ⟨S1, S2, b1, b2, hr, hp, hg, s1, s2, s3, s4, s5⟩ := hV.row
  have hql := hr.lt
  have c0 := hr.cell (j := 0) rfl
  have c1 := hr.cell (j := 1) rfl
  have HP := hid hp
  have HG := hid hg
  have HN : Hid (v.mpE p ≠ 0 → ∀ w', Gr w w' → VmEnd w S q (v.mp p) w') := ⟨fun h w' g => by
    rw [mp_none h]
    exact ⟨g.touch S, (hV.gr g).mono (fun k hk => .inl hk)⟩⟩
  have HR := hid hr
  have HS := hid (And.intro s1 (And.intro s2 (And.intro s3 (And.intro s4 s5))))
  rcases mpE_fr v p with ⟨h1, h2⟩ | ⟨h1, h2⟩ | ⟨h1, h2, h3⟩ | ⟨h1, h2, h3⟩
  · have HE := hid (And.intro h1 h2)
    clear hV hr hp hg s1 s2 s3 s4 s5 h1 h2
    go_enter Tryz.func123, Tryz.ntmps123
    go_wp2_with (first
      | (go_at_call 75; refine (vm_none HV.out).mono ?_; rintro e w1 ⟨rfl, rfl⟩)
      | (go_at_call 91; refine (pg_frame HG.out p).mono ?_; rintro e w1 ⟨rfl, hg1⟩; rw [HE.out.1]; have HG1 := hid hg1; clear hg1))
    go_ret
    exact ⟨ret_int (by rw [HE.out.2]), HN.out (by rw [HE.out.2]; decide) _ HG1.out⟩
  · have HE := hid (And.intro h1 h2)
    clear hV hr hp hg s1 s2 s3 s4 s5 h1 h2
    go_enter Tryz.func123, Tryz.ntmps123
    go_wp2_with (first
      | (go_at_call 75; refine (vm_none HV.out).mono ?_; rintro e w1 ⟨rfl, rfl⟩)
      | (go_at_call 91; refine (pg_frame HG.out p).mono ?_; rintro e w1 ⟨rfl, hg1⟩; rw [HE.out.1]; have HG1 := hid hg1; clear hg1))
    go_ret
    exact ⟨ret_int (by rw [HE.out.2]), HN.out (by rw [HE.out.2]; decide) _ HG1.out⟩
  · have HE := hid (And.intro h1 (And.intro h2 h3))
    clear hV hr hp hg s1 s2 s3 s4 s5 h1 h2 h3
    go_enter Tryz.func123, Tryz.ntmps123
    go_wp2_with (first
      | (go_at_call 75; refine (vm_none HV.out).mono ?_; rintro e w1 ⟨rfl, rfl⟩)
      | (go_at_call 91; refine (pg_frame HG.out p).mono ?_; rintro e w1 ⟨rfl, hg1⟩; rw [HE.out.1]; have k0 := (hg1.cell hql 0).trans c0; have HG1 := hid hg1; clear hg1)
      | (go_at_call 171; refine (pool_take (HP.out.gr HG1.out)).mono ?_; rintro e w2 (⟨-, rfl, hg2⟩ | ⟨h, -⟩); rotate_left; (exact absurd HE.out.2.1 (by omega)); have HG2 := hid hg2; clear hg2))
    go_ret
    exact ⟨ret_int (by rw [HE.out.2.2]), HN.out (by rw [HE.out.2.2]; decide) _ (HG1.out.trans HG2.out)⟩
  · obtain ⟨j, rfl, hj, h0, -⟩ := mpE_zero h3
    have HE := hid (And.intro h1 (And.intro h2 h3))
    have hnx : v.pl.next < 4096 := by
      have hle := used_le hV.ok.pl
      have hok := take_ok hV.ok.pl (by omega)
      have hn := next_lt hV.ok.pl
      have hlen : v.pl.fresh.tk.length = v.pl.take.tk.length := by unfold Pl.take; exact List.length_set.symm
      have := hok.le
      have := hok.rm
      omega
    have HM := hid (show v.mp j = { v with pl := v.pl.take, pt := v.pt.set j (v.pl.next + 1) } by unfold Vm.mp; rw [if_pos h3, Int.toNat_natCast])
    have HPT := hid (fun (w1 w2 : World) (g1 : Gr w w1) (t2 : Touch S1 w1 w2) => pg_put (((hg.gr g1).cut).touch t2 (fun k hk _ hk2 => s3 k hk2 hk.1)) hj h0 hnx)
    have hok' := hid (hV.ok.mp j)
    obtain ⟨nx, hnxe⟩ : ∃ nx, nx = v.pl.next := ⟨_, rfl⟩
    have HNX := hid hnxe
    rw [← hnxe] at hnx
    have c1' := hid c1
    clear hV hr hp hg s1 s2 s3 h1 h2 h3 hnxe h0
    go_enter Tryz.func123, Tryz.ntmps123
    go_wp2_with (first
      | (go_at_call 75; refine (vm_none HV.out).mono ?_; rintro e w1 ⟨rfl, rfl⟩)
      | (go_at_call 91; refine (pg_frame HG.out j).mono ?_; rintro e w1 ⟨rfl, hg1⟩; rw [HE.out.1]; have k0 := (hg1.cell hql 0).trans c0; have HG1 := hid hg1; clear hg1)
      | (go_at_call 171; refine (pool_take (HP.out.gr HG1.out)).mono ?_; rintro e w2 (⟨h, -⟩ | ⟨-, rfl, ht2, hp2⟩); (exact absurd h HE.out.2.1); rw [← HNX.out]; have k1 := (ht2.cell (Nat.lt_of_lt_of_le hql HG1.out.size) s4 1).trans ((HG1.out.cell hql 1).trans c1'.out); have HT2 := hid ht2; have HP2 := hid hp2; clear ht2 hp2)
      | (go_at_call 172; have hpt := HPT.out _ _ HG1.out HT2.out; rw [← HNX.out] at hpt; refine hpt.mono ?_; rintro e w3 ⟨rfl, hs3⟩; have HS3 := hid hs3; clear hs3 hpt))
    go_ret
    refine ⟨ret_int (by rw [HE.out.2.2]), ?_⟩
    obtain ⟨s1, s2, s3, s4, s5⟩ := HS.out
    obtain ⟨t3, p3⟩ := HS3.out
    have T12 : Touch S w w2 := (HG1.out.touch S).trans (HT2.out.mono (fun k _ hk => s1 k hk))
    have z1 := HG1.out.size
    have z2 := HT2.out.size
    refine ⟨T12.trans (t3.mono (fun k _ hk => s2 k hk.1)), hok'.out, .inl HV.out.sq, cutS (plus S1 w1) w2, plus (cutS S2 w1) w2, b1, b2, ?_, ?_, ?_, fun k hk => ?_, fun k hk => ?_, fun k hk hk2 => ?_, fun hk => ?_, fun hk => ?_⟩
    · rw [HM.out]
      exact ((HR.out.gr HG1.out).touch HT2.out s4).touch t3 (fun h => s5 h.1)
    · rw [HM.out]
      exact HP2.out.cut.touch t3 (fun k hk _ hk2 => by
        rcases hk.1 with h | h
        · exact s3 k h hk2.1
        · have := hk2.2; omega)
    · rw [HM.out]
      show PgAt w3 _ b2 (v.pt.set j (v.pl.next + 1))
      rw [← HNX.out]; exact p3
    · rcases hk.1 with h | h
      · exact .inl (s1 k h)
      · exact .inr (by omega)
    · rcases hk with h | h
      · exact .inl (s2 k h.1)
      · exact .inr (by omega)
    · rcases hk2 with h | h
      · rcases hk.1 with h' | h'
        · exact s3 k h' h.1
        · have := h.2; omega
      · have := hk.2; omega
    · rcases hk.1 with h | h
      · exact s4 h
      · omega
    · rcases hk with h | h
      · exact s5 h.1
      · omega
set_option maxRecDepth 100000 in
set_option maxHeartbeats 1600000 in
theorem vm_unmap (hV : VmAt w S q v) (p : Int) : Calls Tryz.prog 72 #[.pointer (some ⟨q, 0, none⟩), .int .i64 p] w fun e w' => e = .returned (.int .i64 (frE v.pt p)) ∧ VmEnd w S q (v.um p) w' := by
  have HV := hid hV
  obtain ⟨S1, S2, b1, b2, hr, hp, hg, s1, s2, s3, s4, s5⟩ := hV.row
  have hql := hr.lt
  have c0 := hr.cell (j := 0) rfl
  have c1 := hr.cell (j := 1) rfl
  have HP := hid hp
  have HG := hid hg
  have HR := hid hr
  have HS := hid (And.intro s1 (And.intro s2 (And.intro s3 (And.intro s4 s5))))
  by_cases h0 : frE v.pt p = 0
  · have HE := hid h0
    obtain ⟨j, rfl, hj, hne⟩ := frE_zero h0
    have hf := hV.ok.fr j hj hne
    obtain ⟨f, hff⟩ : ∃ f, f = v.pt.getD j 0 - 1 := ⟨_, rfl⟩
    have HF := hid hff
    have HFV := hid (show frV v.pt j = (f : Int) by unfold frV; rw [if_pos h0, Int.toNat_natCast, hff]; omega)
    rw [← hff] at hf
    have HM := hid (show v.um j = { v with pl := v.pl.give f, pt := v.pt.set j 0 } by unfold Vm.um; rw [if_pos h0, Int.toNat_natCast, hff])
    have HGV := hid (fun (w1 : World) (t1 : Touch S2 w w1) => pool_give (p := v.pl) (f := f) ((hp.cut).touch t1 (fun k hk _ hk2 => s3 k hk.1 hk2)) hf)
    have hok' := hid (hV.ok.um j)
    clear hV hr hp hg s1 s2 s3 s4 h0 hne hf hff
    have c0' := hid c0
    go_enter Tryz.func72, Tryz.ntmps72
    go_wp2_with (first
      | (go_at_call 75; refine (vm_none HV.out).mono ?_; rintro e w1 ⟨rfl, rfl⟩)
      | (go_at_call 136; refine (pg_drop HG.out j).mono ?_; rintro e w1 ⟨rfl, (⟨h, -⟩ | ⟨-, ht1, hp1⟩)⟩; (exact absurd HE.out h); rw [HE.out, HFV.out]; have k0 := (ht1.cell hql s5 0).trans c0'.out; have HT1 := hid ht1; have HP1 := hid hp1; clear ht1 hp1)
      | (go_at_call 137; refine (HGV.out _ HT1.out).mono ?_; rintro e w2 ⟨rfl, ht2, hp2⟩; have HT2 := hid ht2; have HP2 := hid hp2; clear ht2 hp2))
    go_ret
    refine ⟨ret_int (by rw [HE.out]), ?_⟩
    obtain ⟨s1, s2, s3, s4, s5⟩ := HS.out
    have t1 := HT1.out
    have t2 := HT2.out
    have z1 := HT1.out.size
    have z2 := HT2.out.size
    refine ⟨(t1.mono (fun k _ hk => s2 k hk)).trans (t2.mono (fun k _ hk => s1 k hk.1)), hok'.out, .inl HV.out.sq, plus (cutS S1 w) w1, cutS (plus S2 w) w1, b1, b2, ?_, ?_, ?_, fun k hk => ?_, fun k hk => ?_, fun k hk hk2 => ?_, fun hk => ?_, fun hk => ?_⟩
    · rw [HM.out]
      exact (HR.out.touch t1 s5).touch t2 (fun h => s4 h.1)
    · rw [HM.out]
      exact HP2.out
    · rw [HM.out]
      have hp1 := HP1.out
      rw [Int.toNat_natCast] at hp1
      exact hp1.cut.touch t2 (fun k hk _ hk2 => by
        rcases hk.1 with h | h
        · exact s3 k hk2.1 h
        · have := hk2.2; omega)
    · rcases hk with h | h
      · exact .inl (s1 k h.1)
      · exact .inr (by omega)
    · rcases hk.1 with h | h
      · exact .inl (s2 k h)
      · exact .inr (by omega)
    · rcases hk with h | h
      · rcases hk2.1 with h' | h'
        · exact s3 k h.1 h'
        · have := h.2; omega
      · have := hk2.2; omega
    · rcases hk with h | h
      · exact s4 h.1
      · omega
    · rcases hk.1 with h | h
      · exact s5 h
      · omega
  · obtain ⟨y, hy⟩ : ∃ y, y = frE v.pt p := ⟨_, rfl⟩
    have HX := hid hy
    have d0 : (y == 0) = false := by rw [hy]; simpa using h0
    have HM := hid (um_none h0)
    have h0' := hid h0
    clear hV hr hp hg h0 hy s1 s2 s3 s4 s5
    go_enter Tryz.func72, Tryz.ntmps72
    go_wp2_with (first
      | (go_at_call 75; refine (vm_none HV.out).mono ?_; rintro e w1 ⟨rfl, rfl⟩)
      | (go_at_call 136; refine (pg_drop HG.out p).mono ?_; rintro e w1 ⟨rfl, (⟨-, hg1⟩ | ⟨h, -⟩)⟩; rotate_left; (exact absurd h h0'.out); rw [← HX.out]; have HG1 := hid hg1; clear hg1))
    go_ret
    refine ⟨ret_int (by rw [HX.out]), HG1.out.touch S, ?_⟩
    rw [HM.out]
    exact (HV.out.gr HG1.out).mono (fun k hk => .inl hk)
def Vm.new (n pg rm : Nat) : Vm := ⟨n, Pl.none pg rm, List.replicate (n / pg) 0⟩
theorem VmOk.new {n pg rm : Nat} (h1 : roomOk rm = true) (h2 : pageOk pg = true) (h3 : 1 ≤ n) (h4 : n ≤ 524288) (h5 : n % pg = 0) : VmOk (Vm.new n pg rm) := by
  have hd : n / pg * pg = n := by have := Nat.div_add_mod n pg; rw [h5, Nat.mul_comm] at this; omega
  have h7 : 1 ≤ n / pg := by
    rcases Nat.eq_zero_or_pos (n / pg) with h | h
    · rw [h] at hd; omega
    · exact h
  refine ⟨pl_none h1 h2, PtOk.new h7 (by have := Nat.div_le_self n pg; omega), h4, ?_, fun p hp hne => ?_, fun p p' hp hp' hne => ?_, ?_⟩
  · show n = (List.replicate (n / pg) 0).length * pg
    rw [List.length_replicate, hd]
  · exact absurd (rep_getD _ _) hne
  · exact absurd (rep_getD _ _) hne
  · show Pl.used (Pl.none pg rm) = nz (List.replicate (n / pg) 0)
    rw [nz_rep]; rfl
set_option maxRecDepth 100000 in
set_option maxHeartbeats 1600000 in
theorem vm_new {n pg rm : Nat} (h1 : roomOk rm = true) (h2 : pageOk pg = true) (h3 : 1 ≤ n) (h4 : n ≤ 524288) (h5 : n % pg = 0) (h6 : 1 ≤ pg) (h7 : pg ≤ 256) (w : World) : Calls Tryz.prog 56 #[.int .i64 n, .int .i64 pg, .int .i64 rm] w fun e w' =>
    ∃ q, e = .returned (.tuple #[.pointer (some ⟨q, 0, none⟩), .int .i64 0]) ∧ Gr w w' ∧ VmAt w' (fun k => w.heap.size ≤ k) q (Vm.new n pg rm) := by
  have HOK := hid (VmOk.new h1 h2 h3 h4 h5)
  have HPN := hid (fun w => pool_new rm pg (by omega) w)
  have HB := hid (show (roomOk rm && pageOk pg) = true by rw [h1, h2]; rfl)
  have hd : n / pg * pg = n := by have := Nat.div_add_mod n pg; rw [h5, Nat.mul_comm] at this; omega
  have h8 : 1 ≤ n / pg := by
    rcases Nat.eq_zero_or_pos (n / pg) with h | h
    · rw [h] at hd; omega
    · exact h
  have h9 : n / pg ≤ 524288 := by have := Nat.div_le_self n pg; omega
  obtain ⟨m, hm⟩ : ∃ m, m = n / pg := ⟨_, rfl⟩
  have q1 : ((n : Int).tdiv (pg : Int)) = (m : Int) := by rw [hm]; rfl
  have q2 : ((n : Int) / (pg : Int)) = (m : Int) := by rw [hm]; rfl
  have q3 : ((n : Int).tmod (pg : Int)) = 0 := by rw [show ((n : Int).tmod (pg : Int)) = ((n % pg : Nat) : Int) from rfl, h5]; rfl
  have q4 : ((n : Int) % (pg : Int)) = 0 := by rw [show ((n : Int) % (pg : Int)) = ((n % pg : Nat) : Int) from rfl, h5]; rfl
  rw [← hm] at h8 h9
  have HM := hid hm
  have HPG := hid (fun w => pg_new (w := w) h8 h9)
  have hBp : (pg : Int) ≠ 0 := by omega
  clear h1 h2 h5 hd hm
  go_enter Tryz.func56, Tryz.ntmps56
  go_wp2_with (first
    | (go_at_call 119; refine (HPN.out _).mono ?_; rintro e w1 (⟨h, -⟩ | ⟨-, rfl, hg1, hp1⟩); (exact absurd (HB.out.symm.trans h) (by decide)); have HG1 := hid hg1; have HP1 := hid hp1; clear hg1 hp1)
    | (go_at_call 120; refine (HPG.out _).mono ?_; rintro e w2 ⟨q2, rfl, hg2, hp2⟩; have hr2 := (Rec.new w1 115 [.pointer (some ⟨w.heap.size, 0, none⟩), .pointer none, .int .i64 n]).gr hg2; have kf := hr2.free 1; have k1 := hr2.cell (j := 1) rfl; have HR2 := hid hr2; have HG2 := hid hg2; have HP2 := hid hp2; clear hg2 hp2 hr2))
  go_ret2
  have z1 := HG1.out.size
  have z2 := HG2.out.size
  have hq : w.heap.size < w1.heap.size := HP1.out.row.elim fun _ h => by
    obtain ⟨_, _, _, _, hr, -⟩ := h
    exact hr.lt
  have hG := Touch.setCell (Touch.refl (fun k => k = w1.heap.size) w2) (a := ⟨w1.heap.size, 1, none⟩) (fun _ => rfl) (.pointer (some ⟨q2, 0, none⟩))
  simp only [World.size_alloc] at z2
  refine ⟨_, ret2 rfl rfl, ?_, HOK.out, z1, cutS (fun b => w.heap.size ≤ b) w1, fun k => w1.heap.size + 1 ≤ k, w.heap.size, q2, Rec.set HR2.out 1 _, ?_, ?_, fun k hk => hk.1, fun k hk => by omega, fun k hk hk2 => by have := hk.2; omega, fun h => by have := h.2; omega, fun h => by omega⟩
  · exact Touch.gr ((((HG1.out.alloc _).trans HG2.out).touch (fun k => w.heap.size ≤ k)).trans (hG.mono (fun k _ hk => by omega)) |>.mono (fun k hk h => by omega))
  · have := (HP1.out.cut.gr (((Gr.refl w1).alloc _).trans HG2.out)).touch hG (fun k hk _ he => by have := hk.2; omega)
    rw [Int.toNat_natCast, Int.toNat_natCast] at this
    exact this
  · have := HP2.out.touch hG (fun k hk _ he => by simp only [World.size_alloc] at hk; omega)
    rw [HM.out] at this
    exact this.mono (fun k hk => by simpa using hk)
end
end Go.Proofs.YtbmidhlilafgeaaGreatDoor
end

section
namespace Go.Proofs.YtbmidhlilafgeaaGreatDoor
open Go.RowKit Word

/-- v', that is v with the pages of F mapped, all their words zero. -/
structure Grown (v v' : Vm) (F : List Nat) : Prop where
  ok : VmOk v'
  n : v'.n = v.n
  pg : v'.pl.pg = v.pl.pg
  rm : v'.pl.rm = v.pl.rm
  us : v'.pl.used = v.pl.used + F.length
  nd : F.Nodup
  un : ∀ p ∈ F, p < v.pt.length ∧ v.pt.getD p 0 = 0
  ma : ∀ p, p < v.pt.length → (v'.pt.getD p 0 ≠ 0 ↔ (v.pt.getD p 0 ≠ 0 ∨ p ∈ F))
  vl : ∀ a : Nat, a < v.n → v'.ldV a = if a / v.pl.pg ∈ F then 0 else v.ldV a
theorem VmOk.len {v : Vm} (h : VmOk v) : v.pt.length = v.n / v.pl.pg := by
  rw [h.np, Nat.mul_div_cancel _ h.page.1]
theorem Grown.len {v v' : Vm} {F : List Nat} (h : Grown v v' F) (hv : VmOk v) : v'.pt.length = v.pt.length := by
  rw [h.ok.len, hv.len, h.n, h.pg]
theorem Grown.ldE {v v' : Vm} {F : List Nat} (h : Grown v v' F) (hv : VmOk v) {a : Nat} (ha : a < v.n) : v'.ldE a = if a / v.pl.pg ∈ F then 0 else v.ldE a := by
  have h1 := h.ma _ (hv.split ha).1
  rw [h.ok.ldE_of (by rw [h.n]; exact ha), hv.ldE_of ha, h.pg]
  by_cases hf : a / v.pl.pg ∈ F
  · rw [if_pos hf, if_neg (h1.2 (.inr hf))]
  · rw [if_neg hf]
    by_cases h0 : v.pt.getD (a / v.pl.pg) 0 = 0
    · rw [if_pos h0, if_pos]
      exact Decidable.not_not.1 (fun hn => (h1.1 hn).elim (fun h' => h' h0) hf)
    · rw [if_neg h0, if_neg (h1.2 (.inl h0))]
theorem Grown.refl {v : Vm} (h : VmOk v) : Grown v v [] :=
  ⟨h, rfl, rfl, rfl, rfl, List.nodup_nil, fun p hp => (by cases hp), fun p _ => by simp, fun a _ => by simp⟩
theorem Grown.mp {v v' : Vm} {F : List Nat} (h : Grown v v' F) (hv : VmOk v) {p : Nat} (hp : v'.mpE p = 0) : Grown v (v'.mp p) (F ++ [p]) := by
  have e1 : v'.mp p = { v' with pl := v'.pl.take, pt := v'.pt.set p (v'.pl.next + 1) } := by unfold Vm.mp; rw [if_pos hp, Int.toNat_natCast]
  obtain ⟨j, hj, hjl, h0, hr⟩ := mpE_zero hp
  obtain rfl : p = j := by omega
  have hl := h.len hv
  have h1 := h.ma p (by omega)
  have hpF : p ∉ F := fun hf => h1.2 (.inr hf) h0
  have hp0 : v.pt.getD p 0 = 0 := Decidable.not_not.1 (fun hn => h1.2 (.inl hn) h0)
  refine ⟨h.ok.mp p, ?_, ?_, ?_, ?_, ?_, fun i hi => ?_, fun i hi => ?_, fun a ha => ?_⟩
  · rw [e1]; exact h.n
  · rw [e1]; exact (fresh_same v'.pl).1.trans h.pg
  · rw [e1]; exact (fresh_same v'.pl).2.1.trans h.rm
  · rw [e1, List.length_append]
    show v'.pl.take.used = _
    rw [take_used h.ok.pl, h.us]; rfl
  · rw [List.nodup_append]
    exact ⟨h.nd, by simp, fun a ha b hb => by simp at hb; subst hb; rintro rfl; exact hpF ha⟩
  · rcases List.mem_append.1 hi with h' | h'
    · exact h.un i h'
    · simp at h'; subst h'; exact ⟨by omega, hp0⟩
  · rw [e1]
    show (v'.pt.set p _).getD i 0 ≠ 0 ↔ _
    rw [getD_setM hjl, List.mem_append]
    by_cases e : p = i
    · subst e; simp
    · rw [if_neg e, h.ma i hi]
      have : i ∉ [p] := by simp; omega
      simp [this]
  · have := h.ok.mp_ldV hp (a := a) (by rw [h.n]; exact ha)
    rw [this, h.pg, h.vl a ha]
    by_cases e : a / v.pl.pg = p
    · rw [if_pos e, if_pos (List.mem_append.2 (.inr (by simp [e])))]
    · rw [if_neg e]
      by_cases hf : a / v.pl.pg ∈ F
      · rw [if_pos hf, if_pos (List.mem_append.2 (.inl hf))]
      · rw [if_neg hf, if_neg]
        intro hm
        rcases List.mem_append.1 hm with h' | h'
        · exact hf h'
        · simp at h'; exact e h'
theorem Grown.um {v v' : Vm} {F : List Nat} {p : Nat} (h : Grown v v' (F ++ [p])) (hv : VmOk v) : frE v'.pt p = 0 ∧ Grown v (v'.um p) F := by
  obtain ⟨hpl, hp0⟩ := h.un p (by simp)
  have hl := h.len hv
  have h1 := (h.ma p hpl).2 (.inr (by simp))
  have hfr : frE v'.pt p = 0 := by rw [frE_of (by omega), if_neg h1]
  have e1 : v'.um p = { v' with pl := v'.pl.give (v'.pt.getD p 0 - 1), pt := v'.pt.set p 0 } := by unfold Vm.um; rw [if_pos hfr, Int.toNat_natCast]
  have hnd := List.nodup_append.1 h.nd
  have hpF : p ∉ F := fun hf => hnd.2.2 p hf p (by simp) rfl
  refine ⟨hfr, h.ok.um p, ?_, ?_, ?_, ?_, hnd.1, fun i hi => h.un i (by simp [hi]), fun i hi => ?_, fun a ha => ?_⟩
  · rw [e1]; exact h.n
  · rw [e1]; exact h.pg
  · rw [e1]; exact h.rm
  · rw [e1]
    show (v'.pl.give _).used = _
    have h2 := give_used (p := v'.pl) (h.ok.frame h1)
    have h3 := h.us
    rw [List.length_append, List.length_singleton] at h3
    omega
  · rw [e1]
    show (v'.pt.set p 0).getD i 0 ≠ 0 ↔ _
    rw [getD_setM (by omega)]
    by_cases e : p = i
    · subst e
      rw [if_pos rfl]
      exact ⟨fun h => absurd rfl h, fun h => h.elim (fun h => absurd hp0 h) (fun h => absurd h hpF)⟩
    · have : i ∉ [p] := by simp; omega
      rw [if_neg e, h.ma i hi, List.mem_append]
      simp [this]
  · by_cases e : a / v.pl.pg = p
    · have hE := h.ok.um_ldE hfr (a := a) (by rw [h.n]; exact ha)
      rw [h.pg, if_pos e] at hE
      have hE2 := hv.ldE_of ha
      rw [e, if_pos hp0] at hE2
      rw [e, if_neg hpF]
      unfold Vm.ldV
      rw [hE, hE2]; rfl
    · have := h.ok.um_ldV hfr (a := a) (by rw [h.n]; exact ha) (by rw [h.pg]; exact e)
      rw [this, h.vl a ha]
      by_cases hf : a / v.pl.pg ∈ F
      · rw [if_pos hf, if_pos (List.mem_append.2 (.inl hf))]
      · rw [if_neg hf, if_neg]
        intro hm
        rcases List.mem_append.1 hm with h' | h'
        · exact hf h'
        · simp at h'; exact e h'
end Go.Proofs.YtbmidhlilafgeaaGreatDoor
end

section
namespace Go.Proofs.YtbmidhlilafgeaaGreatDoor
open Go.RowKit Word

section
variable {w : World} {S : Nat → Prop} {q : Nat} {v : Vm}
/-- A memory with some pages mapped lies in w. -/
def GrownAt (w : World) (S : Nat → Prop) (q : Nat) (v : Vm) (F : List Nat) : Prop := ∃ v', Grown v v' F ∧ VmAt w S q v'
set_option maxRecDepth 100000 in
set_option maxHeartbeats 1600000 in
theorem vm_undo {bs bm : Nat} {F : List Nat} {vF : Value} (hv : VmOk v) (hG : GrownAt w S q v F) (hF : w.ownsRow 0 3 1 vF F.length (i64s F)) (hs : ∀ g, vF.ownBlock = some g → ¬ S g)
    (cs : w.cell? ⟨bs, 0, none⟩ = some vF) (cm : w.cell? ⟨bm, 0, none⟩ = some (.pointer (some ⟨q, 0, none⟩))) (ls : bs < w.heap.size) (lm : bm < w.heap.size) (ns : ¬ S bs) (nm : ¬ S bm) :
    Calls Tryz.prog 121 #[.pointer (some ⟨bs, 0, none⟩), .pointer (some ⟨bm, 0, none⟩)] w fun e w' => e = .returned (.tuple #[]) ∧ Touch S w w' ∧ GrownAt w' (plus S w) q v [] := by
  obtain ⟨A, c, rfl, hc1, hc2⟩ := own_shape hF
  unfold maxLen at hc2
  have hlen : F.length ≤ 524288 := by
    obtain ⟨v', hg, -⟩ := hG
    have h1 := hg.us
    have h2 := hg.ok.us
    have h3 := nz_le v'.pt
    have h4 := hg.ok.pt.n2
    omega
  have HF := hid hF
  have HG := hid hG
  have HV := hid hv
  have HS := hid hs
  obtain ⟨N, hN⟩ : ∃ N, N = F.length := ⟨_, rfl⟩
  rw [← hN] at cs hc1 hlen
  have HN := hid hN
  clear hF hG hv hs hN
  go_enter Tryz.func121, Tryz.ntmps121
  go_wp2
  go_loopw [2] (fun i wr => ∃ k : Nat, k ≤ N ∧ Hid (Touch S w wr) ∧ Hid (GrownAt wr (plus S w) q v (F.take k)) ∧ i = .int .i64 ((k : Int) - 1)) (fun i _ => (intOf i + 1).toNat)
  case atStart => exact ⟨N, Nat.le_refl _, ⟨Touch.refl S w⟩, ⟨by obtain ⟨v', hg, ha⟩ := HG.out; exact ⟨v', by rw [HN.out, List.take_length]; exact hg, ha.mono (fun k hk => .inl hk)⟩⟩, by go_num⟩
  case round =>
    obtain ⟨k, hk, HT, HK, rfl⟩ := hrel
    by_cases hk0 : k = 0
    · subst hk0
      go_wp2
      go_end0
      exact ⟨rfl, HT.out, HK.out⟩
    · obtain ⟨j, rfl⟩ : ∃ j, k = j + 1 := ⟨k - 1, by omega⟩
      have hjF : j < F.length := by have := HN.out; omega
      obtain ⟨g, c', e1, -, -, -, -⟩ := own_form HF.out (by omega)
      simp only [Value.slice.injEq] at e1
      obtain ⟨rfl, -, rfl⟩ := e1
      have hgl := (own_lt HF.out (g := g) rfl).2
      have ng := HS.out g rfl
      have kb := own_cell HF.out (i64s_at hjF)
      obtain ⟨p, hp⟩ : ∃ p, p = F[j] := ⟨_, rfl⟩
      rw [← hp] at kb
      have HP : Hid (F.take (j + 1) = F.take j ++ [p]) := ⟨by rw [hp, List.take_add_one, List.getElem?_eq_getElem hjF]; rfl⟩
      have KS : Hid (∀ W', Gr wr W' → W'.cell? ⟨bs, 0, none⟩ = some (.slice (some ⟨g, 0, none⟩) N c) ∧ W'.cell? ⟨bm, 0, none⟩ = some (.pointer (some ⟨q, 0, none⟩)) ∧ W'.cell? ⟨g, j, none⟩ = some (.int .i64 (p : Nat))) :=
        ⟨fun W' h => ⟨(h.cell (Nat.lt_of_lt_of_le ls HT.out.size) 0).trans ((HT.out.cell ls ns 0).trans cs), (h.cell (Nat.lt_of_lt_of_le lm HT.out.size) 0).trans ((HT.out.cell lm nm 0).trans cm), (h.cell (Nat.lt_of_lt_of_le hgl HT.out.size) j).trans ((HT.out.cell hgl ng j).trans kb)⟩⟩
      have hjN : (j : Int) < (N : Int) := by omega
      clear hjF hgl ng kb hp cs cm
      go_upto_region 3 with (fail)
      obtain ⟨Sx, hSx⟩ : ∃ Sx : World → Prop, Sx = fun W' => Gr wr W' := ⟨_, rfl⟩
      have x1 : ∀ p : Held Sx, p.w.cell? ⟨bs, 0, none⟩ = some (.slice (some ⟨g, 0, none⟩) N c) := fun p => (KS.out _ (Held.get hSx p)).1
      have x2 : ∀ p : Held Sx, p.w.cell? ⟨bm, 0, none⟩ = some (.pointer (some ⟨q, 0, none⟩)) := fun p => (KS.out _ (Held.get hSx p)).2.1
      have x3 : ∀ r : Held Sx, r.w.cell? ⟨g, j, none⟩ = some (.int .i64 (p : Nat)) := fun p => (KS.out _ (Held.get hSx p)).2.2
      have hS0 : Sx wr.drew := by rw [hSx]; exact (Gr.refl wr).drew
      have inst : Inhabited (Held Sx) := ⟨⟨_, hS0⟩⟩
      clear hSx
      refine wp_region_mixS Sx 5 [([0, 1, 2, 3, 4], 5)] [] (by kernel_rfl) (by kernel_rfl) hS0 ?_
      refine segs_step ?_
      simp only [opsAt, List.getElem?_cons_zero, List.getElem?_cons_succ]
      repeat (go_big_quiet_step (fail))
      refine wpQuiet_nil ?_
      obtain ⟨vk, hgk, hvk⟩ := HK.out
      rw [HP.out] at hgk
      have HUM := hid (hgk.um HV.out)
      have HVK := hid (hvk.gr (Gr.refl wr).drew)
      clear hgk hvk
      go_wp2_with (go_at_call 72; refine (vm_unmap HVK.out (p : Int)).mono ?_; rintro e w1 ⟨rfl, ht1, hv1⟩; have HT1 := hid ht1; have HV1 := hid hv1; clear ht1 hv1)
      refine ⟨.inl trivial, ?_⟩
      refine segs_end ?_
      refine wpQuiet_nil ?_
      refine NoPanic.normal ?_
      clear x1 x2 x3 hS0 inst
      clear Sx
      go_wp2
      have hsz := HT.out.size
      have h1 : Touch (plus S w) wr w1 := ((Gr.refl wr).drew.touch _).trans HT1.out
      go_round
      case rel =>
        refine ⟨j, by omega, ⟨HT.out.trans' h1 (fun i hi hp => hp.resolve_right (by omega))⟩, ⟨_, HUM.out.2, HV1.out.mono (fun k hk => ?_)⟩, by go_num⟩
        rcases hk with h | h
        · exact h
        · exact .inr (Nat.le_trans hsz h)
      case measure => simp [intOf]
/-- The pages, of k from p0 on, that are not mapped. -/
def unmL (v : Vm) (p0 k : Nat) : List Nat := (List.range' p0 k).filter fun p => v.pt.getD p 0 == 0
theorem unmL_succ (v : Vm) (p0 k : Nat) : unmL v p0 (k + 1) = if v.pt.getD (p0 + k) 0 = 0 then unmL v p0 k ++ [p0 + k] else unmL v p0 k := by
  unfold unmL
  rw [List.range'_concat, List.filter_append]
  by_cases h : v.pt.getD (p0 + k) 0 = 0
  · rw [if_pos h, List.filter_cons_of_pos (by rw [Nat.one_mul]; exact beq_iff_eq.2 h), Nat.one_mul]; rfl
  · rw [if_neg h, List.filter_cons_of_neg (by rw [Nat.one_mul]; simpa using h)]; simp
theorem unmL_mem {v : Vm} {p0 k p : Nat} : p ∈ unmL v p0 k ↔ (p0 ≤ p ∧ p < p0 + k) ∧ v.pt.getD p 0 = 0 := by
  unfold unmL
  rw [List.mem_filter, List.mem_range'_1]
  simp
theorem unmL_le (v : Vm) (p0 : Nat) {k m : Nat} (h : k ≤ m) : (unmL v p0 k).length ≤ (unmL v p0 m).length := by
  induction m with
  | zero => rw [Nat.le_zero.1 h]; exact Nat.le_refl _
  | succ m ih =>
    rcases Nat.lt_or_ge m k with h' | h'
    · rw [show k = m + 1 by omega]; exact Nat.le_refl _
    · refine Nat.le_trans (ih h') ?_
      rw [unmL_succ]
      split
      · simp
      · exact Nat.le_refl _
/-- How many pages a range has. -/
def pgsN (v : Vm) (f t : Int) : Nat := ((t - 1) / v.pl.pg - f / v.pl.pg + 1).toNat
def needE (v : Vm) (f t : Int) : Int := if f < 0 ∨ (v.n : Int) < t then 11 else if t ≤ f then 0 else if v.pl.used + (unmL v (f / v.pl.pg).toNat (pgsN v f t)).length ≤ v.pl.rm then 0 else 14
def needF (v : Vm) (f t : Int) : List Nat := if needE v f t = 0 ∧ f < t then unmL v (f / v.pl.pg).toNat (pgsN v f t) else []
structure NeedInv (w wr : World) (S S' : Nat → Prop) (q : Nat) (v : Vm) (p0 k bs bm : Nat) (vF : Value) : Prop where
  t : Touch S w wr
  g : GrownAt wr S' q v (unmL v p0 k)
  own : wr.ownsRow 0 3 1 vF (unmL v p0 k).length (i64s (unmL v p0 k))
  rs : Rec wr bs 30 [vF]
  rm : Rec wr bm 31 [.pointer (some ⟨q, 0, none⟩)]
  sub : ∀ k, S' k → plus S w k
  ns : ¬ S' bs
  nm : ¬ S' bm
  ng : ∀ g, vF.ownBlock = some g → ¬ S' g
  ls : w.heap.size ≤ bs
  lg : ∀ g, vF.ownBlock = some g → w.heap.size ≤ g
/-- Behind a call of Map. -/
theorem NeedInv.map {w wr w1 : World} {S S' : Nat → Prop} {q : Nat} {v : Vm} {p0 k bs bm : Nat} {vF : Value} (h : NeedInv w wr S S' q v p0 k bs bm vF) (t : Touch S' wr w1) :
    Touch S w w1 ∧ w1.ownsRow 0 3 1 vF (unmL v p0 k).length (i64s (unmL v p0 k)) ∧ Rec w1 bs 30 [vF] ∧ Rec w1 bm 31 [.pointer (some ⟨q, 0, none⟩)] ∧
      (∀ k, plus S' wr k → plus S w k) ∧ ¬ plus S' wr bs ∧ ¬ plus S' wr bm ∧ (∀ g, vF.ownBlock = some g → ¬ plus S' wr g) := by
  have hz := h.t.size
  refine ⟨h.t.trans' t (fun i hi hs => (h.sub i hs).resolve_right (by omega)), own_touch h.own t h.ng, h.rs.touch t h.ns, h.rm.touch t h.nm, fun k hk => ?_, fun hk => ?_, fun hk => ?_, fun g hg hk => ?_⟩
  · rcases hk with hk | hk
    · exact h.sub k hk
    · exact .inr (by omega)
  · have := h.rs.lt
    exact hk.elim h.ns (by omega)
  · have := h.rm.lt
    exact hk.elim h.nm (by omega)
  · have := (own_lt h.own hg).2
    exact hk.elim (h.ng g hg) (by omega)
set_option maxRecDepth 100000 in
set_option maxHeartbeats 1600000 in
theorem vm_need (hV : VmAt w S q v) (f t : Nat) (ht : t ≤ v.n) (hft : f < t) : Calls Tryz.prog 59 #[.pointer (some ⟨q, 0, none⟩), .int .i64 f, .int .i64 t] w fun e w' => e = .returned (.int .i64 (needE v f t)) ∧ Touch S w w' ∧ GrownAt w' (plus S w) q v (needF v f t) := by
  have HV := hid hV
  have hn := hV.ok.n2
  obtain ⟨S1, S2, b1, b2, hr, hp, -⟩ := hV.row
  have hql := hr.lt
  have c0 := hr.cell (j := 0) rfl
  have c2 := hr.cell (j := 2) rfl
  have hpg := hV.ok.page
  have HP := hid hp
  obtain ⟨p0, hp0⟩ : ∃ p0, p0 = f / v.pl.pg := ⟨_, rfl⟩
  obtain ⟨p1, hp1⟩ : ∃ p1, p1 = (t - 1) / v.pl.pg := ⟨_, rfl⟩
  have h01 : p0 ≤ p1 := by rw [hp0, hp1]; exact Nat.div_le_div_right (by omega)
  have h1l : p1 < v.pt.length := by rw [hp1]; exact (hV.ok.split (by omega)).1
  have ht1 : (t : Int) - 1 = ((t - 1 : Nat) : Int) := by omega
  have HNE : Hid (pgsN v f t = p1 + 1 - p0 ∧ ((f : Int) / (v.pl.pg : Int)).toNat = p0) := ⟨by
    unfold pgsN
    rw [ht1, ← Int.natCast_ediv, ← Int.natCast_ediv, ← hp0, ← hp1]
    exact ⟨by omega, Int.toNat_natCast _⟩⟩
  have HE : Hid (needE v f t = if v.pl.used + (unmL v p0 (p1 + 1 - p0)).length ≤ v.pl.rm then 0 else 14) := ⟨by
    unfold needE
    rw [if_neg (by omega), if_neg (by omega), HNE.out.1, HNE.out.2]⟩
  have HF : Hid (needF v f t = if v.pl.used + (unmL v p0 (p1 + 1 - p0)).length ≤ v.pl.rm then unmL v p0 (p1 + 1 - p0) else []) := ⟨by
    unfold needF
    rw [HE.out, HNE.out.1, HNE.out.2]
    split
    · rw [if_pos ⟨rfl, by omega⟩]
    · rw [if_neg (fun h => absurd h.1 (by decide))]⟩
  obtain ⟨B, hB⟩ : ∃ B, B = v.pl.pg := ⟨_, rfl⟩
  have HB := hid hB
  rw [← hB] at hp0 hp1 hpg
  have q1 : ((f : Int).tdiv (B : Int)) = (p0 : Int) := by rw [hp0]; rfl
  have q2 : ((f : Int) / (B : Int)) = (p0 : Int) := by rw [hp0]; rfl
  have q3 : (((t : Int) - 1).tdiv (B : Int)) = (p1 : Int) := by rw [ht1, hp1]; rfl
  have q4 : (((t : Int) - 1) / (B : Int)) = (p1 : Int) := by rw [ht1, hp1]; rfl
  have hBp : (B : Int) ≠ 0 := by omega
  have d0 : decide ((f : Int) < 0) = false := decide_eq_false (by omega)
  have d1 : decide ((v.n : Int) < (t : Int)) = false := decide_eq_false (by omega)
  have d2 : decide ((t : Int) ≤ (f : Int)) = false := decide_eq_false (by omega)
  have hpt := hV.ok.pt.n2
  clear hV hr hp hB hp0 hp1 ht1
  go_enter Tryz.func59, Tryz.ntmps59
  go_wp2_with (first
    | (go_at_call 75; refine (vm_none (HV.out.gr ((Gr.refl w).alloc _))).mono ?_; rintro e w1 ⟨rfl, rfl⟩)
    | (go_at_call 122; refine (pool_page (HP.out.gr (((Gr.refl w).alloc _).alloc _))).mono ?_; rintro e w1 ⟨rfl, rfl⟩; rw [← HB.out]))
  obtain ⟨bm, hbm⟩ : ∃ bm, bm = w.heap.size := ⟨_, rfl⟩
  rw [← hbm]
  have HI0 := hid (show NeedInv w ((w.alloc (Obj.cells #[.pointer (some ⟨q, 0, none⟩)] 31)).alloc (Obj.cells #[.slice none 0 0] 30)) S (cutS S w) q v p0 0 (bm + 1) bm (.slice none 0 0) from
    ⟨((Touch.refl S w).alloc _).alloc _, ⟨v, Grown.refl HV.out.ok, HV.out.cut.gr (((Gr.refl w).alloc _).alloc _)⟩, own_nil _ _ _ _, by
      have := Rec.new (w.alloc (Obj.cells #[.pointer (some ⟨q, 0, none⟩)] 31)) 30 [.slice none 0 0]
      rw [World.size_alloc, ← hbm] at this
      exact this, by
      have := Rec.gr (Rec.new w 31 [.pointer (some ⟨q, 0, none⟩)]) ((Gr.refl _).alloc (Obj.cells #[.slice none 0 0] 30))
      rw [← hbm] at this
      exact this, fun k hk => .inl hk.1, fun h => by have := h.2; omega, fun h => by have := h.2; omega, (fun g h => by cases h), by omega, (fun g h => by cases h)⟩)
  go_loopw [10] (fun p wr => ∃ (k : Nat) (S' : Nat → Prop) (vF : Value), k ≤ p1 + 1 - p0 ∧ Hid (NeedInv w wr S S' q v p0 k (bm + 1) bm vF) ∧ p = .int .i64 ((p0 + k : Nat) : Int)) (fun p _ => p1 + 1 - (intOf p).toNat)
  case atStart => exact ⟨0, cutS S w, .slice none 0 0, by omega, HI0, by go_num⟩
  case round =>
    obtain ⟨k, S', vF, hk, HI, rfl⟩ := hrel
    have HBM := hid hbm
    clear HI0 c0 c2 hbm
    obtain ⟨r, hr⟩ : ∃ r, r = p0 + k := ⟨_, rfl⟩
    rw [← hr]
    by_cases hlast : k = p1 + 1 - p0
    · have d3 : decide (r ≤ p1) = false := decide_eq_false (by omega)
      have HR := hid hr
      have HL := hid hlast
      clear hr hlast
      go_wp2
      go_ret
      obtain ⟨v', hg, hv'⟩ := HI.out.g
      have hus := hg.us
      have hle := used_le hg.ok.pl
      rw [hg.rm, hus] at hle
      rw [HL.out] at hg hle
      refine ⟨ret_int (by rw [HE.out, if_pos hle]), HI.out.t, v', ?_, hv'.mono HI.out.sub⟩
      rw [HF.out, if_pos hle]
      exact hg
    · have d3 : decide (r ≤ p1) = true := decide_eq_true (by omega)
      obtain ⟨v', hg, hv'⟩ := HI.out.g
      obtain ⟨A, c, rfl, hc1, hc2⟩ := own_shape HI.out.own
      unfold maxLen at hc2
      have hS := unmL_succ v p0 k
      rw [← hr] at hS
      have hrl : r < v.pt.length := by omega
      have hma := hg.ma r hrl
      have hFr : r ∉ unmL v p0 k := fun h => by have := (unmL_mem.1 h).1; omega
      have hl' := hg.len HV.out.ok
      have hpE : pgE v'.pt r = 0 := by unfold pgE; rw [if_pos ⟨by omega, by omega⟩]
      have km := HI.out.rm.cell (j := 0) rfl
      have hr2 : r ≤ 524288 := by omega
      have lbm := HI.out.rm.lt
      have lbs := HI.out.rs.lt
      have HVK := hid hv'
      have HGK := hid hg
      have HK := hid hk
      have HR := hid hr
      have HLA := hid hlast
      by_cases h0 : v.pt.getD r 0 = 0
      · rw [if_pos h0] at hS
        have h0' : v'.pt.getD r 0 = 0 := Decidable.not_not.1 (fun hn => (hma.1 hn).elim (fun h => h h0) hFr)
        by_cases hroom : v'.pl.used = v'.pl.rm
        · have HM : Hid (v'.mpE r = 14) := ⟨by
            unfold Vm.mpE
            rw [if_neg (by rw [hpE]; decide), Int.toNat_natCast, if_neg (by rw [h0']; decide), if_pos hroom]⟩
          have HE0 : Hid (¬ v.pl.used + (unmL v p0 (p1 + 1 - p0)).length ≤ v.pl.rm) := ⟨by
            have h1 := unmL_le v p0 (show k + 1 ≤ p1 + 1 - p0 by omega)
            rw [hS, List.length_append, List.length_singleton] at h1
            have h2 := hg.us
            have h3 := hg.rm
            omega⟩
          clear hS h0 h0' hroom hma hFr hl' hpE hg hv' hk hr hlast hrl
          go_wp2_with (first
            | (go_at_call 123; refine (vm_map HVK.out r).mono ?_; rintro e w1 ⟨rfl, ht1, hv1⟩; rw [HM.out]; have HT1 := hid ht1; have HV1 := hid hv1; clear ht1 hv1)
            | (go_at_call 121; have hv1 := HV1.out; rw [mp_none (by rw [HM.out]; decide)] at hv1; obtain ⟨-, i2, i3, i4, -, i6, i7, i8⟩ := HI.out.map HT1.out; refine (vm_undo HV.out.ok ⟨_, HGK.out, hv1⟩ i2 i8 (i3.cell (j := 0) rfl) (i4.cell (j := 0) rfl) i3.lt i4.lt i6 i7).mono ?_; rintro e w2 ⟨rfl, ht2, hg2⟩; have HT2 := hid ht2; have HG2 := hid hg2; clear ht2 hg2 hv1 i2 i3 i4 i6 i7 i8))
          go_ret
          obtain ⟨i1, i2, i3, i4, i5, i6, i7, i8⟩ := HI.out.map HT1.out
          have hz := HI.out.t.size
          have hz1 := HT1.out.size
          refine ⟨ret_int (by rw [HE.out, if_neg HE0.out]), i1.trans' HT2.out (fun i hi hs => (i5 i hs).resolve_right (by omega)), ?_⟩
          rw [HF.out, if_neg HE0.out]
          obtain ⟨v2, hg2, hv2⟩ := HG2.out
          refine ⟨v2, hg2, hv2.mono (fun k hk => ?_)⟩
          rcases hk with hk | hk
          · exact i5 k hk
          · exact .inr (by omega)
        · have HM : Hid (v'.mpE r = 0) := ⟨by
            unfold Vm.mpE
            rw [if_neg (by rw [hpE]; decide), Int.toNat_natCast, if_neg (by rw [h0']; decide), if_neg hroom]⟩
          have HGN := hid (hg.mp HV.out.ok HM.out)
          have HSU := hid hS
          have hFl : (unmL v p0 k).length ≤ 524288 := by
            have h1 := hg.us
            have h2 := hg.ok.us
            have h3 := nz_le v'.pt
            have h4 := hg.ok.pt.n2
            omega
          obtain ⟨N, hN⟩ : ∃ N, N = (unmL v p0 k).length := ⟨_, rfl⟩
          have HN := hid hN
          rw [← hN] at hc1 hFl
          clear hS h0 h0' hroom hma hFr hl' hpE hg hv' hk hr hlast hrl
          rw [← hN] at HI
          clear hN
          obtain ⟨ii, hii, hi0, hi1, hi2⟩ := info_parts infoInt'
          go_wp2_with (first
            | (go_at_call 123; refine (vm_map HVK.out r).mono ?_; rintro e w1 ⟨rfl, ht1, hv1⟩; rw [HM.out]; have HRS1 := hid (HI.out.rs.touch ht1 HI.out.ns); have ks := HRS1.out.cell (j := 0) rfl; have HT1 := hid ht1; have HV1 := hid hv1; have HO1 := hid (HI.out.map ht1).2.1; rw [← HN.out] at HO1; clear ht1 hv1)
            | (at_builtin; refine wpList_append_lies _ rfl _ _ 30 rfl 0 3 ii _ 1 8 Tryz.underlying30 hii hi0 hi1 hi2 rfl (by decide) (.slice A N c) N (i64s (unmL v p0 k)) rfl (HO1.out.alloc _) ⟨w1.heap.size, 0, none⟩ 1 1 [.int .i64 (r : Nat)] rfl rfl (World.news_of_block (cs := #[.int .i64 (r : Nat)]) (t := 3) (fr := (0, 0)) (heap_alloc_new w1 (.cells #[.int .i64 (r : Nat)] 3))) (by simp [Value.oneCell']) (by omega) (by unfold maxLen; omega) (by omega) (Nat.zero_le _) (w1.heap.size + 1) (by simp) ?_; intro g2 c2' w2 hown2 hgrow2 hat2 hlt2; have t2 : Touch (fun k => (Value.slice A N c).ownBlock = some k) w1 w2 := (((Gr.refl _).alloc _).touch _).trans (grown_touch hgrow2 _ (fun k e _ => e)); have HRS2 := hid (HRS1.out.touch t2 (fun e => own_ne HO1.out HRS1.out (by decide) e rfl rfl)); have ks2 := HRS2.out.cell (j := 0) rfl; have kf2 := HRS2.out.free 0; have HT2 := hid t2; have HO2 := hid hown2; have HA2 := hid (And.intro hat2 hlt2); clear hown2 hgrow2 hat2 hlt2 t2))
          have hI := HI.out
          have hN := HN.out
          obtain ⟨i1, i2, i3, i4, i5, i6, i7, i8⟩ := HI.out.map HT1.out
          have hz := HI.out.t.size
          have hz1 := HT1.out.size
          have hz2 := HT2.out.size
          have hat2 := HA2.out
          have hT12 : Touch S w w2 := i1.trans' HT2.out (fun i hi hs => by have := HI.out.lg i hs; omega)
          go_round
          case rel =>
            refine ⟨k + 1, cutS (plus S' wr) w1, .slice (some ⟨g2, 0, none⟩) (N + 1) c2', by have := HK.out; have := HLA.out; omega, ⟨?_⟩, by rw [HR.out]; go_num⟩
            refine ⟨hT12.setCell (a := ⟨bm + 1, 0, none⟩) (fun h => by have := HBM.out; have h : bm + 1 < w.heap.size := h; omega) _, ?_, ?_, ?_, ?_, fun i hi => i5 i hi.1, fun h => i6 h.1, fun h => i7 h.1, fun g hg => ?_, by have := HBM.out; omega, fun g hg => ?_⟩
            · refine ⟨_, by rw [HSU.out]; exact HGN.out, ((HV1.out.cut.touch HT2.out (fun i hi _ e => i8 i e hi.1)).touch ((Touch.refl (fun i => i = bm + 1) w2).setCell (a := ⟨bm + 1, 0, none⟩) (fun _ => rfl) _) (fun i hi _ e => by subst e; exact i6 hi.1))⟩
            · rw [HSU.out, List.length_append, List.length_singleton, ← HN.out, show i64s (unmL v p0 k ++ [r]) = i64s (unmL v p0 k) ++ [.int .i64 (r : Nat)] by unfold i64s; rw [List.map_append]; rfl]
              exact own_set_other HO2.out _ (fun g hg => own_ne HO2.out HRS2.out (by decide) hg rfl)
            · exact Rec.set HRS2.out 0 _
            · exact own_set_other (i4.touch HT2.out (fun e => own_ne HO1.out i4 (by decide) e rfl rfl)) _ (fun g hg => by cases hg; show bm ≠ bm + 1; omega)
            · intro hc
              cases hg
              rcases hat2.1 with h | h
              · exact i8 _ h hc.1
              · have : g2 < w1.heap.size := hc.2
                omega
            · cases hg
              rcases hat2.1 with h | h
              · exact HI.out.lg _ h
              · show w.heap.size ≤ g2
                omega
          case measure => have := HK.out; have := HLA.out; have := HR.out; simp [intOf]; omega
      · rw [if_neg h0] at hS
        have h0' : v'.pt.getD r 0 ≠ 0 := hma.2 (.inl h0)
        have HM : Hid (v'.mpE r = 13) := ⟨by
          unfold Vm.mpE
          rw [if_neg (by rw [hpE]; decide), Int.toNat_natCast, if_pos h0']⟩
        have HSU := hid hS
        clear hS h0 h0' hma hFr hl' hpE hg hv' hk hr hlast hrl
        go_wp2_with (go_at_call 123; refine (vm_map HVK.out r).mono ?_; rintro e w1 ⟨rfl, ht1, hv1⟩; rw [HM.out]; have HT1 := hid ht1; have HV1 := hid hv1; clear ht1 hv1)
        obtain ⟨i1, i2, i3, i4, i5, i6, i7, i8⟩ := HI.out.map HT1.out
        have hv1 := HV1.out
        rw [mp_none (by rw [HM.out]; decide)] at hv1
        go_round
        case rel =>
          refine ⟨k + 1, plus S' wr, _, by have := HK.out; have := HLA.out; omega, ⟨i1, ?_, ?_, i3, i4, i5, i6, i7, i8, HI.out.ls, HI.out.lg⟩, by rw [HR.out]; go_num⟩
          · rw [HSU.out]; exact ⟨_, HGK.out, hv1⟩
          · rw [HSU.out]; exact i2
        case measure => have := HK.out; have := HLA.out; have := HR.out; simp [intOf]; omega
end
end Go.Proofs.YtbmidhlilafgeaaGreatDoor
end

section
namespace Go.Proofs.YtbmidhlilafgeaaGreatDoor
open Go.RowKit Word

section
variable {w : World} {S : Nat → Prop} {q : Nat} {v : Vm}
theorem pool_used {p : Pl} (hP : PoolAt w S q p) : Calls Tryz.prog 76 #[.pointer (some ⟨q, 0, none⟩)] w fun e w' => e = .returned (.int .i64 p.used) ∧ w = w' := by
  obtain ⟨vw, vt, vb, hi, ts, hr, -⟩ := hP.row
  have c4 := hr.cell (j := 5) rfl
  clear hr hP
  go_enter Tryz.func76, Tryz.ntmps76
  go_wp2
  go_ret
  exact ⟨rfl, rfl⟩
theorem vm_page (hV : VmAt w S q v) : Calls Tryz.prog 71 #[.pointer (some ⟨q, 0, none⟩)] w fun e w' => e = .returned (.int .i64 v.pl.pg) ∧ w = w' := by
  have HV := hid hV
  obtain ⟨S1, S2, b1, b2, hr, hp, -⟩ := hV.row
  have c0 := hr.cell (j := 0) rfl
  have HP := hid hp
  clear hr hp hV
  go_enter Tryz.func71, Tryz.ntmps71
  go_wp2_with (first
    | (go_at_call 75; refine (vm_none HV.out).mono ?_; rintro e w1 ⟨rfl, rfl⟩)
    | (go_at_call 122; refine (pool_page HP.out).mono ?_; rintro e w1 ⟨rfl, rfl⟩))
  go_ret
  exact ⟨rfl, rfl⟩
theorem vm_used (hV : VmAt w S q v) : Calls Tryz.prog 20 #[.pointer (some ⟨q, 0, none⟩)] w fun e w' => e = .returned (.int .i64 v.pl.used) ∧ w = w' := by
  have HV := hid hV
  obtain ⟨S1, S2, b1, b2, hr, hp, -⟩ := hV.row
  have c0 := hr.cell (j := 0) rfl
  have HP := hid hp
  clear hr hp hV
  go_enter Tryz.func20, Tryz.ntmps20
  go_wp2_with (first
    | (go_at_call 75; refine (vm_none HV.out).mono ?_; rintro e w1 ⟨rfl, rfl⟩)
    | (go_at_call 76; refine (pool_used HP.out).mono ?_; rintro e w1 ⟨rfl, rfl⟩))
  go_ret
  exact ⟨rfl, rfl⟩
theorem vm_words (hV : VmAt w S q v) : Calls Tryz.prog 33 #[.pointer (some ⟨q, 0, none⟩)] w fun e w' => e = .returned (.int .i64 v.n) ∧ w = w' := by
  have HV := hid hV
  obtain ⟨S1, S2, b1, b2, hr, hp, -⟩ := hV.row
  have c0 := hr.cell (j := 2) rfl
  clear hr hp hV
  go_enter Tryz.func33, Tryz.ntmps33
  go_wp2_with (go_at_call 75; refine (vm_none HV.out).mono ?_; rintro e w1 ⟨rfl, rfl⟩)
  go_ret
  exact ⟨rfl, rfl⟩
theorem vm_mapped (hV : VmAt w S q v) (p : Int) : Calls Tryz.prog 34 #[.pointer (some ⟨q, 0, none⟩), .int .i64 p] w fun e w' => e = .returned (.bool (frE v.pt p == 0)) ∧ Gr w w' := by
  have HV := hid hV
  obtain ⟨S1, S2, b1, b2, hr, hp, hg, -⟩ := hV.row
  have c0 := hr.cell (j := 1) rfl
  have HG := hid hg
  have hrl := hr.lt
  clear hr hp hg hV
  go_enter Tryz.func34, Tryz.ntmps34
  go_wp2_with (first
    | (go_at_call 75; refine (vm_none HV.out).mono ?_; rintro e w1 ⟨rfl, rfl⟩)
    | (go_at_call 91; refine (pg_frame HG.out p).mono ?_; rintro e w1 ⟨rfl, hg1⟩; have HG1 := hid hg1; clear hg1))
  go_ret
  exact ⟨rfl, HG1.out⟩
/-- Need of no word. -/
theorem vm_need_none (hV : VmAt w S q v) (f t : Nat) (ht : t ≤ v.n) (hft : t ≤ f) : Calls Tryz.prog 59 #[.pointer (some ⟨q, 0, none⟩), .int .i64 f, .int .i64 t] w fun e w' => e = .returned (.int .i64 0) ∧ Gr w w' := by
  have HV := hid hV
  obtain ⟨S1, S2, b1, b2, hr, -⟩ := hV.row
  have n2 := hV.ok.n2
  have HR := hid hr
  have d0 : decide ((f : Int) < 0) = false := decide_eq_false (by omega)
  have d1 : decide ((v.n : Int) < (t : Int)) = false := decide_eq_false (by omega)
  have d2 : decide ((t : Int) ≤ (f : Int)) = true := decide_eq_true (by omega)
  have c2 := (hr.gr ((Gr.refl w).alloc (.cells #[.pointer (some ⟨q, 0, none⟩)] 31))).cell (j := 2) rfl
  have hv' := hid (hV.gr ((Gr.refl w).alloc (.cells #[.pointer (some ⟨q, 0, none⟩)] 31)))
  clear hr hV
  go_enter Tryz.func59, Tryz.ntmps59
  go_wp2_with (go_at_call 75; refine (vm_none hv'.out).mono ?_; rintro e w1 ⟨rfl, rfl⟩)
  go_ret
  exact ⟨rfl, (Gr.refl w).alloc _⟩
end
end Go.Proofs.YtbmidhlilafgeaaGreatDoor
end
end
section
namespace Go.Proofs.YtbmidhlilafgeaaGreatDoor
open Go.RowKit Word

structure Cf where
  fr : Nat
  tp : Nat
  to : Nat
  lm : Nat
  bk : Nat
  st : Nat
  ah : Nat
def cfV (c : Cf) : Value := .agg #[.int .i64 c.fr, .int .i64 c.tp, .int .i64 c.to, .int .i64 c.lm, .int .i64 c.bk, .int .i64 c.st, .int .i64 c.ah]
def upN (n B : Nat) : Nat := (n + B - 1) / B * B
section
variable {w : World} {S : Nat → Prop} {q : Nat} {v : Vm}
end
end Go.Proofs.YtbmidhlilafgeaaGreatDoor
end
section
section
namespace Go.Proofs.YtbmidhlilafgeaaGreatDoor
open Go.RowKit Word

end Go.Proofs.YtbmidhlilafgeaaGreatDoor
end

section
namespace Go.Proofs.YtbmidhlilafgeaaGreatDoor
open Word

/-- An object: its start, its size. -/
abbrev Ob := Nat × Nat
/-- Objects within n words, by rising start, none over another. -/
structure Good (n : Nat) (L : List Ob) : Prop where
  pw : L.Pairwise (fun o q => o.1 + o.2 ≤ q.1)
  sz : ∀ o ∈ L, 1 ≤ o.2 ∧ o.1 + o.2 ≤ n
theorem Good.nil (n : Nat) : Good n [] := ⟨List.Pairwise.nil, fun _ h => by cases h⟩
theorem Good.at {n : Nat} {L : List Ob} (h : Good n L) {i j : Nat} (hi : i < L.length) (hj : j < L.length) (hij : i < j) : L[i].1 + L[i].2 ≤ L[j].1 := List.pairwise_iff_getElem.1 h.pw i j hi hj hij
theorem Good.disj {n : Nat} {L : List Ob} (h : Good n L) {o q : Ob} (ho : o ∈ L) (hq : q ∈ L) : o = q ∨ o.1 + o.2 ≤ q.1 ∨ q.1 + q.2 ≤ o.1 := by
  obtain ⟨i, hi, rfl⟩ := List.getElem_of_mem ho
  obtain ⟨j, hj, rfl⟩ := List.getElem_of_mem hq
  rcases Nat.lt_trichotomy i j with hij | rfl | hij
  · exact .inr (.inl (h.at hi hj hij))
  · exact .inl rfl
  · exact .inr (.inr (h.at hj hi hij))
theorem Good.len {n : Nat} : ∀ {L : List Ob}, Good n L → L.length ≤ n := by
  intro L h
  have key : ∀ (L : List Ob), L.Pairwise (fun o q => o.1 + o.2 ≤ q.1) → (∀ o ∈ L, 1 ≤ o.2 ∧ o.1 + o.2 ≤ n) → ∀ a, a ≤ n → (∀ o ∈ L, a ≤ o.1) → a + L.length ≤ n := by
    intro L
    induction L with
    | nil => intro _ _ a ha _; simpa using ha
    | cons o r ih =>
      intro hp hs a ha hl
      obtain ⟨h1, h2⟩ := List.pairwise_cons.1 hp
      have ho := hs o (List.mem_cons_self ..)
      have := ih h2 (fun q hq => hs q (List.mem_cons_of_mem _ hq)) (o.1 + o.2) ho.2 (fun q hq => h1 q hq)
      have := hl o (List.mem_cons_self ..)
      simp only [List.length_cons]; omega
  have := key L h.pw h.sz 0 (Nat.zero_le _) (fun _ _ => Nat.zero_le _)
  omega

/-! The bits of a map -/
def startsL (n : Nat) (L : List Ob) : List Bool := (List.range n).map fun i => L.any fun o => o.1 == i
def endsL (n : Nat) (L : List Ob) : List Bool := (List.range n).map fun i => L.any fun o => o.1 + o.2 == i + 1
theorem startsL_len (n : Nat) (L : List Ob) : (startsL n L).length = n := by simp [startsL]
theorem endsL_len (n : Nat) (L : List Ob) : (endsL n L).length = n := by simp [endsL]
theorem at_map_range (f : Nat → Bool) (n i : Nat) : at_ ((List.range n).map f) i = (decide (i < n) && f i) := by
  unfold at_
  rw [List.getD_eq_getElem?_getD, List.getElem?_map]
  by_cases h : i < n
  · rw [List.getElem?_range h, decide_eq_true h]; rfl
  · rw [List.getElem?_eq_none (by simpa using h), decide_eq_false h]; rfl
theorem at_starts {n : Nat} {L : List Ob} (h : Good n L) (i : Nat) : at_ (startsL n L) i = true ↔ ∃ o ∈ L, o.1 = i := by
  unfold startsL
  rw [at_map_range]
  simp only [Bool.and_eq_true, decide_eq_true_eq, List.any_eq_true, beq_iff_eq]
  constructor
  · rintro ⟨_, h⟩; exact h
  · rintro ⟨o, ho, rfl⟩; have := h.sz o ho; exact ⟨by omega, o, ho, rfl⟩
theorem at_ends {n : Nat} {L : List Ob} (h : Good n L) (i : Nat) : at_ (endsL n L) i = true ↔ ∃ o ∈ L, o.1 + o.2 = i + 1 := by
  unfold endsL
  rw [at_map_range]
  simp only [Bool.and_eq_true, decide_eq_true_eq, List.any_eq_true, beq_iff_eq]
  constructor
  · rintro ⟨_, h⟩; exact h
  · rintro ⟨o, ho, e⟩; have := h.sz o ho; exact ⟨by omega, o, ho, e⟩
/-- The end of an object is the first one from its start on. -/
theorem next_end {n : Nat} {L : List Ob} (h : Good n L) {o : Ob} (ho : o ∈ L) : nextL (endsL n L) (o.1 : Int) = o.1 + o.2 - 1 ∧ o.1 + o.2 - 1 < (endsL n L).length := by
  have hs := h.sz o ho
  have := nextL_at (l := endsL n L) (a := (o.1 : Int)) (k := o.1 + o.2 - 1) (fun i hi hc => by
    obtain ⟨q, hq, e⟩ := (at_ends h i).1 hc.1
    have hqs := h.sz q hq
    have hc2 := hc.2
    rcases h.disj ho hq with rfl | hd | hd <;> omega) ((at_ends h _).2 ⟨o, ho, by omega⟩) (by omega)
  exact ⟨this.1, by rw [endsL_len]; omega⟩

/-! The next object -/
def nextO (L : List Ob) (a : Int) : Nat := L.findIdx fun o => decide (a ≤ o.1)
theorem nextO_le (L : List Ob) (a : Int) : nextO L a ≤ L.length := List.findIdx_le_length
theorem nextO_no {L : List Ob} {a : Int} {i : Nat} (h : i < nextO L a) (hi : i < L.length) : (L[i].1 : Int) < a := by
  have := List.not_of_lt_findIdx h
  simp at this; omega
theorem nextO_yes {L : List Ob} {a : Int} (h : nextO L a < L.length) : a ≤ (L[nextO L a]'h).1 := by
  have := List.findIdx_getElem (p := fun o : Ob => decide (a ≤ (o.1 : Int))) (w := h)
  simp only [decide_eq_true_eq] at this
  exact this
theorem nextO_eq {L : List Ob} {a : Int} {j : Nat} (hj : j ≤ L.length) (hn : ∀ i (hi : i < L.length), i < j → (L[i].1 : Int) < a) (hy : ∀ h : j < L.length, a ≤ (L[j].1 : Int)) : nextO L a = j := by
  rcases Nat.lt_trichotomy (nextO L a) j with h | h | h
  · have h1 := nextO_yes (L := L) (a := a) (by omega)
    have h2 := hn _ (by omega) h
    omega
  · exact h
  · have hlt : j < L.length := by have := nextO_le L a; omega
    have h1 := nextO_no h hlt
    have h2 := hy hlt
    omega
/-- The next start from an address on. -/
theorem next_start_yes {n : Nat} {L : List Ob} (h : Good n L) {a : Int} (hj : nextO L a < L.length) : nextL (startsL n L) a = (L[nextO L a]).1 ∧ nextL (startsL n L) a < (startsL n L).length := by
  have hy := nextO_yes hj
  refine nextL_at (fun i hi hc => ?_) ((at_starts h _).2 ⟨_, List.getElem_mem hj, rfl⟩) (by omega)
  obtain ⟨q, hq, e⟩ := (at_starts h i).1 hc.1
  obtain ⟨k, hk, rfl⟩ := List.getElem_of_mem hq
  rcases Nat.lt_trichotomy k (nextO L a) with hlt | rfl | hlt
  · have := nextO_no hlt hk; omega
  · omega
  · have := h.at hj hk hlt; omega
theorem next_start_no {n : Nat} {L : List Ob} (h : Good n L) {a : Int} (hj : ¬ nextO L a < L.length) : nextL (startsL n L) a = (startsL n L).length := by
  refine nextL_end (fun i hi hc => ?_)
  obtain ⟨q, hq, e⟩ := (at_starts h i).1 hc.1
  obtain ⟨k, hk, rfl⟩ := List.getElem_of_mem hq
  have := nextO_no (L := L) (a := a) (i := k) (by omega) hk
  omega
theorem next_after_ob {n : Nat} {L : List Ob} (h : Good n L) {j : Nat} (hj : j < L.length) : nextO L ((L[j].1 : Int) + (L[j].2 : Int)) = j + 1 := by
  refine nextO_eq (by omega) (fun i hi hij => ?_) (fun h2 => ?_)
  · have hs := h.sz _ (List.getElem_mem hj)
    rcases Nat.lt_or_ge i j with h1 | h1
    · have := h.at hi hj h1; have := h.sz _ (List.getElem_mem hi); omega
    · have : i = j := by omega
      subst this; omega
  · have := h.at hj h2 (Nat.lt_succ_self j); omega

/-! The object that has an address -/
def hasO (a : Int) (o : Ob) : Bool := decide ((o.1 : Int) ≤ a ∧ a < o.1 + o.2)
def findO (L : List Ob) (a : Int) : Nat := L.findIdx (hasO a)
theorem findO_le (L : List Ob) (a : Int) : findO L a ≤ L.length := List.findIdx_le_length
theorem findO_yes {L : List Ob} {a : Int} (h : findO L a < L.length) : ((L[findO L a]'h).1 : Int) ≤ a ∧ a < (L[findO L a]'h).1 + (L[findO L a]'h).2 := by
  have := List.findIdx_getElem (p := hasO a) (w := h)
  simp only [hasO, decide_eq_true_eq] at this
  exact this
theorem findO_no {L : List Ob} {a : Int} {i : Nat} (h : i < findO L a) (hi : i < L.length) : ¬ ((L[i].1 : Int) ≤ a ∧ a < L[i].1 + L[i].2) := by
  have := List.not_of_lt_findIdx h
  simpa [hasO] using this
theorem findO_eq {n : Nat} {L : List Ob} (h : Good n L) {a : Int} {j : Nat} (hj : j < L.length) (h1 : (L[j].1 : Int) ≤ a) (h2 : a < L[j].1 + L[j].2) : findO L a = j := by
  rcases Nat.lt_trichotomy (findO L a) j with hlt | he | hlt
  · have hy := findO_yes (L := L) (a := a) (by omega)
    have := h.at (i := findO L a) (by omega) hj hlt
    omega
  · exact he
  · exact absurd ⟨h1, h2⟩ (findO_no hlt hj)
theorem findO_none {L : List Ob} {a : Int} (h : ∀ o ∈ L, ¬ ((o.1 : Int) ≤ a ∧ a < o.1 + o.2)) : findO L a = L.length := by
  rcases Nat.lt_or_ge (findO L a) L.length with h1 | h1
  · exact absurd (findO_yes h1) (h _ (List.getElem_mem h1))
  · have := findO_le L a; omega
/-- The last object that starts at or below an address. -/
theorem last_of {n : Nat} {L : List Ob} (h : Good n L) (a : Int) : (lastL (startsL n L) (a + 1) = -1 ∧ ∀ o ∈ L, a < (o.1 : Int)) ∨ ∃ j, ∃ hj : j < L.length, lastL (startsL n L) (a + 1) = (L[j].1 : Int) ∧ (L[j].1 : Int) ≤ a ∧ ∀ i (hi : i < L.length), j < i → a < (L[i].1 : Int) := by
  have hx := nextO_le L (a + 1)
  rcases Nat.eq_zero_or_pos (nextO L (a + 1)) with h0 | h0
  · left
    have hall : ∀ o ∈ L, a < (o.1 : Int) := fun o ho => by
      obtain ⟨k, hk, rfl⟩ := List.getElem_of_mem ho
      have hy := nextO_yes (L := L) (a := a + 1) (by omega)
      rcases Nat.eq_zero_or_pos k with rfl | hk0
      · have e : L[nextO L (a + 1)]'(by omega) = L[0] := by congr 1
        rw [e] at hy; omega
      · have := h.at (i := 0) (j := k) (by omega) hk hk0
        have e : L[nextO L (a + 1)]'(by omega) = L[0]'(by omega) := by congr 1
        rw [e] at hy; omega
    refine ⟨lastL_end (fun i hc => ?_), hall⟩
    obtain ⟨q, hq, e⟩ := (at_starts h i).1 hc.1
    have := hall q hq; omega
  · right
    obtain ⟨j, hj⟩ : ∃ j, nextO L (a + 1) = j + 1 := ⟨nextO L (a + 1) - 1, by omega⟩
    have hjl : j < L.length := by omega
    have h1 := nextO_no (L := L) (a := a + 1) (i := j) (by omega) hjl
    have hall : ∀ i (hi : i < L.length), j < i → a < (L[i].1 : Int) := fun i hi hij => by
      have hy := nextO_yes (L := L) (a := a + 1) (by omega)
      rcases Nat.lt_or_ge (nextO L (a + 1)) i with h2 | h2
      · have := h.at (i := nextO L (a + 1)) (by omega) hi h2; omega
      · have e : L[nextO L (a + 1)]'(by omega) = L[i] := by congr 1; omega
        rw [e] at hy; omega
    refine ⟨j, hjl, lastL_at (fun i hij hc => ?_) ((at_starts h _).2 ⟨_, List.getElem_mem hjl, rfl⟩) (by omega), by omega, hall⟩
    obtain ⟨q, hq, e⟩ := (at_starts h i).1 hc.1
    obtain ⟨k, hk, rfl⟩ := List.getElem_of_mem hq
    rcases Nat.lt_trichotomy k j with hlt | rfl | hlt
    · have := h.at hk hjl hlt; omega
    · omega
    · have := hall k hk hlt; omega
end Go.Proofs.YtbmidhlilafgeaaGreatDoor
end

section
namespace Go.Proofs.YtbmidhlilafgeaaGreatDoor
open Word

/-- Is a word live? -/
def liveB (L : List Ob) (i : Nat) : Bool := L.any fun o => decide (o.1 ≤ i ∧ i < o.1 + o.2)
theorem liveB_iff {L : List Ob} {i : Nat} : liveB L i = true ↔ ∃ o ∈ L, o.1 ≤ i ∧ i < o.1 + o.2 := by simp [liveB]
theorem liveB_find {L : List Ob} {i : Nat} : liveB L i = decide (findO L (i : Int) < L.length) := by
  by_cases h : findO L (i : Int) < L.length
  · rw [decide_eq_true h]
    have := findO_yes h
    exact liveB_iff.2 ⟨_, List.getElem_mem h, by omega, by omega⟩
  · rw [decide_eq_false h]
    cases hb : liveB L i with
    | false => rfl
    | true =>
      obtain ⟨o, ho, h1, h2⟩ := liveB_iff.1 hb
      obtain ⟨k, hk, rfl⟩ := List.getElem_of_mem ho
      exact absurd ⟨by omega, by omega⟩ (findO_no (L := L) (a := (i : Int)) (i := k) (by omega) hk)
/-- How many words of a run from f up to t are live, of n words. -/
def liveN (L : List Ob) (n : Nat) (f t : Int) : Nat := cnt (fun i => decide (f ≤ (i : Nat) ∧ ((i : Nat) : Int) < t) && liveB L i) n
/-- How many words of an object lie in a run. -/
def over (o : Ob) (f t : Int) : Int := max 0 (min (o.1 + o.2 : Int) t - max (o.1 : Int) f)
def overs (L : List Ob) (f t : Int) : Int := (L.map fun o => over o f t).sum
theorem cnt_run (a b n : Nat) (h1 : a ≤ b) (h2 : b ≤ n) : cnt (fun i => decide (a ≤ i ∧ i < b)) n = b - a := by
  induction n generalizing b with
  | zero => rw [cnt_zero]; omega
  | succ n ih =>
    rw [cnt_succ]
    rcases Nat.lt_or_ge n b with h | h
    · have e : cnt (fun i => decide (a ≤ i ∧ i < b)) n = cnt (fun i => decide (a ≤ i ∧ i < b - 1)) n ∨ a = b := by
        by_cases hab : a = b
        · exact .inr hab
        · exact .inl (cnt_congr (fun i hi => decide_eq_decide.2 (by omega)))
      rcases e with e | e
      · by_cases hab : a = b
        · subst hab
          rw [cnt_none (fun i _ => decide_eq_false (by omega)), decide_eq_false (by omega)]; simp
        · rw [e, ih (b - 1) (by omega) (by omega), decide_eq_true (by omega)]; simp; omega
      · subst e
        rw [cnt_none (fun i _ => decide_eq_false (by omega)), decide_eq_false (by omega)]; simp
    · rw [ih b h1 h, decide_eq_false (by omega)]; simp
theorem liveN_nil (n : Nat) (f t : Int) : liveN [] n f t = 0 := cnt_none (fun i _ => by simp [liveB])
theorem cnt_over {n : Nat} {o : Ob} (ho : o.1 + o.2 ≤ n) (f t : Int) : ((cnt (fun i => decide (f ≤ (i : Nat) ∧ ((i : Nat) : Int) < t) && decide (o.1 ≤ i ∧ i < o.1 + o.2)) n : Nat) : Int) = over o f t := by
  unfold over
  by_cases h : max (o.1 : Int) f < min (o.1 + o.2 : Int) t
  · have e : cnt (fun i => decide (f ≤ (i : Nat) ∧ ((i : Nat) : Int) < t) && decide (o.1 ≤ i ∧ i < o.1 + o.2)) n = cnt (fun i => decide ((max (o.1 : Int) f).toNat ≤ i ∧ i < (min (o.1 + o.2 : Int) t).toNat)) n :=
      cnt_congr (fun i _ => by rw [← Bool.decide_and]; exact decide_eq_decide.2 (by omega))
    rw [e, cnt_run _ _ _ (by omega) (by omega)]; omega
  · rw [cnt_none (fun i _ => by rw [← Bool.decide_and]; exact decide_eq_false (by omega))]; omega
theorem liveN_eq {n : Nat} : ∀ {L : List Ob}, Good n L → ∀ (f t : Int), ((liveN L n f t : Nat) : Int) = overs L f t := by
  intro L
  induction L with
  | nil => intro _ f t; rw [liveN_nil]; rfl
  | cons o r ih =>
    intro h f t
    obtain ⟨h1, h2⟩ := List.pairwise_cons.1 h.pw
    have hr : Good n r := ⟨h2, fun q hq => h.sz q (List.mem_cons_of_mem _ hq)⟩
    have ho := h.sz o (List.mem_cons_self ..)
    have hs := cnt_or (f := fun i => decide (f ≤ (i : Nat) ∧ ((i : Nat) : Int) < t) && decide (o.1 ≤ i ∧ i < o.1 + o.2)) (g := fun i => decide (f ≤ (i : Nat) ∧ ((i : Nat) : Int) < t) && liveB r i) (fun i => by
      by_cases hc : o.1 ≤ i ∧ i < o.1 + o.2
      · have : liveB r i = false := by
          cases hb : liveB r i with
          | false => rfl
          | true => obtain ⟨q, hq, h3, h4⟩ := liveB_iff.1 hb; have := h1 q hq; omega
        rw [this]; simp
      · rw [decide_eq_false hc]; simp) n
    have e : liveN (o :: r) n f t = cnt (fun i => (decide (f ≤ (i : Nat) ∧ ((i : Nat) : Int) < t) && decide (o.1 ≤ i ∧ i < o.1 + o.2)) || (decide (f ≤ (i : Nat) ∧ ((i : Nat) : Int) < t) && liveB r i)) n :=
      cnt_congr (fun i _ => by rw [← Bool.and_or_distrib_left]; rfl)
    rw [e, hs, Int.natCast_add, cnt_over ho.2]
    have := ih hr f t
    unfold liveN at this
    rw [this]
    simp [overs]
theorem overs_append (L M : List Ob) (f t : Int) : overs (L ++ M) f t = overs L f t + overs M f t := by simp [overs]
theorem over_zero {o : Ob} {f t : Int} (h : (o.1 + o.2 : Int) ≤ f ∨ t ≤ o.1) : over o f t = 0 := by unfold over; omega
theorem overs_zero {L : List Ob} {f t : Int} (h : ∀ o ∈ L, (o.1 + o.2 : Int) ≤ f ∨ t ≤ o.1) : overs L f t = 0 := by
  induction L with
  | nil => rfl
  | cons o r ih =>
    have := ih (fun q hq => h q (List.mem_cons_of_mem _ hq))
    have h2 := over_zero (h o (List.mem_cons_self ..))
    simp only [overs, List.map_cons, List.sum_cons] at this ⊢
    omega
theorem overs_take {L : List Ob} {j : Nat} (hj : j < L.length) (f t : Int) : overs (L.take (j + 1)) f t = overs (L.take j) f t + over L[j] f t := by
  rw [List.take_succ_eq_append_getElem hj, overs_append]; simp [overs]
theorem overs_split (L : List Ob) (j : Nat) (f t : Int) : overs L f t = overs (L.take j) f t + overs (L.drop j) f t := by
  rw [← overs_append, List.take_append_drop]
theorem mem_take_lt {L : List Ob} {j : Nat} {o : Ob} (h : o ∈ L.take j) : ∃ i, ∃ hi : i < L.length, i < j ∧ L[i] = o := by
  obtain ⟨i, hi, rfl⟩ := List.getElem_of_mem h
  simp only [List.length_take] at hi
  exact ⟨i, by omega, by omega, by rw [List.getElem_take]⟩
theorem mem_drop_ge {L : List Ob} {j : Nat} {o : Ob} (h : o ∈ L.drop j) : ∃ i, ∃ hi : i < L.length, j ≤ i ∧ L[i] = o := by
  obtain ⟨i, hi, rfl⟩ := List.getElem_of_mem h
  simp only [List.length_drop] at hi
  exact ⟨j + i, by omega, by omega, by rw [List.getElem_drop]⟩
/-- Where the sum stands when the loop over the objects begins: those ahead of the next one from f on. -/
theorem overs_head {n : Nat} {L : List Ob} (h : Good n L) {f t : Int} :
    overs (L.take (nextO L f)) f t = if findO L f < L.length ∧ (L[findO L f]?.getD (0, 0)).1 < f ∧ f < t then min ((L[findO L f]?.getD (0, 0)).1 + (L[findO L f]?.getD (0, 0)).2 : Int) t - f else 0 := by
  by_cases hfi : findO L f < L.length
  · have hy := findO_yes hfi
    have hg : L[findO L f]?.getD (0, 0) = L[findO L f] := by rw [List.getElem?_eq_getElem hfi]; rfl
    rw [hg]
    by_cases hlt : (L[findO L f].1 : Int) < f
    · have hn : nextO L f = findO L f + 1 := nextO_eq (by omega) (fun i hi hij => by
        rcases Nat.lt_or_ge i (findO L f) with h1 | h1
        · have := h.at hi hfi h1; omega
        · have : i = findO L f := by omega
          subst this; omega) (fun h2 => by have := h.at hfi h2 (Nat.lt_succ_self _); omega)
      rw [hn, overs_take hfi, overs_zero (fun o ho => by
        obtain ⟨i, hi, hij, rfl⟩ := mem_take_lt ho
        have := h.at hi hfi hij; left; omega)]
      by_cases hft : f < t
      · rw [if_pos ⟨hfi, by omega, hft⟩]; unfold over; omega
      · rw [if_neg (by omega)]; unfold over; omega
    · rw [if_neg (by omega)]
      refine overs_zero (fun o ho => ?_)
      obtain ⟨i, hi, hij, rfl⟩ := mem_take_lt ho
      have h1 := nextO_no hij hi
      rcases Nat.lt_trichotomy i (findO L f) with h2 | rfl | h2
      · have := h.at hi hfi h2; left; omega
      · omega
      · have := h.at hfi hi h2; have := (h.sz _ (List.getElem_mem hfi)).1; omega
  · rw [if_neg (by omega)]
    refine overs_zero (fun o ho => ?_)
    obtain ⟨i, hi, hij, rfl⟩ := mem_take_lt ho
    have h1 := nextO_no hij hi
    have h2 := findO_no (L := L) (a := f) (i := i) (by omega) hi
    left; omega
/-- What lies behind is not of the run. -/
theorem overs_tail {n : Nat} {L : List Ob} (h : Good n L) {j : Nat} {f t : Int} (hj : ∀ hl : j < L.length, t ≤ (L[j].1 : Int)) : overs (L.drop j) f t = 0 := by
  refine overs_zero (fun o ho => ?_)
  obtain ⟨i, hi, hij, rfl⟩ := mem_drop_ge ho
  right
  have := hj (by omega)
  rcases Nat.lt_or_ge j i with h1 | h1
  · have := h.at (i := j) (by omega) hi h1; omega
  · have : i = j := by omega
    subst this; exact hj _
theorem overs_clip {n : Nat} {L : List Ob} (h : Good n L) (f t : Int) : overs L (max f 0) (min t n) = overs L f t := by
  unfold overs
  congr 1
  refine List.map_congr_left (fun o ho => ?_)
  have := h.sz o ho
  unfold over; omega

/-! The k-th live word -/
def sizes : List Ob → Nat
  | [] => 0
  | o :: r => o.2 + sizes r
theorem sizes_take {L : List Ob} {j : Nat} (hj : j < L.length) : sizes (L.take (j + 1)) = sizes (L.take j) + L[j].2 := by
  induction L generalizing j with
  | nil => simp at hj
  | cons o r ih =>
    cases j with
    | zero => simp [sizes]
    | succ j =>
      have := ih (j := j) (by simpa using hj)
      simp only [List.take_succ_cons, sizes, List.getElem_cons_succ] at this ⊢
      omega
theorem overs_all {n : Nat} {L : List Ob} (h : Good n L) : overs L 0 n = sizes L := by
  have key : ∀ (L : List Ob), (∀ o ∈ L, 1 ≤ o.2 ∧ o.1 + o.2 ≤ n) → overs L 0 n = sizes L := by
    intro L
    induction L with
    | nil => intro _; rfl
    | cons o r ih =>
      intro hs
      have h1 := ih (fun q hq => hs q (List.mem_cons_of_mem _ hq))
      have ho := hs o (List.mem_cons_self ..)
      have h2 : over o 0 n = o.2 := by unfold over; omega
      simp only [overs, List.map_cons, List.sum_cons, sizes] at h1 ⊢
      rw [h2]; omega
  exact key L h.sz
theorem overs_upto {n : Nat} {L : List Ob} (h : Good n L) {j i : Nat} (hj : j < L.length) (hi : i ≤ L[j].2) : overs L 0 ((L[j].1 : Int) + i) = sizes (L.take j) + i := by
  rw [overs_split L (j + 1), overs_tail h (j := j + 1) (fun hl => by have := h.at hj hl (Nat.lt_succ_self _); omega), overs_take hj]
  have hg : Good L[j].1 (L.take j) := ⟨h.pw.sublist (List.take_sublist ..), fun o ho => by
    obtain ⟨q, hq, hqj, rfl⟩ := mem_take_lt ho
    have := h.at hq hj hqj
    exact ⟨(h.sz _ (List.getElem_mem hq)).1, this⟩⟩
  have e : overs (L.take j) 0 ((L[j].1 : Int) + i) = overs (L.take j) 0 (L[j].1 : Nat) := by
    unfold overs
    congr 1
    refine List.map_congr_left (fun o ho => ?_)
    have := hg.sz o ho
    unfold over; omega
  rw [e, overs_all hg]
  unfold over; omega
theorem sizes_le {n : Nat} {L : List Ob} (h : Good n L) : sizes L ≤ n := by
  have h1 := overs_all h
  have h2 := liveN_eq h 0 n
  have h3 : liveN L n 0 n ≤ n := cnt_le _ _
  omega
end Go.Proofs.YtbmidhlilafgeaaGreatDoor
end

section
namespace Go.Proofs.YtbmidhlilafgeaaGreatDoor
open Word

def insO : List Ob → Ob → List Ob
  | [], o => [o]
  | q :: r, o => if o.1 < q.1 then o :: q :: r else q :: insO r o
theorem mem_insO {L : List Ob} {o x : Ob} : x ∈ insO L o ↔ x = o ∨ x ∈ L := by
  induction L with
  | nil => simp [insO]
  | cons q r ih =>
    unfold insO
    split
    · simp
    · simp only [List.mem_cons, ih]
      constructor
      · rintro (h | h | h) <;> simp [h]
      · rintro (h | h | h) <;> simp [h]
theorem insO_len (L : List Ob) (o : Ob) : (insO L o).length = L.length + 1 := by
  induction L with
  | nil => rfl
  | cons q r ih => unfold insO; split <;> simp [ih]
theorem insO_good {n : Nat} {L : List Ob} (h : Good n L) {o : Ob} (h1 : 1 ≤ o.2) (h2 : o.1 + o.2 ≤ n) (hd : ∀ q ∈ L, o.1 + o.2 ≤ q.1 ∨ q.1 + q.2 ≤ o.1) : Good n (insO L o) := by
  refine ⟨?_, fun x hx => ?_⟩
  · have key : ∀ (L : List Ob), L.Pairwise (fun o q => o.1 + o.2 ≤ q.1) → (∀ q ∈ L, 1 ≤ q.2) → (∀ q ∈ L, o.1 + o.2 ≤ q.1 ∨ q.1 + q.2 ≤ o.1) → (insO L o).Pairwise (fun o q => o.1 + o.2 ≤ q.1) := by
      intro L
      induction L with
      | nil => intro _ _ _; simp [insO]
      | cons q r ih =>
        intro hp hs hd
        obtain ⟨hp1, hp2⟩ := List.pairwise_cons.1 hp
        have hq := hd q (List.mem_cons_self ..)
        have hqs := hs q (List.mem_cons_self ..)
        unfold insO
        split
        · rename_i hlt
          refine List.pairwise_cons.2 ⟨fun x hx => ?_, hp⟩
          rcases List.mem_cons.1 hx with rfl | hx
          · omega
          · have := hp1 x hx; omega
        · rename_i hlt
          refine List.pairwise_cons.2 ⟨fun x hx => ?_, ih hp2 (fun x hx => hs x (List.mem_cons_of_mem _ hx)) (fun x hx => hd x (List.mem_cons_of_mem _ hx))⟩
          rcases mem_insO.1 hx with rfl | hx
          · omega
          · exact hp1 x hx
    exact key L h.pw (fun q hq => (h.sz q hq).1) hd
  · rcases mem_insO.1 hx with rfl | hx
    · exact ⟨h1, h2⟩
    · exact h.sz x hx
theorem bool_ext {a b : Bool} (h : a = true ↔ b = true) : a = b := Bool.eq_iff_iff.2 h
theorem at_set {l : List Bool} {k i : Nat} {x : Bool} (hk : k < l.length) : at_ (l.set k x) i = if i = k then x else at_ l i := getD_set l k i x hk
theorem starts_ins {n : Nat} {L : List Ob} (h : Good n L) {o : Ob} (h1 : 1 ≤ o.2) (h2 : o.1 + o.2 ≤ n) (hd : ∀ q ∈ L, o.1 + o.2 ≤ q.1 ∨ q.1 + q.2 ≤ o.1) : startsL n (insO L o) = (startsL n L).set o.1 true :=
  ext_at (by rw [List.length_set, startsL_len, startsL_len]) (fun i _ => by
    rw [at_set (by rw [startsL_len]; omega)]
    refine bool_ext ?_
    rw [at_starts (insO_good h h1 h2 hd)]
    split
    · rename_i e; subst e; exact ⟨fun _ => rfl, fun _ => ⟨o, mem_insO.2 (.inl rfl), rfl⟩⟩
    · rename_i e
      rw [at_starts h]
      constructor
      · rintro ⟨q, hq, rfl⟩
        rcases mem_insO.1 hq with rfl | hq
        · exact absurd rfl e
        · exact ⟨q, hq, rfl⟩
      · rintro ⟨q, hq, rfl⟩; exact ⟨q, mem_insO.2 (.inr hq), rfl⟩)
theorem ends_ins {n : Nat} {L : List Ob} (h : Good n L) {o : Ob} (h1 : 1 ≤ o.2) (h2 : o.1 + o.2 ≤ n) (hd : ∀ q ∈ L, o.1 + o.2 ≤ q.1 ∨ q.1 + q.2 ≤ o.1) : endsL n (insO L o) = (endsL n L).set (o.1 + o.2 - 1) true :=
  ext_at (by rw [List.length_set, endsL_len, endsL_len]) (fun i _ => by
    rw [at_set (by rw [endsL_len]; omega)]
    refine bool_ext ?_
    rw [at_ends (insO_good h h1 h2 hd)]
    split
    · rename_i e; subst e; exact ⟨fun _ => rfl, fun _ => ⟨o, mem_insO.2 (.inl rfl), by omega⟩⟩
    · rename_i e
      rw [at_ends h]
      constructor
      · rintro ⟨q, hq, e2⟩
        rcases mem_insO.1 hq with rfl | hq
        · omega
        · exact ⟨q, hq, e2⟩
      · rintro ⟨q, hq, e2⟩; exact ⟨q, mem_insO.2 (.inr hq), e2⟩)

/-- Is a word of a run live? -/
def clashB (L : List Ob) (s z : Int) : Bool := L.any fun o => decide ((o.1 : Int) < s + z ∧ s < o.1 + o.2)
theorem clash_iff {L : List Ob} {s z : Int} : clashB L s z = true ↔ ∃ o ∈ L, (o.1 : Int) < s + z ∧ s < o.1 + o.2 := by simp [clashB]
theorem clash_find {n : Nat} {L : List Ob} (h : Good n L) {s z : Int} (hz : 1 ≤ z) : clashB L s z = (decide (findO L s < L.length) || (decide (nextO L s < L.length) && decide (((L[nextO L s]?.getD (0, 0)).1 : Int) < s + z))) := by
  refine bool_ext ?_
  rw [clash_iff]
  simp only [Bool.or_eq_true, Bool.and_eq_true, decide_eq_true_eq]
  constructor
  · rintro ⟨o, ho, h1, h2⟩
    by_cases hs : (o.1 : Int) ≤ s
    · left
      obtain ⟨j, hj, rfl⟩ := List.getElem_of_mem ho
      rw [findO_eq h hj hs h2]; exact hj
    · right
      obtain ⟨j, hj, rfl⟩ := List.getElem_of_mem ho
      have hn : nextO L s ≤ j := by
        rcases Nat.lt_or_ge j (nextO L s) with hlt | hge
        · have := nextO_no hlt hj; omega
        · exact hge
      refine ⟨by omega, ?_⟩
      rw [List.getElem?_eq_getElem (by omega)]
      show (L[nextO L s].1 : Int) < s + z
      rcases Nat.lt_or_ge (nextO L s) j with hlt | hge
      · have := h.at (i := nextO L s) (by omega) hj hlt; omega
      · have e : L[nextO L s]'(by omega) = L[j] := by congr 1; omega
        rw [e]; exact h1
  · rintro (hf | ⟨hn, hl⟩)
    · have := findO_yes hf
      exact ⟨_, List.getElem_mem hf, by omega, by omega⟩
    · rw [List.getElem?_eq_getElem hn] at hl
      have hl : (L[nextO L s].1 : Int) < s + z := hl
      have hy := nextO_yes hn
      have := (h.sz _ (List.getElem_mem hn)).1
      exact ⟨_, List.getElem_mem hn, hl, by omega⟩
def addE (L : List Ob) (n : Nat) (s z : Int) : Int := if z < 1 then 15 else if s < 0 ∨ (n : Int) ≤ s ∨ (n : Int) - s < z then 11 else if clashB L s z then 7 else 0
def addL (L : List Ob) (n : Nat) (s z : Int) : List Ob := if addE L n s z = 0 then insO L (s.toNat, z.toNat) else L
theorem addE_zero {L : List Ob} {n : Nat} {s z : Int} (h : addE L n s z = 0) : 1 ≤ z ∧ 0 ≤ s ∧ s + z ≤ n ∧ clashB L s z = false := by
  unfold addE at h
  split at h
  · omega
  · split at h
    · omega
    · split at h
      · omega
      · rename_i h1 h2 h3
        refine ⟨by omega, by omega, by omega, by simpa using h3⟩
theorem add_apart {L : List Ob} {s z : Int} (hs : 0 ≤ s) (hz : 1 ≤ z) (h : clashB L s z = false) : ∀ q ∈ L, s.toNat + z.toNat ≤ q.1 ∨ q.1 + q.2 ≤ s.toNat := fun q hq => by
  by_cases hc : (q.1 : Int) < s + z ∧ s < q.1 + q.2
  · have := clash_iff.2 ⟨q, hq, hc⟩; rw [h] at this; cases this
  · omega
theorem addL_good {n : Nat} {L : List Ob} (h : Good n L) (s z : Int) : Good n (addL L n s z) := by
  unfold addL
  split
  · rename_i he
    obtain ⟨h1, h2, h3, h4⟩ := addE_zero he
    exact insO_good h (by show 1 ≤ z.toNat; omega) (by show s.toNat + z.toNat ≤ n; omega) (add_apart h2 h1 h4)
  · exact h

/-! Drop -/
theorem starts_nil (n : Nat) : startsL n [] = List.replicate n false := by unfold startsL; exact ext_at (by simp) (fun i hi => by rw [at_map_range]; simp [at_, List.getD_eq_getElem?_getD, List.getElem?_replicate]; split <;> rfl)
theorem ends_nil (n : Nat) : endsL n [] = List.replicate n false := by unfold endsL; exact ext_at (by simp) (fun i hi => by rw [at_map_range]; simp [at_, List.getD_eq_getElem?_getD, List.getElem?_replicate]; split <;> rfl)
end Go.Proofs.YtbmidhlilafgeaaGreatDoor
end
end
