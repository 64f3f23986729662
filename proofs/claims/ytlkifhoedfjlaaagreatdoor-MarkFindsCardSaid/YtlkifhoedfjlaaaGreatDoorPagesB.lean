/- Package pages: set. -/
import Derived.Test.YtlkifhoedfjlaaaGreatDoorPages
namespace Go.Proofs.YtlkifhoedfjlaaaGreatDoor
open Go.RowKit Word

theorem zero_table : (Tryz.zeroCells178).toList = u32s (List.replicate 256 0) ++ [.int .i64 0] := by kernel_rfl
theorem nz_at (l : List Nat) : nz l = cnt (at_ (l.map fun x => x != 0)) l.length := by
  unfold nz
  refine cnt_congr fun i hi => ?_
  simp [at_, hi]
theorem nz_set {l : List Nat} {i x : Nat} (hi : i < l.length) (h : l.getD i 0 = 0) (hx : x ≠ 0) : nz (l.set i x) = nz l + 1 := by
  have hm : (l.map fun x => x != 0).length = l.length := List.length_map _
  rw [nz_at, nz_at, List.length_set, List.map_set, ← hm]
  have : (x != 0) = true := by simp [hx]
  rw [this]
  refine cnt_set_true (by simpa using hi) ?_
  rw [List.getD_eq_getElem?_getD, List.getElem?_eq_getElem hi] at h
  simp [at_, hi]
  simpa using h
theorem nz_drop {l : List Nat} {i : Nat} (hi : i < l.length) (h : l.getD i 0 ≠ 0) : nz (l.set i 0) + 1 = nz l := by
  have hm : (l.map fun x => x != 0).length = l.length := List.length_map _
  rw [nz_at, nz_at, List.length_set, List.map_set, ← hm]
  have : ((0 : Nat) != 0) = false := rfl
  rw [this]
  refine cnt_set_false (by simpa using hi) ?_
  rw [List.getD_eq_getElem?_getD, List.getElem?_eq_getElem hi] at h
  simp [at_, hi]
  simpa using h
theorem nz_none {l : List Nat} (h : nz l = 0) {i : Nat} (hi : i < l.length) : l.getD i 0 = 0 := by
  have := cnt_zero_iff h i hi
  simpa using this
theorem nz_le (l : List Nat) : nz l ≤ l.length := cnt_le _ _
theorem tabOf_set {pt : List Nat} {k i x : Nat} (hp : 256 * k + i < pt.length) : tabOf (pt.set (256 * k + i) x) k = (tabOf pt k).set i x := by
  apply List.ext_getElem
  · simp [tabOf]
  · intro j h1 h2
    have hj : j < 256 := by simpa [tabOf] using h1
    simp only [tabOf, List.getElem_map, List.getElem_range, List.getElem_set, List.getD_eq_getElem?_getD, List.getElem?_set]
    by_cases e : i = j
    · subst e; simp [hp]
    · rw [if_neg (by omega), if_neg e]
theorem tabOf_other {pt : List Nat} {k i x j : Nat} (hi : i < 256) (hj : j ≠ k) : tabOf (pt.set (256 * k + i) x) j = tabOf pt j := by
  apply List.ext_getElem
  · simp [tabOf]
  · intro y h1 h2
    have hy : y < 256 := by simpa [tabOf] using h1
    simp only [tabOf, List.getElem_map, List.getElem_range, List.getD_eq_getElem?_getD, List.getElem?_set]
    rw [if_neg (by omega)]
theorem tabRow_set {pt : List Nat} {k i x t : Nat} (hp : 256 * k + i < pt.length) (hi : i < 256) (ht : nz ((tabOf pt k).set i x) = t) :
    tabRow (pt.set (256 * k + i) x) k = ((tabRow pt k).set i (.int .u32 x)).set 256 (.int .i64 t) := by
  unfold tabRow
  rw [tabOf_set hp, ht]
  have hl : (u32s (tabOf pt k)).length = 256 := by simp [u32s, tabOf_len]
  rw [List.set_append_left _ _ (by omega), List.set_append_right _ _ (by simp [hl])]
  simp [u32s, List.map_set, tabOf_len]
theorem tabRow_other {pt : List Nat} {k i x j : Nat} (hi : i < 256) (hj : j ≠ k) : tabRow (pt.set (256 * k + i) x) j = tabRow pt j := by
  unfold tabRow; rw [tabOf_other hi hj]
theorem tabRow_len (pt : List Nat) (k : Nat) : (tabRow pt k).length = 257 := by simp [tabRow, u32s, tabOf_len]
section
variable {w : World} {S : Nat → Prop} {q : Nat} {pt : List Nat}
set_option maxRecDepth 100000 in
set_option maxHeartbeats 800000 in
theorem pg_set_none {g n c : Nat} {m : Nat} {k i : Nat} (c0 : w.cell? ⟨q, 0, none⟩ = some (.slice (some ⟨g, 0, none⟩) n c)) (c2 : w.cell? ⟨q, 2, none⟩ = some (.int .i64 m))
    (f2 : w.frozen? ⟨q, 2, none⟩ = false) (cg : w.cell? ⟨g, k, none⟩ = some (.pointer none)) (fg : w.frozen? ⟨g, k, none⟩ = false) (hqg : q ≠ g) (hq : q < w.heap.size) (hg : g < w.heap.size)
    (hk : k < n) (hn : n ≤ 2048) (hi : i < 256) (hm : m ≤ 524288) {x : Nat} (hx : x ≠ 0) {p : Nat} (hp : p = 256 * k + i) : Calls Tryz.prog 95 #[.pointer (some ⟨q, 0, none⟩), .int .i64 p, .int .u32 x] w fun e w' => e = .returned (.tuple #[]) ∧
      w' = ((w.setCell ⟨g, k, none⟩ (.pointer (some ⟨w.heap.size, 0, none⟩))).setCell ⟨q, 2, none⟩ (.int .i64 (m + 1))).alloc
      (Obj.cells ((Tryz.zeroCells178.setIfInBounds i (.int .u32 x)).setIfInBounds 256 (.int .i64 1)) 178) := by
  have e1 : (p : Int) / 256 = (k : Int) := by omega
  have e2 : (p : Int) % 256 = (i : Int) := by omega
  have b1 : (p : Int) ≤ 524288 := by omega
  have hkI : (k : Int) < (n : Int) := by omega
  have hiI : (i : Int) < 256 := by omega
  have d0 : ((x : Int) == 0) = false := by simpa using hx
  have hz : ∀ h, (Tryz.zeroCells178.setIfInBounds i (.int .u32 x))[256]'h = .int .i64 0 := by
    intro h
    rw [Array.getElem_setIfInBounds_ne _ (by omega)]
    have hl : (Tryz.zeroCells178).toList.length = 257 := by rw [zero_table]; simp [u32s]
    rw [← Array.getElem_toList]
    · have : (Tryz.zeroCells178).toList[256]? = some (.int .i64 0) := by rw [zero_table, List.getElem?_append_right (by simp [u32s])]; simp [u32s]
      rw [List.getElem?_eq_getElem (by omega)] at this
      exact Option.some.inj this
    · have hl : (Tryz.zeroCells178).toList.length = 257 := by rw [zero_table]; simp [u32s]
      rw [Array.length_toList] at hl
      rw [hl]; omega
  clear hp
  go_enter Tryz.func95, Tryz.ntmps95
  go_wp2
  go_end0
  exact ⟨rfl, rfl⟩
def pgSet (w : World) (b i x t' q m' g k : Nat) : World :=
  if t' = 0 then (((w.setCell ⟨b, i, none⟩ (.int .u32 x)).setCell ⟨b, 256, none⟩ (.int .i64 t')).setCell ⟨q, 2, none⟩ (.int .i64 m')).setCell ⟨g, k, none⟩ (.pointer none)
  else ((w.setCell ⟨b, i, none⟩ (.int .u32 x)).setCell ⟨b, 256, none⟩ (.int .i64 t')).setCell ⟨q, 2, none⟩ (.int .i64 m')
set_option maxRecDepth 100000 in
set_option maxHeartbeats 1600000 in
theorem pg_set_some {g n c b : Nat} {m t t' m' : Nat} {y : Value} {k i : Nat} (c0 : w.cell? ⟨q, 0, none⟩ = some (.slice (some ⟨g, 0, none⟩) n c)) (c2 : w.cell? ⟨q, 2, none⟩ = some (.int .i64 m))
    (f2 : w.frozen? ⟨q, 2, none⟩ = false) (cg : w.cell? ⟨g, k, none⟩ = some (.pointer (some ⟨b, 0, none⟩))) (fg : w.frozen? ⟨g, k, none⟩ = false)
    (cb : w.cell? ⟨b, i, none⟩ = some y) (cn : w.cell? ⟨b, 256, none⟩ = some (.int .i64 t)) (fi : w.frozen? ⟨b, i, none⟩ = false) (fn : w.frozen? ⟨b, 256, none⟩ = false)
    (hqg : q ≠ g) (hbg : b ≠ g) (hbq : b ≠ q) (hk : k < n) (hn : n ≤ 2048) (hi : i < 256) (hm : m ≤ 524288) (hm' : m' ≤ 524288) (ht : t ≤ 256) (ht' : t' ≤ 256) {x : Nat} (hx : x < 4294967296)
    (hby : if x = 0 then t' + 1 = t ∧ m' + 1 = m else t' = t + 1 ∧ m' = m + 1) {p : Nat} (hp : p = 256 * k + i) : Calls Tryz.prog 95 #[.pointer (some ⟨q, 0, none⟩), .int .i64 p, .int .u32 x] w fun e w' => e = .returned (.tuple #[]) ∧
      w' = pgSet w b i x t' q m' g k := by
  have e1 : (p : Int) / 256 = (k : Int) := by omega
  have e2 : (p : Int) % 256 = (i : Int) := by omega
  have b1 : (p : Int) ≤ 524288 := by omega
  have hkI : (k : Int) < (n : Int) := by omega
  have hiI : (i : Int) < 256 := by omega
  have hi6 : ¬ i = 256 := by omega
  clear hp
  by_cases h0 : x = 0
  · rw [if_pos h0] at hby
    subst h0
    obtain ⟨rfl, rfl⟩ := hby
    have a1 : (t' : Int) + 1 + -1 = (t' : Int) := by omega
    have a2 : (m' : Int) + 1 + -1 = (m' : Int) := by omega
    by_cases h1 : t' = 0
    · subst h1
      have E : pgSet w b i 0 0 q m' g k = _ := if_pos rfl
      rw [E]
      clear E
      go_enter Tryz.func95, Tryz.ntmps95
      go_wp2
      go_end0
      exact ⟨rfl, rfl⟩
    · have d1 : ((t' : Int) == 0) = false := by simpa using h1
      have E : pgSet w b i 0 t' q m' g k = _ := if_neg h1
      rw [E]
      clear E
      go_enter Tryz.func95, Tryz.ntmps95
      go_wp2
      go_end0
      exact ⟨rfl, rfl⟩
  · rw [if_neg h0] at hby
    obtain ⟨rfl, rfl⟩ := hby
    have d0 : ((x : Int) == 0) = false := by simpa using h0
    have d1 : (((t + 1 : Nat) : Int) == 0) = false := by simp; omega
    have E : pgSet w b i x (t + 1) q (m + 1) g k = _ := if_neg (by omega)
    rw [E]
    clear E
    go_enter Tryz.func95, Tryz.ntmps95
    go_wp2
    go_end0
    exact ⟨rfl, rfl⟩
end
end Go.Proofs.YtlkifhoedfjlaaaGreatDoor
