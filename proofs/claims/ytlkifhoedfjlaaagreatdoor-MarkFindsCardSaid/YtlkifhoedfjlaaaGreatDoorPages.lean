/- Package pages: a map of pages. -/
import Derived.Test.YtlkifhoedfjlaaaGreatDoorPoolB
namespace Go.Proofs.YtlkifhoedfjlaaaGreatDoor
open Go.RowKit Word

def u32s (l : List Nat) : List Value := l.map fun x => .int .u32 (x : Nat)
/-- The entries of table number k. -/
def tabOf (pt : List Nat) (k : Nat) : List Nat := (List.range 256).map fun i => pt.getD (256 * k + i) 0
def nz (l : List Nat) : Nat := cnt (fun i => l.getD i 0 != 0) l.length
def tabRow (pt : List Nat) (k : Nat) : List Value := u32s (tabOf pt k) ++ [.int .i64 (nz (tabOf pt k) : Nat)]
def ptrs (L : List (Option Nat)) : List Value := L.map fun b => .pointer (b.map fun b => ⟨b, 0, none⟩)
def ntab (n : Nat) : Nat := (n + 255) / 256
structure PtOk (pt : List Nat) : Prop where
  n1 : 1 ≤ pt.length
  n2 : pt.length ≤ 524288
  lt : ∀ x ∈ pt, x < 4294967296
/-- A map q of pages lies in w, all of it in blocks of S: each page's frame and 1; 0: none. -/
structure PgAt (w : World) (S : Nat → Prop) (q : Nat) (pt : List Nat) : Prop where
  ok : PtOk pt
  sq : S q
  row : ∃ g c L, Rec w q 137 [.slice (some ⟨g, 0, none⟩) (ntab pt.length) c, .int .i64 pt.length, .int .i64 (nz pt : Nat)] ∧ ntab pt.length ≤ c ∧ c ≤ maxLen ∧ S g ∧
    w.ownsRow 0 175 1 (.slice (some ⟨g, 0, none⟩) (ntab pt.length) c) (ntab pt.length) (ptrs L) ∧
    (∀ k, k < ntab pt.length → match L.getD k none with
      | none => ∀ i, i < 256 → pt.getD (256 * k + i) 0 = 0
      | some b => S b ∧ Rec w b 178 (tabRow pt k)) ∧
    (∀ k j b, L.getD k none = some b → L.getD j none = some b → k = j)
theorem tabOf_len (pt : List Nat) (k : Nat) : (tabOf pt k).length = 256 := by simp [tabOf]
theorem tabOf_at (pt : List Nat) (k : Nat) {i : Nat} (h : i < 256) : (tabOf pt k).getD i 0 = pt.getD (256 * k + i) 0 := by simp [tabOf, List.getD_eq_getElem?_getD, h]
theorem tabRow_at (pt : List Nat) (k : Nat) {i : Nat} (h : i < 256) : (tabRow pt k)[i]? = some (.int .u32 (pt.getD (256 * k + i) 0 : Nat)) := by
  unfold tabRow u32s
  rw [List.getElem?_append_left (by simp [tabOf_len, h])]
  simp [tabOf, h]
theorem tabRow_n (pt : List Nat) (k : Nat) : (tabRow pt k)[256]? = some (.int .i64 (nz (tabOf pt k) : Nat)) := by
  unfold tabRow u32s
  rw [List.getElem?_append_right (by simp [tabOf_len])]
  simp [tabOf_len]
theorem PgAt.touch {S T : Nat → Prop} {w w' : World} {q : Nat} {pt : List Nat} (h : PgAt w S q pt) (t : Touch T w w') (hS : ∀ k, S k → k < w.heap.size → ¬ T k) : PgAt w' S q pt := by
  obtain ⟨ok, sq, g, c, L, hr, h1, h2, sg, ho, ht, hd⟩ := h
  refine ⟨ok, sq, g, c, L, hr.touch t (hS q sq hr.lt), h1, h2, sg, own_touch ho t (fun b hb => by cases hb; exact hS g sg (own_lt ho rfl).2), fun k hk => ?_, hd⟩
  have := ht k hk
  cases hl : L.getD k none with
  | none => rw [hl] at this; exact this
  | some b => rw [hl] at this; exact ⟨this.1, this.2.touch t (hS b this.1 this.2.lt)⟩
theorem PgAt.gr {S : Nat → Prop} {w w' : World} {q : Nat} {pt : List Nat} (h : PgAt w S q pt) (t : Gr w w') : PgAt w' S q pt := h.touch (t.touch (fun _ => False)) (fun _ _ _ h => h)
theorem PgAt.mono {S T : Nat → Prop} {w : World} {q : Nat} {pt : List Nat} (h : PgAt w S q pt) (hT : ∀ k, S k → T k) : PgAt w T q pt := by
  obtain ⟨ok, sq, g, c, L, hr, h1, h2, sg, ho, ht, hd⟩ := h
  refine ⟨ok, hT _ sq, g, c, L, hr, h1, h2, hT _ sg, ho, fun k hk => ?_, hd⟩
  have := ht k hk
  cases hl : L.getD k none with
  | none => rw [hl] at this; exact this
  | some b => rw [hl] at this; exact ⟨hT _ this.1, this.2⟩
theorem ntab_le {n : Nat} (h : n ≤ 524288) : ntab n ≤ 2048 := by unfold ntab; omega
theorem ntab_lt {n p : Nat} (h : p < n) : p / 256 < ntab n := by unfold ntab; omega
theorem ptrs_at {L : List (Option Nat)} {k : Nat} (h : k < L.length) : (ptrs L)[k]? = some (.pointer ((L.getD k none).map fun b => ⟨b, 0, none⟩)) := by
  simp [ptrs, List.getD_eq_getElem?_getD, h]
section
variable {w : World} {S : Nat → Prop} {q : Nat} {pt : List Nat}
set_option maxHeartbeats 800000 in
theorem pg_get (hM : PgAt w S q pt) {p : Nat} (hp : p < pt.length) : Calls Tryz.prog 98 #[.pointer (some ⟨q, 0, none⟩), .int .i64 p] w fun e w' => e = .returned (.int .u32 (pt.getD p 0 : Nat)) ∧ w = w' := by
  obtain ⟨ok, sq, g, c, L, hr, h1, h2, sg, ho, ht, hd⟩ := hM
  have hn := ntab_le ok.n2
  have hk := ntab_lt hp
  have hLl : L.length = ntab pt.length := by have := ho.1; simp [ptrs] at this; exact this
  have c0 := hr.cell (j := 0) rfl
  have k0 := own_cell ho (ptrs_at (L := L) (k := p / 256) (by omega))
  have hh := ht _ hk
  obtain ⟨k, hkk⟩ : ∃ k, k = p / 256 := ⟨_, rfl⟩
  obtain ⟨i, hii⟩ : ∃ i, i = p % 256 := ⟨_, rfl⟩
  have hpk : 256 * k + i = p := by omega
  have hi : i < 256 := by omega
  have e1 : (p : Int) / 256 = (k : Int) := by omega
  have e2 : (p : Int) % 256 = (i : Int) := by omega
  rw [← hkk] at k0 hk hh
  have hpb : (p : Int) ≤ 524288 := by have := ok.n2; omega
  have hkI : (k : Int) < (ntab pt.length : Int) := by omega
  have hiI : (i : Int) < 256 := by omega
  unfold maxLen at h2
  cases hl : L.getD k none with
  | none =>
    rw [hl] at hh k0
    have E := hid (hh i hi)
    rw [hpk] at E
    rw [E.out]
    clear hr ho ht hh hd hii hkk hpk hl
    go_enter Tryz.func98, Tryz.ntmps98
    go_wp2
    go_ret
    exact ⟨rfl, rfl⟩
  | some b =>
    rw [hl] at hh k0
    have k1 := hh.2.cell (tabRow_at pt k hi)
    rw [hpk] at k1
    clear hp
    generalize pt.getD p 0 = x at k1 ⊢
    clear hr ho ht hh hd hii hkk hpk hl
    go_enter Tryz.func98, Tryz.ntmps98
    go_wp2
    go_ret
    exact ⟨rfl, rfl⟩
/-- Whether a page is none of the map's. -/
def pgE (pt : List Nat) (p : Int) : Int := if 0 ≤ p ∧ p < pt.length then 0 else 11
def pgsE (pt : List Nat) (l : List Int) : Int := if l.all (fun p => decide (pgE pt p = 0)) then 0 else 11
theorem pgE_cut (pt : List Nat) (p : Int) : (decide (p < 0) = true ∧ pgE pt p = 11) ∨ (decide (p < 0) = false ∧ decide ((pt.length : Int) ≤ p) = true ∧ pgE pt p = 11) ∨ (decide (p < 0) = false ∧ decide ((pt.length : Int) ≤ p) = false ∧ pgE pt p = 0) := by
  unfold pgE
  by_cases h0 : p < 0
  · exact .inl ⟨decide_eq_true h0, if_neg (by omega)⟩
  · by_cases h1 : (pt.length : Int) ≤ p
    · exact .inr (.inl ⟨decide_eq_false h0, decide_eq_true h1, if_neg (by omega)⟩)
    · exact .inr (.inr ⟨decide_eq_false h0, decide_eq_false h1, if_pos (by omega)⟩)
theorem pgsE_end {pt : List Nat} {l : List Int} (h : ∀ i, i < l.length → pgE pt (l.getD i 0) = 0) : pgsE pt l = 0 := by
  unfold pgsE
  rw [if_pos]
  rw [List.all_eq_true]
  intro x hx
  obtain ⟨i, hi, rfl⟩ := List.mem_iff_getElem.1 hx
  have := h i hi
  rw [List.getD_eq_getElem?_getD, List.getElem?_eq_getElem hi] at this
  exact decide_eq_true this
theorem pgsE_at {pt : List Nat} {l : List Int} {i : Nat} (hi : i < l.length) (h : pgE pt (l.getD i 0) = 11) : pgsE pt l = 11 := by
  unfold pgsE
  rw [if_neg]
  rw [List.all_eq_true]
  intro ha
  have := ha l[i] (List.getElem_mem hi)
  rw [List.getD_eq_getElem?_getD, List.getElem?_eq_getElem hi] at h
  rw [Option.getD_some] at h
  rw [h] at this
  exact absurd this (by decide)
theorem pg_in (hM : PgAt w S q pt) {b n : Nat} {l : List Int} (hn : l.length = n) (hn2 : n ≤ 2) (hc : ∀ i, i < n → w.cell? ⟨b, i, none⟩ = some (.int .i64 (l.getD i 0))) : Calls Tryz.prog 97 #[.pointer (some ⟨q, 0, none⟩), .slice (some ⟨b, 0, none⟩) n n] w fun e w' => e = .returned (.int .i64 (pgsE pt l)) ∧ w = w' := by
  obtain ⟨ok, sq, g, c, L, hr, -⟩ := hM
  have c1 := hr.cell (j := 1) rfl
  have HC := hid hc
  clear hr hc
  go_enter Tryz.func97, Tryz.ntmps97
  go_wp2
  go_loop [11] (fun i => ∃ k : Nat, k ≤ n ∧ i = .int .i64 k ∧ Hid (∀ i, i < k → pgE pt (l.getD i 0) = 0)) (fun i => n - (intOf i).toNat)
  case atStart => exact ⟨0, by omega, rfl, ⟨fun i h => by omega⟩⟩
  case round =>
    obtain ⟨k, hk, rfl, hk1⟩ := hrel
    by_cases hlt : k < n
    · have hcell := HC.out k hlt
      have hq := pgE_cut pt (l.getD k 0)
      have H1 := hid (fun h => pgsE_at (pt := pt) (l := l) (i := k) (by omega) h)
      have H2 : Hid (pgE pt (l.getD k 0) = 0 → ∀ i, i < k + 1 → pgE pt (l.getD i 0) = 0) := ⟨fun h i hi => by
        by_cases e : i = k
        · subst e; exact h
        · exact hk1.out i (by omega)⟩
      generalize l.getD k 0 = p at hcell hq H1 H2
      clear hk1 HC hn
      rcases hq with ⟨d0, E⟩ | ⟨d0, d1, E⟩ | ⟨d0, d1, E⟩
      · have E := hid E
        go_wp2
        go_ret
        exact ⟨ret_int (by rw [H1.out E.out]), rfl⟩
      · have E := hid E
        go_wp2
        go_ret
        exact ⟨ret_int (by rw [H1.out E.out]), rfl⟩
      · have E := hid E
        go_wp2
        go_round
        case rel => exact ⟨k + 1, by omega, by go_num, ⟨H2.out E.out⟩⟩
        case measure => simp [intOf]; omega
    · obtain rfl : k = n := by omega
      have E := hid (pgsE_end (pt := pt) (l := l) (by rw [hn]; exact hk1.out))
      clear hk1 HC hn
      go_wp2
      go_ret
      exact ⟨ret_int (by rw [E.out]), rfl⟩
end
end Go.Proofs.YtlkifhoedfjlaaaGreatDoor
