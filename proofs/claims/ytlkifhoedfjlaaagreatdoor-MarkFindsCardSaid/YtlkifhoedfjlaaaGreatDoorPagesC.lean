/- Package pages: set, Put, Frame, Drop, New. -/
import Derived.Test.YtlkifhoedfjlaaaGreatDoorPagesB
namespace Go.Proofs.YtlkifhoedfjlaaaGreatDoor
open Go.RowKit Word

theorem rec_cast {w : World} {q T : Nat} {xs ys : List Value} (h : Rec w q T xs) (e : xs = ys) : Rec w q T ys := e ▸ h
theorem PtOk.set {pt : List Nat} (h : PtOk pt) (p : Nat) {x : Nat} (hx : x < 4294967296) : PtOk (pt.set p x) :=
  ⟨by rw [List.length_set]; exact h.n1, by rw [List.length_set]; exact h.n2, fun y hy => by
    rcases List.mem_or_eq_of_mem_set hy with h' | h'
    · exact h.lt y h'
    · subst h'; exact hx⟩
theorem getD_set {l : List Nat} {p x : Nat} (hp : p < l.length) (j : Nat) : (l.set p x).getD j 0 = if p = j then x else l.getD j 0 := by
  simp only [List.getD_eq_getElem?_getD, List.getElem?_set]
  by_cases e : p = j
  · subst e; simp [hp]
  · simp [e]
theorem getD_setN {l : List (Option Nat)} {p : Nat} {x : Option Nat} (hp : p < l.length) (j : Nat) : (l.set p x).getD j none = if p = j then x else l.getD j none := by
  simp only [List.getD_eq_getElem?_getD, List.getElem?_set]
  by_cases e : p = j
  · subst e; simp [hp]
  · simp [e]
theorem ptrs_set (L : List (Option Nat)) (k : Nat) (b : Option Nat) : ptrs (L.set k b) = (ptrs L).set k (.pointer (b.map fun b => ⟨b, 0, none⟩)) := by
  unfold ptrs; rw [List.map_set]
theorem rep_all {l : List Nat} {n : Nat} (hl : l.length = n) (h : ∀ i, i < n → l.getD i 0 = 0) : l = List.replicate n 0 := by
  apply List.ext_getElem
  · rw [hl, List.length_replicate]
  · intro y y1 y2
    have := h y (by omega)
    rw [List.getD_eq_getElem?_getD, List.getElem?_eq_getElem y1] at this
    rw [List.getElem_replicate]
    exact this
theorem nz_rep (n : Nat) : nz (List.replicate n 0) = 0 := by
  refine cnt_none fun i hi => ?_
  rw [List.length_replicate] at hi
  simp [List.getD_eq_getElem?_getD, hi]
theorem tabRow_zero {pt : List Nat} {k : Nat} (h : ∀ i, i < 256 → pt.getD (256 * k + i) 0 = 0) : tabRow pt k = u32s (List.replicate 256 0) ++ [.int .i64 0] := by
  unfold tabRow
  rw [rep_all (tabOf_len pt k) (fun y hy => by rw [tabOf_at _ _ hy]; exact h y hy), nz_rep]
  rfl
def SetEnd (w : World) (S : Nat → Prop) (q : Nat) (pt : List Nat) (p x : Nat) (w' : World) : Prop := Touch S w w' ∧ PgAt w' (plus S w) q (pt.set p x)
section
variable {w : World} {S : Nat → Prop} {q : Nat} {pt : List Nat}
theorem pg_set (hM : PgAt w S q pt) {p x : Nat} (hp : p < pt.length) (hx : x < 4294967296) (hxx : if x = 0 then pt.getD p 0 ≠ 0 else pt.getD p 0 = 0) :
    Calls Tryz.prog 95 #[.pointer (some ⟨q, 0, none⟩), .int .i64 p, .int .u32 x] w fun e w' => e = .returned (.tuple #[]) ∧ SetEnd w S q pt p x w' := by
  obtain ⟨ok, sq, g, c, L, hr, h1, h2, sg, ho, ht, hd⟩ := hM
  have hn := ntab_le ok.n2
  have hk := ntab_lt hp
  have hLl : L.length = ntab pt.length := by have := ho.1; simp [ptrs] at this; exact this
  obtain ⟨k, hkk⟩ : ∃ k, k = p / 256 := ⟨_, rfl⟩
  obtain ⟨i, hii⟩ : ∃ i, i = p % 256 := ⟨_, rfl⟩
  have hpk : p = 256 * k + i := by omega
  have hi : i < 256 := by omega
  rw [← hkk] at hk
  have hkL : k < L.length := by omega
  clear hkk hii
  have cg := own_cell ho (ptrs_at hkL)
  have fg := own_free ho k
  have c0 := hr.cell (j := 0) rfl
  have c2 := hr.cell (j := 2) rfl
  have f2 := hr.free 2
  have hqg : q ≠ g := own_ne hr ho (by decide) rfl rfl
  have hgq : g ≠ q := fun e => hqg e.symm
  have hnz := nz_le pt
  have hn2 := ok.n2
  have hql := hr.lt
  have hgl := (own_lt ho rfl).2
  have hok' := ok.set p hx
  have hlen : (pt.set p x).length = pt.length := List.length_set
  have hh := ht k hk
  cases hl : L.getD k none with
  | none =>
    rw [hl] at hh cg
    have h0 : pt.getD p 0 = 0 := by rw [hpk]; exact hh i hi
    have hx0 : x ≠ 0 := by
      intro e; subst e
      rw [if_pos rfl] at hxx; exact hxx h0
    refine (pg_set_none c0 c2 f2 cg fg hqg hql hgl hk hn hi (by omega) hx0 hpk).mono ?_
    rintro e w' ⟨rfl, rfl⟩
    refine ⟨rfl, ((Touch.refl S w).setCell (a := ⟨g, k, none⟩) (fun _ => sg) _ |>.setCell (a := ⟨q, 2, none⟩) (fun _ => sq) _).alloc _, hok', .inl sq, g, c, L.set k (some w.heap.size), ?_, by rw [hlen]; exact h1, h2, .inl sg, ?_, fun j hj => ?_, fun a b y ha hb => ?_⟩
    · have r1 := (own_set_other (q := g) (j := k) hr (.pointer (some ⟨w.heap.size, 0, none⟩)) (fun y hy => by cases hy; exact hqg))
      have r2 : Rec _ _ _ _ := Rec.set (q := q) r1 2 (.int .i64 ((nz pt : Nat) + 1))
      refine rec_cast (r2.gr ((Gr.refl _).alloc _)) ?_
      rw [nz_set hp h0 hx0, hlen]
      rfl
    · rw [hlen, ptrs_set]
      exact own_gr (own_set_other (World.ownsRow.stored ho k _).1 _ (fun y hy => by cases hy; exact hgq)) ((Gr.refl _).alloc _)
    · rw [hlen] at hj
      rw [getD_setN hkL]
      by_cases e : k = j
      · subst e
        rw [if_pos rfl]
        refine ⟨.inr (Nat.le_refl _), ?_⟩
        have hs : ∀ (W : World) (Z : Array Value) (xs : List Value) (N : Nat), W.heap.size = N → Z.toList = xs → Rec (W.alloc (.cells Z 178)) N 178 xs := by
          rintro W Z xs N rfl rfl
          exact Rec.new W _ _
        refine hs _ _ _ _ (by simp) ?_
        rw [Array.toList_setIfInBounds, Array.toList_setIfInBounds, zero_table, hpk, tabRow_set (by omega) hi rfl]
        have : nz ((tabOf pt k).set i x) = 1 := by
          rw [nz_set (by rw [tabOf_len]; exact hi) (by rw [tabOf_at _ _ hi]; exact hh i hi) hx0, rep_all (tabOf_len pt k) (fun y hy => by rw [tabOf_at _ _ hy]; exact hh y hy), nz_rep]
        rw [this, tabRow_zero hh]
        rfl
      · rw [if_neg e]
        have hh' := ht j hj
        cases hl' : L.getD j none with
        | none =>
          rw [hl'] at hh'
          intro y hy
          rw [getD_set hp, if_neg (by omega)]
          exact hh' y hy
        | some b =>
          rw [hl'] at hh'
          refine ⟨.inl hh'.1, ?_⟩
          rw [hpk, tabRow_other hi (fun h => e h.symm)]
          have hbg : b ≠ g := own_ne hh'.2 ho (by decide) rfl rfl
          have hbq : b ≠ q := own_ne hh'.2 hr (by decide) rfl rfl
          have r1 := own_set_other (q := g) (j := k) hh'.2 (.pointer (some ⟨w.heap.size, 0, none⟩)) (fun y hy => by cases hy; exact hbg)
          exact Rec.gr (own_set_other r1 _ (fun y hy => by cases hy; exact hbq)) ((Gr.refl _).alloc _)
    · rw [getD_setN hkL] at ha hb
      have hne : ∀ j, L.getD j none ≠ some w.heap.size := fun j hj => by
        by_cases hj' : j < ntab pt.length
        · have := ht j hj'
          rw [hj] at this
          exact absurd this.2.lt (Nat.lt_irrefl _)
        · rw [List.getD_eq_getElem?_getD, List.getElem?_eq_none (by omega)] at hj; cases hj
      by_cases e1 : k = a <;> by_cases e2 : k = b
      · rw [← e1, e2]
      · rw [if_pos e1] at ha; rw [if_neg e2] at hb; cases ha; exact absurd hb (hne b)
      · rw [if_neg e1] at ha; rw [if_pos e2] at hb; cases hb; exact absurd ha (hne a)
      · rw [if_neg e1] at ha; rw [if_neg e2] at hb; exact hd _ _ _ ha hb
  | some b =>
    rw [hl] at hh cg
    obtain ⟨sb, hb⟩ := hh
    have hbg : b ≠ g := own_ne hb ho (by decide) rfl rfl
    have hgb : g ≠ b := fun e => hbg e.symm
    have hbq : b ≠ q := own_ne hb hr (by decide) rfl rfl
    have hqb : q ≠ b := fun e => hbq e.symm
    have cb := hb.cell (tabRow_at pt k hi)
    have cn := hb.cell (tabRow_n pt k)
    have hti : i < (tabOf pt k).length := by rw [tabOf_len]; exact hi
    have htat : (tabOf pt k).getD i 0 = pt.getD p 0 := by rw [tabOf_at _ _ hi, hpk]
    have hby : if x = 0 then nz ((tabOf pt k).set i x) + 1 = nz (tabOf pt k) ∧ nz (pt.set p x) + 1 = nz pt else nz ((tabOf pt k).set i x) = nz (tabOf pt k) + 1 ∧ nz (pt.set p x) = nz pt + 1 := by
      by_cases e : x = 0
      · rw [if_pos e] at hxx ⊢
        subst e
        exact ⟨nz_drop hti (by rw [htat]; exact hxx), nz_drop hp hxx⟩
      · rw [if_neg e] at hxx ⊢
        exact ⟨nz_set hti (by rw [htat]; exact hxx) e, nz_set hp hxx e⟩
    have l1 := nz_le (tabOf pt k)
    have l2 := nz_le ((tabOf pt k).set i x)
    rw [List.length_set] at l2
    rw [tabOf_len] at l1 l2
    have l3 := nz_le (pt.set p x)
    rw [hlen] at l3
    refine (pg_set_some c0 c2 f2 cg fg cb cn (hb.free i) (hb.free 256) hqg hbg hbq hk hn hi (by omega) (m' := nz (pt.set p x)) (by omega) l1 l2 hx hby hpk).mono ?_
    rintro e w' ⟨rfl, rfl⟩
    obtain ⟨t', ht'⟩ : ∃ t', t' = nz ((tabOf pt k).set i x) := ⟨_, rfl⟩
    rw [← ht']
    have hrow := tabRow_set (pt := pt) (k := k) (i := i) (x := x) (t := t') (by omega) hi ht'.symm
    rw [← hpk] at hrow
    -- the world behind the first three stores
    obtain ⟨W, hW⟩ : ∃ W, W = ((w.setCell ⟨b, i, none⟩ (.int .u32 x)).setCell ⟨b, 256, none⟩ (.int .i64 t')).setCell ⟨q, 2, none⟩ (.int .i64 (nz (pt.set p x) : Nat)) := ⟨_, rfl⟩
    have TW : Touch S w W := by rw [hW]; exact ((Touch.refl S w).setCell (a := ⟨b, i, none⟩) (fun _ => sb) _ |>.setCell (a := ⟨b, 256, none⟩) (fun _ => sb) _).setCell (a := ⟨q, 2, none⟩) (fun _ => sq) _
    have RQ : Rec W q 137 [.slice (some ⟨g, 0, none⟩) (ntab pt.length) c, .int .i64 pt.length, .int .i64 (nz (pt.set p x) : Nat)] := by
      rw [hW]
      have r1 := own_set_other (q := b) (j := i) hr (.int .u32 x) (fun y hy => by cases hy; exact hqb)
      have r2 := own_set_other (q := b) (j := 256) r1 (.int .i64 t') (fun y hy => by cases hy; exact hqb)
      exact Rec.set r2 2 _
    have RG : W.ownsRow 0 175 1 (.slice (some ⟨g, 0, none⟩) (ntab pt.length) c) (ntab pt.length) (ptrs L) := by
      rw [hW]
      exact own_set_other (own_set_other (own_set_other ho _ (fun y hy => by cases hy; exact hgb)) _ (fun y hy => by cases hy; exact hgb)) _ (fun y hy => by cases hy; exact hgq)
    have RB : Rec W b 178 (tabRow (pt.set p x) k) := by
      rw [hW, hrow]
      exact own_set_other (Rec.set (Rec.set hb i _) 256 _) _ (fun y hy => by cases hy; exact hbq)
    have RO : ∀ j y, j ≠ k → j < ntab pt.length → L.getD j none = some y → S y ∧ Rec W y 178 (tabRow (pt.set p x) j) := fun j y hj hj2 hy => by
      have := ht j hj2
      rw [hy] at this
      refine ⟨this.1, ?_⟩
      rw [hpk, tabRow_other hi hj, hW]
      have hyb : y ≠ b := fun e => hj (hd _ _ _ (by rw [e] at hy; exact hy) hl)
      have hyq : y ≠ q := own_ne this.2 hr (by decide) rfl rfl
      exact own_set_other (own_set_other (own_set_other this.2 _ (fun z hz => by cases hz; exact hyb)) _ (fun z hz => by cases hz; exact hyb)) _ (fun z hz => by cases hz; exact hyq)
    have RN : ∀ j, j ≠ k → j < ntab pt.length → L.getD j none = none → ∀ y, y < 256 → (pt.set p x).getD (256 * j + y) 0 = 0 := fun j hj hj2 hy y hy2 => by
      have := ht j hj2
      rw [hy] at this
      rw [getD_set hp, if_neg (by omega)]
      exact this y hy2
    unfold pgSet
    by_cases h0 : t' = 0
    · rw [if_pos h0, ← hW]
      refine ⟨rfl, TW.setCell (a := ⟨g, k, none⟩) (fun _ => sg) _, hok', .inl sq, g, c, L.set k none, ?_, by rw [hlen]; exact h1, h2, .inl sg, ?_, fun j hj => ?_, fun a y z ha hz => ?_⟩
      · rw [hlen]
        exact own_set_other RQ _ (fun y hy => by cases hy; exact hqg)
      · rw [hlen, ptrs_set]
        exact (World.ownsRow.stored RG k _).1
      · rw [hlen] at hj
        rw [getD_setN hkL]
        by_cases e : k = j
        · subst e
          rw [if_pos rfl]
          intro y hy
          have := nz_none (l := (tabOf pt k).set i x) (by rw [← ht']; exact h0) (i := y) (by rw [List.length_set, tabOf_len]; exact hy)
          rw [← tabOf_set (by omega), tabOf_at _ _ hy, ← hpk] at this
          exact this
        · rw [if_neg e]
          cases hl' : L.getD j none with
          | none => exact RN j (fun h => e h.symm) hj hl'
          | some y =>
            have := RO j y (fun h => e h.symm) hj hl'
            have hyg : y ≠ g := own_ne this.2 RG (by decide) rfl rfl
            exact ⟨.inl this.1, own_set_other this.2 _ (fun z hz => by cases hz; exact hyg)⟩
      · rw [getD_setN hkL] at ha hz
        by_cases e1 : k = a
        · rw [if_pos e1] at ha; cases ha
        · by_cases e2 : k = y
          · rw [if_pos e2] at hz; cases hz
          · rw [if_neg e1] at ha; rw [if_neg e2] at hz; exact hd _ _ _ ha hz
    · rw [if_neg h0, ← hW]
      refine ⟨rfl, TW, hok', .inl sq, g, c, L, ?_, by rw [hlen]; exact h1, h2, .inl sg, ?_, fun j hj => ?_, hd⟩
      · rw [hlen]; exact RQ
      · rw [hlen]; exact RG
      · rw [hlen] at hj
        by_cases e : k = j
        · subst e
          rw [hl]
          exact ⟨.inl sb, RB⟩
        · cases hl' : L.getD j none with
          | none => exact RN j (fun h => e h.symm) hj hl'
          | some y =>
            have := RO j y (fun h => e h.symm) hj hl'
            exact ⟨.inl this.1, this.2⟩
end
end Go.Proofs.YtlkifhoedfjlaaaGreatDoor
