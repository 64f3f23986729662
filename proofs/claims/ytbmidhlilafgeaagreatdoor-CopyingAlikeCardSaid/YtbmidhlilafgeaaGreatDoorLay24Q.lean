/- Layer 24's Lay: what a laid heap holds. -/
import Derived.Test.YtbmidhlilafgeaaGreatDoorLay24P
import Derived.Test.YtbmidhlilafgeaaGreatDoorKM7
namespace Go.Proofs.YtbmidhlilafgeaaGreatDoor
open Go.RowKit Word

theorem tk_hdrW {p f c : Nat} (hs : p + f + c ≤ 255) : tkE (hdrW p f c) = 0 ∧ tkH (hdrW p f c) = ⟨p, f, c⟩ := by
  have e : hdrW p f c = (4294967295 - (p + 256 * f + 65536 * c + 2768240640)) * 4294967296 + (p + 256 * f + 65536 * c + 2768240640) := rfl
  have a1 : hdrW p f c % 4294967296 = p + 256 * f + 65536 * c + 2768240640 := by rw [e]; omega
  have a2 : hdrW p f c / 4294967296 = 4294967295 - (p + 256 * f + 65536 * c + 2768240640) := by rw [e]; omega
  have a3 : hdrW p f c % 256 = p := by rw [e]; omega
  have a4 : hdrW p f c / 256 % 256 = f := by rw [e]; omega
  have a5 : hdrW p f c / 65536 % 256 = c := by rw [e]; omega
  have hok : tkOk (hdrW p f c) = true := by
    unfold tkOk
    rw [a1, a2, a3, a4, a5]
    simp only [Bool.and_eq_true, decide_eq_true_eq]
    exact ⟨⟨by omega, by first | trivial | rfl⟩, hs⟩
  unfold tkE tkH
  rw [if_pos hok, if_pos hok, a3, a4, a5]
  exact ⟨rfl, rfl⟩
theorem mkV_ldV {v : Vm} (h : VmOk v) (a : Int) {x : Nat} (hx : x < 18446744073709551616) (m : Nat) (hm : ∀ j : Nat, j ≤ m → v.ldE (a + j) = 0) (b : Int) : (mkV v a x m).ldV b = if b = a then x else if a < b ∧ b ≤ a + m then 0 else v.ldV b := by
  induction m with
  | zero =>
    have h0 := hm 0 (Nat.le_refl _)
    rw [show a + ((0 : Nat) : Int) = a by omega] at h0
    show (v.st a x).ldV b = _
    rw [h.st_ldV x h0]
    by_cases e : a = b
    · rw [if_pos e, if_pos e.symm]
    · rw [if_neg e, if_neg (fun h => e h.symm), if_neg (by omega)]
  | succ m ih =>
    have ih := ih (fun j hj => hm j (by omega))
    have hok := ((Stays.refl h).mkV a hx m).ok
    have hl : (mkV v a x m).ldE (a + 1 + m) = 0 := by
      rw [mkV_ldE, show a + 1 + (m : Int) = a + ((m + 1 : Nat) : Int) by omega]
      exact hm (m + 1) (Nat.le_refl _)
    show ((mkV v a x m).st (a + 1 + m) 0).ldV b = _
    rw [hok.st_ldV 0 hl, ih]
    by_cases e : a + 1 + (m : Int) = b
    · rw [if_pos e, if_neg (by omega), if_pos (by omega)]
    · rw [if_neg e]
      by_cases e2 : b = a
      · rw [if_pos e2, if_pos e2]
      · rw [if_neg e2, if_neg e2]
        by_cases e3 : a < b ∧ b ≤ a + m
        · rw [if_pos e3, if_pos (by omega)]
        · rw [if_neg e3, if_neg (by omega)]
theorem mkE_all {v : Vm} {a : Int} {n : Nat} (h : ∀ j : Nat, j ≤ n → v.ldE (a + j) = 0) : mkE v a n = 0 := by
  induction n with
  | zero =>
    have := h 0 (Nat.le_refl _)
    rwa [show a + ((0 : Nat) : Int) = a by omega] at this
  | succ n ih =>
    show (if mkE v a n ≠ 0 then mkE v a n else v.ldE (a + 1 + n)) = 0
    rw [if_neg (fun hn => hn (ih (fun j hj => h j (by omega)))), show a + 1 + (n : Int) = a + ((n + 1 : Nat) : Int) by omega]
    exact h (n + 1) (Nat.le_refl _)
/-- An object, made where all words are there. -/
theorem mkVm_all {v : Vm} (h : VmOk v) {t p f c : Nat} (ht : 0 < t) (hs : p + f + c ≤ 255) (hl : ∀ j : Nat, j ≤ p + f + c → v.ldE ((t : Int) + j) = 0) :
    mkRes v t ⟨p, f, c⟩ = 0 ∧ ∀ b : Int, (mkVm v t ⟨p, f, c⟩).ldV b = if b = t then hdrW p f c else if (t : Int) < b ∧ b ≤ t + ((p + f + c : Nat) : Int) then 0 else v.ldV b := by
  have e : ((p : Int) + f + c).toNat = p + f + c := by omega
  have h0 : mkRes v t ⟨p, f, c⟩ = 0 := by
    unfold mkRes
    rw [if_neg (by omega), if_neg (by rw [hdrE_of hs]; decide)]
    show mkE v t ((p : Int) + f + c).toNat = 0
    rw [e]
    exact mkE_all hl
  refine ⟨h0, fun b => ?_⟩
  unfold mkVm
  rw [if_pos h0]
  show (mkV v t (hdrW p f c) ((p : Int) + f + c).toNat).ldV b = _
  rw [e]
  exact mkV_ldV h t (hdrW_lt hs) _ hl b
theorem fldC_ldV {v : Vm} (a p : Nat) {s : Vm × Nat × List Int} (h : Stays v s.1) (m : Nat) (hl : ∀ j : Nat, j < m → v.ldE ((a + 1 + j : Nat) : Int) = 0) (b : Int) (hb : ¬ ((a : Int) + 1 + p ≤ b ∧ b < a + 1 + m)) : (fldC a p s m).1.ldV b = s.1.ldV b := by
  induction m with
  | zero => rfl
  | succ m ih =>
    have ih := ih (fun j hj => hl j (by omega)) (by omega)
    unfold fldC
    split
    · exact ih
    · rename_i hp
      have hs := (h.fldC a p m).1
      have h1 : (fldC a p s m).1.ldE ((a + 1 + m : Nat) : Int) = 0 := by rw [hs.sm.ldE]; exact hl m (Nat.lt_succ_self m)
      show ((fldC a p s m).1.st _ _).ldV b = _
      rw [hs.ok.st_ldV _ h1, if_neg (by omega)]
      exact ih
theorem fldC_F (a p : Nat) (s : Vm × Nat × List Int) (m : Nat) : ∀ x ∈ (fldC a p s m).2.2, x ∈ s.2.2 ∨ ∃ j : Nat, j < m ∧ j < p ∧ x = ((a + 1 + j : Nat) : Int) := by
  induction m with
  | zero => exact fun x hx => .inl hx
  | succ m ih =>
    intro x hx
    unfold fldC at hx
    split at hx
    · rename_i hp
      rcases List.mem_append.1 hx with hx | hx
      · rcases ih x hx with h | ⟨j, h1, h2, h3⟩
        · exact .inl h
        · exact .inr ⟨j, by omega, h2, h3⟩
      · exact .inr ⟨m, by omega, hp, List.mem_singleton.1 hx⟩
    · rcases ih x hx with h | ⟨j, h1, h2, h3⟩
      · exact .inl h
      · exact .inr ⟨j, by omega, h2, h3⟩
/-- Where an object lies. -/
def LaidC.at (x : LaidC) (j : Nat) : Nat := x.page + szC x.H j
/-- What may stand in a pointer. -/
def IsPut (x : LaidC) (y : Nat) : Prop := y = 0 ∨ ∃ j, j < x.k ∧ y = x.at j
theorem put_is (x : LaidC) (i : Nat) : IsPut x (x.put i) := by
  unfold LaidC.put
  split
  · exact .inl rfl
  · rename_i h
    exact .inr ⟨i % x.k, Nat.mod_lt _ (by omega), rfl⟩
structure LaidIn (x : LaidC) (v0 v : Vm) (k : Nat) : Prop where
  st : Stays v0 v
  hd : ∀ j, j < k → ∀ p f c : Nat, hdC x.H j = ⟨p, f, c⟩ → v.ldV ((x.at j : Nat) : Int) = hdrW p f c
  pt : ∀ j, j < k → ∀ p f c : Nat, hdC x.H j = ⟨p, f, c⟩ → ∀ m : Nat, m < p → IsPut x (v.ldV ((x.at j + 1 + m : Nat) : Int))
def InF (x : LaidC) (k : Nat) (F : List Int) : Prop := ∀ a ∈ F, ∃ j, j < k ∧ ∃ p f c m : Nat, hdC x.H j = ⟨p, f, c⟩ ∧ m < p ∧ a = ((x.at j + 1 + m : Nat) : Int)
section
variable {x : LaidC} {v0 : Vm}
theorem at_next {j p f c : Nat} (hj : j < x.k) (hh : hdC x.H j = ⟨p, f, c⟩) : x.at (j + 1) = x.at j + (1 + p + f + c) ∧ x.at (j + 1) ≤ x.top ∧ p + f + c ≤ 255 ∧ x.page ≤ x.at j := by
  obtain ⟨p', f', c', e, hs, -, h1, h2⟩ := kC_hd (H := x.H) (j := j) hj
  rw [hh] at e
  simp only [Hdr.mk.injEq] at e
  have : p = p' ∧ f = f' ∧ c = c' := by omega
  obtain ⟨rfl, rfl, rfl⟩ := this
  unfold LaidC.at LaidC.top LaidC.k
  omega
theorem at_mono {i j : Nat} (h : i ≤ j) : x.at i ≤ x.at j := by unfold LaidC.at; have := szC_mono x.H h; omega
theorem hd_get {j : Nat} (hj : j < x.k) : ∃ p f c : Nat, hdC x.H j = ⟨p, f, c⟩ := by
  obtain ⟨p, f, c, e, -⟩ := kC_hd (H := x.H) (j := j) hj
  exact ⟨p, f, c, e⟩
theorem laid_obj (hok : VmOk v0) (hl : ∀ a : Nat, x.page ≤ a → a < x.top → v0.ldE a = 0) {k : Nat} (hk : k ≤ x.k) : LaidIn x v0 (objC x.page x.H v0 k).1 k ∧ InF x k (objC x.page x.H v0 k).2.2 := by
  induction k with
  | zero => exact ⟨⟨Stays.refl hok, fun j hj => absurd hj (Nat.not_lt_zero _), fun j hj => absurd hj (Nat.not_lt_zero _)⟩, fun a ha => by cases ha⟩
  | succ k ih =>
    obtain ⟨h1, h2⟩ := ih (by omega)
    obtain ⟨p, f, c, e⟩ := hd_get (x := x) (j := k) (by omega)
    obtain ⟨n1, n2, n3, n4⟩ := at_next (x := x) (by omega) e
    have hp := x.page_pos
    have hN : (hdrN (hdC x.H k)).toNat - 1 = p + f + c := by rw [e, show hdrN ⟨p, f, c⟩ = 1 + (p : Int) + f + c from if_pos (hdrE_of n3)]; omega
    have hlm : ∀ j : Nat, j ≤ p + f + c → v0.ldE (((x.at k : Nat) : Int) + j) = 0 := fun j hj => by
      have := hl (x.at k + j) (by omega) (by omega)
      rw [← this]; congr 1
    have hmk := mkVm_all (v := (objC x.page x.H v0 k).1) h1.st.ok (t := x.at k) (by omega) n3 (fun j hj => by rw [h1.st.sm.ldE]; exact hlm j hj)
    have hsm := h1.st.mkVm ((x.at k : Nat) : Int) ⟨p, f, c⟩
    have hE : objC x.page x.H v0 (k + 1) = fldC (x.at k) p (mkVm (objC x.page x.H v0 k).1 ((x.at k : Nat) : Int) ⟨p, f, c⟩, (objC x.page x.H v0 k).2) (p + f + c) := by
      show fldC (x.page + szC x.H k) (hdC x.H k).p.toNat (mkVm (objC x.page x.H v0 k).1 ((x.page + szC x.H k : Nat) : Int) (hdC x.H k), (objC x.page x.H v0 k).2) ((hdrN (hdC x.H k)).toNat - 1) = _
      rw [hN, e]
      rfl
    have hst := (hsm.fldC (s := (mkVm (objC x.page x.H v0 k).1 ((x.at k : Nat) : Int) ⟨p, f, c⟩, (objC x.page x.H v0 k).2)) (x.at k) p (p + f + c)).1
    have hfl := fldC_ldV (x.at k) p (s := (mkVm (objC x.page x.H v0 k).1 ((x.at k : Nat) : Int) ⟨p, f, c⟩, (objC x.page x.H v0 k).2)) hsm (p + f + c) (fun j hj => by
      have := hlm (j + 1) (by omega)
      rw [← this]; congr 1; omega)
    have hF := fldC_F (x.at k) p (mkVm (objC x.page x.H v0 k).1 ((x.at k : Nat) : Int) ⟨p, f, c⟩, (objC x.page x.H v0 k).2) (p + f + c)
    rw [hE]
    refine ⟨⟨hst, fun j hj p' f' c' hh => ?_, fun j hj p' f' c' hh m hm => ?_⟩, fun a ha => ?_⟩
    · rcases Nat.lt_or_ge j k with hjk | hjk
      · have hmo := at_mono (x := x) (i := j + 1) (j := k) (by omega)
        have hnx := at_next (x := x) (by omega) hh
        rw [hfl _ (by omega), hmk.2, if_neg (by omega), if_neg (by omega)]
        exact h1.hd j hjk p' f' c' hh
      · obtain rfl : j = k := by omega
        rw [e] at hh
        simp only [Hdr.mk.injEq] at hh
        have : p = p' ∧ f = f' ∧ c = c' := by omega
        obtain ⟨rfl, rfl, rfl⟩ := this
        rw [hfl _ (by omega), hmk.2, if_pos rfl]
    · rcases Nat.lt_or_ge j k with hjk | hjk
      · have hmo := at_mono (x := x) (i := j + 1) (j := k) (by omega)
        have hnx := at_next (x := x) (by omega) hh
        rw [hfl _ (by omega), hmk.2, if_neg (by omega), if_neg (by omega)]
        exact h1.pt j hjk p' f' c' hh m hm
      · obtain rfl : j = k := by omega
        rw [e] at hh
        simp only [Hdr.mk.injEq] at hh
        have : p = p' ∧ f = f' ∧ c = c' := by omega
        obtain ⟨rfl, rfl, rfl⟩ := this
        rw [hfl _ (by omega), hmk.2, if_neg (by omega), if_pos (by omega)]
        exact .inl rfl
    · rcases hF a ha with h | ⟨j, hj1, hj2, rfl⟩
      · obtain ⟨j, hj, r⟩ := h2 a h
        exact ⟨j, by omega, r⟩
      · exact ⟨k, Nat.lt_succ_self k, p, f, c, j, e, hj2, rfl⟩
theorem laid_ptr {F : List Int} {v : Vm} (hl : ∀ a : Nat, x.page ≤ a → a < x.top → v0.ldE a = 0) (h : LaidIn x v0 v x.k) (hF : InF x x.k F) (hne : F ≠ []) (n : Nat) : LaidIn x v0 (ptrC x F v n) x.k := by
  induction n with
  | zero => exact h
  | succ n ih =>
    have hlen : 0 < F.length := List.length_pos_iff.2 hne
    have hm : F.getD ((x.P.getD (2 * n) 0 + 2 * n) % F.length) 0 ∈ F := by
      have hlt := Nat.mod_lt (x.P.getD (2 * n) 0 + 2 * n) hlen
      rw [List.getD_eq_getElem?_getD, List.getElem?_eq_getElem hlt]
      exact List.getElem_mem hlt
    obtain ⟨j0, hj0, p0, f0, c0, m0, e0, hm0, ha0⟩ := hF _ hm
    obtain ⟨q1, q2, q3, q4⟩ := at_next (x := x) hj0 e0
    have hlv : (ptrC x F v n).ldE (F.getD ((x.P.getD (2 * n) 0 + 2 * n) % F.length) 0) = 0 := by
      rw [ih.st.sm.ldE, ha0]
      exact hl _ (by omega) (by omega)
    have hst := ih.st.ok.st_ldV (x.put (x.P.getD (2 * n + 1) 0)) hlv
    rw [ha0] at hst
    show LaidIn x v0 ((ptrC x F v n).st (F.getD ((x.P.getD (2 * n) 0 + 2 * n) % F.length) 0) (x.put (x.P.getD (2 * n + 1) 0))) x.k
    rw [ha0]
    refine ⟨ih.st.st _ (put_lt x _), fun j hj p f c hh => ?_, fun j hj p f c hh m hm => ?_⟩
    · rw [hst, if_neg]
      · exact ih.hd j hj p f c hh
      · intro e
        rcases Nat.lt_or_ge j0 j with h' | h'
        · have := at_mono (x := x) (i := j0 + 1) (j := j) (by omega); omega
        · have := at_mono (x := x) h'; omega
    · rw [hst]
      split
      · exact put_is x _
      · exact ih.pt j hj p f c hh m hm
/-- What a laid heap holds. -/
theorem laid_in (hok : VmOk v0) (hl : ∀ a : Nat, x.page ≤ a → a < x.top → v0.ldE a = 0) : LaidIn x v0 (layC x v0) x.k := by
  obtain ⟨h1, h2⟩ := laid_obj hok hl (Nat.le_refl x.k)
  unfold layC
  split
  · exact h1
  · rename_i hne
    exact laid_ptr hl h1 h2 hne _
/-- Its objects. -/
theorem LaidIn.ob {v : Vm} (hl : ∀ a : Nat, x.page ≤ a → a < x.top → v0.ldE a = 0) (h : LaidIn x v0 v x.k) {j : Nat} (hj : j < x.k) : ∃ p f c : Nat, hdC x.H j = ⟨p, f, c⟩ ∧ v.rdE ((x.at j : Nat) : Int) = 0 ∧ v.rdH ((x.at j : Nat) : Int) = ⟨p, f, c⟩ ∧ v.osz ((x.at j : Nat) : Int) = ((1 + p + f + c : Nat) : Int) := by
  obtain ⟨p, f, c, e⟩ := hd_get (x := x) hj
  obtain ⟨n1, n2, n3, n4⟩ := at_next (x := x) hj e
  have hp := x.page_pos
  have h0 : v.ldE ((x.at j : Nat) : Int) = 0 := by rw [h.st.sm.ldE]; exact hl _ n4 (by omega)
  have hv := h.hd j hj p f c e
  obtain ⟨t1, t2⟩ := tk_hdrW n3
  have hH : v.rdH ((x.at j : Nat) : Int) = ⟨p, f, c⟩ := by unfold Vm.rdH; rw [if_pos ⟨by omega, h0⟩, hv, t2]
  refine ⟨p, f, c, e, ?_, hH, ?_⟩
  · unfold Vm.rdE
    rw [if_neg (by omega), if_neg (by omega), if_pos h0, hv, t1]
  · unfold Vm.osz
    rw [hH, show hdrN ⟨p, f, c⟩ = 1 + (p : Int) + f + c from if_pos (hdrE_of n3)]
    push_cast; rfl
theorem LaidIn.ptr {v : Vm} (hl : ∀ a : Nat, x.page ≤ a → a < x.top → v0.ldE a = 0) (h : LaidIn x v0 v x.k) {j : Nat} (hj : j < x.k) {i : Nat} (hi : (i : Int) < (v.rdH ((x.at j : Nat) : Int)).p) : v.ptE ((x.at j : Nat) : Int) i = 0 ∧ IsPut x (v.ptV ((x.at j : Nat) : Int) i) := by
  obtain ⟨p, f, c, e, r1, r2, r3⟩ := h.ob hl hj
  obtain ⟨n1, n2, n3, n4⟩ := at_next (x := x) hj e
  have ht := x.top_le
  have hpp := x.page_pos
  rw [r2] at hi
  have hi : (i : Int) < (p : Int) := hi
  have h0 : v.ldE (((x.at j : Nat) : Int) + 1 + i) = 0 := by
    rw [h.st.sm.ldE, show ((x.at j : Nat) : Int) + 1 + i = ((x.at j + 1 + i : Nat) : Int) by omega]
    exact hl _ (by omega) (by omega)
  have hq := h.pt j hj p f c e i (by omega)
  rw [show ((x.at j + 1 + i : Nat) : Int) = ((x.at j : Nat) : Int) + 1 + i by omega] at hq
  have hle : v.ldV (((x.at j : Nat) : Int) + 1 + i) ≤ 2147483647 := by
    rcases hq with hq | ⟨j', hj', hq⟩
    · omega
    · obtain ⟨p', f', c', e'⟩ := hd_get (x := x) hj'
      have := at_next (x := x) hj' e'
      omega
  have hpt := ptE_of (v := v) (a := ((x.at j : Nat) : Int)) (i := i) r1 (by rw [r2]; exact hi) h0 hle
  exact ⟨hpt.1, by rw [(ptV_of hpt.1).1]; exact hq⟩
theorem rs_put {r : Int} (hr : r ∈ x.rs) : ∃ y : Nat, r = y ∧ IsPut x y := by
  unfold LaidC.rs LaidC.rsN at hr
  obtain ⟨i, -, rfl⟩ := List.mem_map.1 hr
  split
  · exact ⟨_, rfl, put_is x _⟩
  · exact ⟨0, rfl, .inl rfl⟩
/-- What the roots reach are objects that were laid. -/
theorem LaidIn.rch {v : Vm} (hl : ∀ a : Nat, x.page ≤ a → a < x.top → v0.ldE a = 0) (h : LaidIn x v0 v x.k) {a : Int} (ha : Rch v x.rs a) : ∃ j, j < x.k ∧ a = ((x.at j : Nat) : Int) := by
  refine ha (fun a => ∃ j, j < x.k ∧ a = ((x.at j : Nat) : Int)) (fun r hr h0 => ?_) ?_
  · obtain ⟨y, rfl, hy | ⟨j, hj, hy⟩⟩ := rs_put hr
    · exact absurd (by rw [hy]; rfl) h0
    · exact ⟨j, hj, by rw [hy]⟩
  · rintro a b ⟨j, hj, rfl⟩ ⟨-, i, hi, -, h1, rfl⟩
    rcases (h.ptr hl hj hi).2 with h2 | ⟨j', hj', h2⟩
    · exact absurd h2 h1
    · exact ⟨j', hj', by rw [h2]⟩
theorem LaidIn.sound {v : Vm} (hl : ∀ a : Nat, x.page ≤ a → a < x.top → v0.ldE a = 0) (h : LaidIn x v0 v x.k) : Sound v x.rs x.n := by
  have ht := x.top_le
  refine ⟨fun a ha => ?_, fun a ha i hi => ?_, fun a ha => ?_, fun a b ha hb => ?_⟩
  · obtain ⟨j, hj, rfl⟩ := h.rch hl ha
    obtain ⟨p, f, c, -, r, -⟩ := h.ob hl hj
    exact r
  · obtain ⟨j, hj, rfl⟩ := h.rch hl ha
    exact (h.ptr hl hj hi).1
  · obtain ⟨j, hj, rfl⟩ := h.rch hl ha
    obtain ⟨p, f, c, e, -, -, r⟩ := h.ob hl hj
    have := at_next (x := x) hj e
    unfold LaidC.n
    omega
  · obtain ⟨j, hj, rfl⟩ := h.rch hl ha
    obtain ⟨j', hj', rfl⟩ := h.rch hl hb
    obtain ⟨p, f, c, e, -, -, r⟩ := h.ob hl hj
    obtain ⟨p', f', c', e', -, -, r'⟩ := h.ob hl hj'
    have n1 := at_next (x := x) hj e
    have n2 := at_next (x := x) hj' e'
    rcases Nat.lt_trichotomy j j' with h1 | rfl | h1
    · have := at_mono (x := x) (i := j + 1) (j := j') (by omega); right; left; omega
    · exact .inl rfl
    · have := at_mono (x := x) (i := j' + 1) (j := j) (by omega); right; right; omega
/-- Objects that lie apart in a run have no more words than it. -/
theorem sizes_run {n : Nat} {L : List Ob} (hg : Good n L) {lo hi : Nat} (h : ∀ o ∈ L, lo ≤ o.1 ∧ o.1 + o.2 ≤ hi) (hlh : lo ≤ hi) : sizes L + lo ≤ hi := by
  have key : ∀ (L : List Ob), L.Pairwise (fun o q => o.1 + o.2 ≤ q.1) → ∀ lo, lo ≤ hi → (∀ o ∈ L, lo ≤ o.1 ∧ o.1 + o.2 ≤ hi) → sizes L + lo ≤ hi := by
    intro L
    induction L with
    | nil => intro _ lo h1 _; simpa [sizes] using h1
    | cons o r ih =>
      intro hp lo h1 h2
      obtain ⟨p1, p2⟩ := List.pairwise_cons.1 hp
      have ho := h2 o (List.mem_cons_self ..)
      have := ih p2 (o.1 + o.2) ho.2 (fun q hq => ⟨p1 q hq, (h2 q (List.mem_cons_of_mem _ hq)).2⟩)
      simp only [sizes]
      omega
  exact key L (List.pairwise_iff_getElem.2 fun i j hi hj hij => hg.at hi hj hij) lo hlh h
theorem LaidIn.marks {v : Vm} (hl : ∀ a : Nat, x.page ≤ a → a < x.top → v0.ldE a = 0) (h : LaidIn x v0 v x.k) {L : List Ob} (hM : Marks v x.rs x.n L) : (∀ o ∈ L, x.page ≤ o.1 ∧ o.1 + o.2 ≤ x.top) ∧ sizes L ≤ 512 ∧ FullOb v L := by
  have ht := x.top_le
  have hin : ∀ o ∈ L, x.page ≤ o.1 ∧ o.1 + o.2 ≤ x.top := fun o ho => by
    obtain ⟨h1, h2, h3⟩ := hM.mkd.ats o ho
    obtain ⟨j, hj, e⟩ := h.rch hl h1
    obtain ⟨p, f, c, e', -, -, r⟩ := h.ob hl hj
    have := at_next (x := x) hj e'
    rw [e, r] at h3
    omega
  refine ⟨hin, ?_, fun o ho m hm => ?_⟩
  · have := sizes_run hM.mkd.good hin ht.1
    omega
  · have := hin o ho
    rw [h.st.sm.ldE, show (o.1 : Int) + m = ((o.1 + m : Nat) : Int) by omega]
    exact hl _ (by omega) (by omega)
end
end Go.Proofs.YtbmidhlilafgeaaGreatDoor
