/- Package copying: the plain law. Package copying: the plain law, the steps. Package copying: the plain law, pages mapped ahead and unmapped behind. -/
import Derived.Test.YtbmidhlilafgeaaGreatDoorMarkP
import Derived.Test.YtbmidhlilafgeaaGreatDoorKM3
section
namespace Go.Proofs.YtbmidhlilafgeaaGreatDoor
open Go.RowKit Word

/-- The words of some objects. -/
def sumC (v : Vm) : List Int → Int
  | [] => 0
  | a :: r => v.osz a + sumC v r
/-- Where an object goes that is one of some, laid from t on. -/
def wentC (v : Vm) : List Int → Int → Int → Int
  | [], _, _ => 0
  | b :: r, t, a => if b = a then t else wentC v r (t + v.osz b) a
theorem osz_nonneg (v : Vm) (a : Int) : 0 ≤ v.osz a := by
  unfold Vm.osz hdrN
  split
  · rename_i h
    obtain ⟨p, f, k, e, hs⟩ := hdrE_zero h
    rw [e]
    show (0 : Int) ≤ 1 + (p : Int) + f + k
    omega
  · exact Int.le_refl 0
theorem sumC_append (v : Vm) (O P : List Int) : sumC v (O ++ P) = sumC v O + sumC v P := by
  induction O with
  | nil => simp [sumC]
  | cons a r ih => simp only [List.cons_append, sumC, ih]; omega
theorem sumC_nonneg (v : Vm) (O : List Int) : 0 ≤ sumC v O := by
  induction O with
  | nil => simp [sumC]
  | cons a r ih => have := osz_nonneg v a; simp only [sumC]; omega
theorem sumC_take (v : Vm) {O : List Int} {j : Nat} (hj : j < O.length) : sumC v (O.take (j + 1)) = sumC v (O.take j) + v.osz O[j] := by
  rw [List.take_add_one, List.getElem?_eq_getElem hj, sumC_append]
  simp [sumC]
theorem sumC_take_le (v : Vm) (O : List Int) {i j : Nat} (h : i ≤ j) : sumC v (O.take i) ≤ sumC v (O.take j) := by
  have e : O.take j = O.take i ++ (O.take j).drop i := by
    conv => lhs; rw [← List.take_append_drop i (O.take j)]
    rw [List.take_take, Nat.min_eq_left h]
  rw [e, sumC_append]
  have := sumC_nonneg v ((O.take j).drop i)
  omega
theorem sumC_take_all (v : Vm) (O : List Int) (j : Nat) : sumC v (O.take j) ≤ sumC v O := by
  have := sumC_nonneg v (O.drop j)
  have e := sumC_append v (O.take j) (O.drop j)
  rw [List.take_append_drop] at e
  omega
theorem wentC_left (v : Vm) {O : List Int} (P : List Int) (t : Int) {a : Int} (h : a ∈ O) : wentC v (O ++ P) t a = wentC v O t a := by
  induction O generalizing t with
  | nil => cases h
  | cons b r ih =>
    simp only [List.cons_append, wentC]
    split
    · rfl
    · rename_i hb
      exact ih _ ((List.mem_cons.1 h).resolve_left (fun e => hb e.symm))
theorem wentC_right (v : Vm) {O : List Int} (P : List Int) (t : Int) {a : Int} (h : a ∉ O) : wentC v (O ++ P) t a = wentC v P (t + sumC v O) a := by
  induction O generalizing t with
  | nil => simp [sumC]
  | cons b r ih =>
    have hb : ¬ b = a := fun e => h (by rw [e]; exact List.mem_cons_self ..)
    simp only [List.cons_append, wentC, sumC, if_neg hb]
    rw [ih _ (fun h' => h (List.mem_cons_of_mem _ h'))]
    congr 1
    omega
theorem wentC_none (v : Vm) {O : List Int} (t : Int) {a : Int} (h : a ∉ O) : wentC v O t a = 0 := by
  have := wentC_right v [] t h
  rw [List.append_nil] at this
  rw [this]
  rfl
theorem wentC_at (v : Vm) {O : List Int} (hn : O.Nodup) (t : Int) {j : Nat} (hj : j < O.length) : wentC v O t O[j] = t + sumC v (O.take j) := by
  have e : O = O.take j ++ O[j] :: O.drop (j + 1) := by
    conv => lhs; rw [← List.take_append_drop j O, List.drop_eq_getElem_cons hj]
  have hnot : O[j] ∉ O.take j := by
    intro hm
    obtain ⟨i, hi, he⟩ := List.getElem_of_mem hm
    rw [List.length_take] at hi
    rw [List.getElem_take] at he
    have := (List.getElem_inj hn).1 he
    omega
  have h := wentC_right v (O[j] :: O.drop (j + 1)) t hnot
  refine (congrArg (fun X => wentC v X t O[j]) e).trans (h.trans ?_)
  rw [wentC, if_pos rfl]
theorem wentC_in (v : Vm) {O : List Int} (t : Int) {a : Int} (h : a ∈ O) : t ≤ wentC v O t a ∧ wentC v O t a + v.osz a ≤ t + sumC v O := by
  induction O generalizing t with
  | nil => cases h
  | cons b r ih =>
    have h1 := sumC_nonneg v r
    have h2 := osz_nonneg v b
    simp only [wentC, sumC]
    split
    · rename_i e; subst e; omega
    · rename_i hb
      have := ih (t + v.osz b) ((List.mem_cons.1 h).resolve_left (fun e => hb e.symm))
      omega
/-- One more object that is met. -/
def addC (O : List Int) (a : Int) : List Int := if a = 0 ∨ a ∈ O then O else O ++ [a]
def addsC (O l : List Int) : List Int := l.foldl addC O
theorem addC_ext (O : List Int) (a : Int) : ∃ X, addC O a = O ++ X := by
  unfold addC
  split
  · exact ⟨[], (List.append_nil _).symm⟩
  · exact ⟨[a], rfl⟩
theorem addsC_ext (O l : List Int) : ∃ X, addsC O l = O ++ X := by
  induction l generalizing O with
  | nil => exact ⟨[], (List.append_nil _).symm⟩
  | cons a r ih =>
    obtain ⟨X, hX⟩ := addC_ext O a
    obtain ⟨Y, hY⟩ := ih (addC O a)
    exact ⟨X ++ Y, by show addsC (addC O a) r = _; rw [hY, hX, List.append_assoc]⟩
theorem addsC_snoc (O l : List Int) (a : Int) : addsC O (l ++ [a]) = addC (addsC O l) a := by unfold addsC; rw [List.foldl_append]; rfl
theorem mem_addC {O : List Int} {a b : Int} : b ∈ addC O a ↔ b ∈ O ∨ (b = a ∧ a ≠ 0) := by
  unfold addC
  split
  · rename_i h
    constructor
    · exact .inl
    · rintro (h' | ⟨rfl, h0⟩)
      · exact h'
      · exact h.resolve_left h0
  · rename_i h
    rw [List.mem_append, List.mem_singleton]
    constructor
    · rintro (h' | rfl)
      · exact .inl h'
      · exact .inr ⟨rfl, fun h0 => h (.inl h0)⟩
    · rintro (h' | ⟨rfl, -⟩)
      · exact .inl h'
      · exact .inr rfl
theorem mem_addsC {O l : List Int} {b : Int} : b ∈ addsC O l ↔ b ∈ O ∨ (b ∈ l ∧ b ≠ 0) := by
  induction l generalizing O with
  | nil => simp [addsC]
  | cons a r ih =>
    show b ∈ addsC (addC O a) r ↔ _
    rw [ih, mem_addC, List.mem_cons]
    constructor
    · rintro ((h | ⟨rfl, h⟩) | ⟨h, h0⟩)
      · exact .inl h
      · exact .inr ⟨.inl rfl, h⟩
      · exact .inr ⟨.inr h, h0⟩
    · rintro (h | ⟨rfl | h, h0⟩)
      · exact .inl (.inl h)
      · exact .inl (.inr ⟨rfl, h0⟩)
      · exact .inr ⟨h, h0⟩
theorem addC_nodup {O : List Int} (h : O.Nodup) (a : Int) : (addC O a).Nodup := by
  unfold addC
  split
  · exact h
  · rename_i hn
    rw [List.nodup_append]
    refine ⟨h, by simp, fun x hx y hy e => ?_⟩
    rw [List.mem_singleton] at hy
    exact hn (.inr (by rw [← hy, ← e]; exact hx))
theorem addsC_nodup {O : List Int} (h : O.Nodup) (l : List Int) : (addsC O l).Nodup := by
  induction l generalizing O with
  | nil => exact h
  | cons a r ih => exact ih (addC_nodup h a)
/-- An object's pointers. -/
def ptsC (v : Vm) (a : Int) : List Int := (List.range (v.rdH a).p.toNat).map fun i : Nat => (v.ldV (a + 1 + i) : Int)
theorem ptsC_len (v : Vm) (a : Int) : (ptsC v a).length = (v.rdH a).p.toNat := by unfold ptsC; simp
theorem ptsC_at (v : Vm) (a : Int) {i : Nat} (hi : i < (ptsC v a).length) : (ptsC v a)[i] = (v.ldV (a + 1 + i) : Int) := by simp only [ptsC, List.getElem_map, List.getElem_range]
/-- The objects that are met, behind k turned ones. -/
def ordC (v : Vm) (rs : List Int) : Nat → List Int
  | 0 => addsC [] rs
  | k + 1 => if k < (ordC v rs k).length then addsC (ordC v rs k) (ptsC v ((ordC v rs k).getD k 0)) else ordC v rs k
theorem ordC_nodup (v : Vm) (rs : List Int) (k : Nat) : (ordC v rs k).Nodup := by
  induction k with
  | zero => exact addsC_nodup List.nodup_nil _
  | succ k ih => unfold ordC; split; exact addsC_nodup ih _; exact ih
/-- The same pages. -/
structure SamePg (v v' : Vm) : Prop where
  n : v'.n = v.n
  pt : v'.pt = v.pt
  pg : v'.pl.pg = v.pl.pg
  rm : v'.pl.rm = v.pl.rm
theorem SamePg.refl (v : Vm) : SamePg v v := ⟨rfl, rfl, rfl, rfl⟩
theorem SamePg.trans {a b c : Vm} (h : SamePg a b) (k : SamePg b c) : SamePg a c := ⟨k.n.trans h.n, k.pt.trans h.pt, k.pg.trans h.pg, k.rm.trans h.rm⟩
theorem SamePg.st (v : Vm) (a : Int) (x : Nat) : SamePg v (v.st a x) := by
  unfold Vm.st
  split
  · exact ⟨rfl, rfl, rfl, rfl⟩
  · exact SamePg.refl v
theorem SamePg.ldE {v v' : Vm} (h : SamePg v v') (a : Int) : v'.ldE a = v.ldE a := by unfold Vm.ldE; rw [h.n, h.pt, h.pg]
/-- n words copied. -/
def cpV (u : Vm) (a t : Int) : Nat → Vm
  | 0 => u
  | m + 1 => (cpV u a t m).st (t + m) (u.ldV (a + m))
theorem cpV_same (u : Vm) (a t : Int) (n : Nat) : SamePg u (cpV u a t n) := by
  induction n with
  | zero => exact SamePg.refl u
  | succ m ih => exact ih.trans (SamePg.st _ _ _)
theorem cpV_ok {u : Vm} (h : VmOk u) (a t : Int) (n : Nat) : VmOk (cpV u a t n) := by
  induction n with
  | zero => exact h
  | succ m ih => exact ih.st _ (h.ldV_lt _)
theorem cpV_ldV {u : Vm} (h : VmOk u) (a t : Int) {n : Nat} (hm : ∀ m : Nat, m < n → u.ldE (t + m) = 0) (b : Int) : (cpV u a t n).ldV b = if t ≤ b ∧ b < t + n then u.ldV (a + (b - t)) else u.ldV b := by
  induction n with
  | zero => rw [if_neg (by omega)]; rfl
  | succ m ih =>
    show ((cpV u a t m).st (t + m) (u.ldV (a + m))).ldV b = _
    rw [(cpV_ok h a t m).st_ldV _ (by rw [(cpV_same u a t m).ldE]; exact hm m (Nat.lt_succ_self m)), ih (fun j hj => hm j (by omega))]
    by_cases h1 : t + (m : Int) = b
    · rw [if_pos h1, if_pos (by omega)]
      congr 2
      omega
    · rw [if_neg h1]
      by_cases h2 : t ≤ b ∧ b < t + m
      · rw [if_pos h2, if_pos (by omega)]
      · rw [if_neg h2, if_neg (by omega)]
/-- What copying finds: the objects lie in their run, apart from where they go. -/
structure CopyCtx (v : Vm) (rs : List Int) (L : List Ob) (to : Nat) : Prop where
  ok : VmOk v
  mks : Marks v rs v.n L
  pos : 0 < to
  ap : ∀ o ∈ L, o.1 + o.2 ≤ to ∨ to + sizes L ≤ o.1
  map : ∀ a : Nat, to ≤ a → a < to + sizes L → v.ldE a = 0
  top : to + sizes L ≤ v.n
/-- Is a word of the j-th object turned? -/
def Trn (v : Vm) (O : List Int) (k i j m : Nat) : Prop := 1 ≤ m ∧ ((j < k ∧ (m : Int) ≤ (v.rdH (O.getD j 0)).p) ∨ (j = k ∧ m ≤ i))
/-- The memory, some objects copied, k of them and i pointers turned. -/
structure Cpd (v v' : Vm) (to : Nat) (O : List Int) (k i : Nat) : Prop where
  ok : VmOk v'
  sm : SamePg v v'
  out : ∀ a : Int, ¬ (to ≤ a ∧ a < to + sumC v O) → v'.ldV a = v.ldV a
  raw : ∀ j (hj : j < O.length) (m : Nat), (m : Int) < v.osz O[j] → ¬ Trn v O k i j m → v'.ldV (to + sumC v (O.take j) + m) = v.ldV (O[j] + m)
  trn : ∀ j (hj : j < O.length) (m : Nat), (m : Int) < v.osz O[j] → Trn v O k i j m → (v'.ldV (to + sumC v (O.take j) + m) : Int) = wentC v O to (v.ldV (O[j] + m))
theorem Cpd.nil {v : Vm} (h : VmOk v) (to : Nat) : Cpd v v to [] 0 0 := ⟨h, SamePg.refl v, fun _ _ => rfl, fun _ h => absurd h (Nat.not_lt_zero _), fun _ h => absurd h (Nat.not_lt_zero _)⟩
theorem hdr_p {v : Vm} {a : Int} (h : v.rdE a = 0) : 0 ≤ (v.rdH a).p ∧ (v.rdH a).p < v.osz a := by
  obtain ⟨-, -, p, f, k, e, hs⟩ := rdE_zero h
  unfold Vm.osz
  rw [e, show hdrN ⟨p, f, k⟩ = 1 + (p : Int) + f + k from if_pos (hdrE_of hs)]
  show (0 : Int) ≤ (p : Int) ∧ (p : Int) < _
  omega
/-- Numbers that are all objects, each once, have no more words than these. -/
theorem sum_le {v : Vm} {L : List Ob} (hz : ∀ o ∈ L, (o.2 : Int) = v.osz o.1) {O : List Int} (hn : O.Nodup) (h : ∀ a ∈ O, Hs L a) : sumC v O ≤ sizes L := by
  induction L generalizing O with
  | nil =>
    cases O with
    | nil => exact Int.le_refl _
    | cons a r => obtain ⟨o, ho, -⟩ := h a (List.mem_cons_self ..); cases ho
  | cons o r ih =>
    have h1 := ih (fun q hq => hz q (List.mem_cons_of_mem _ hq)) (hn.erase (o.1 : Int)) (fun a ha => by
      have hm := (hn.mem_erase_iff).1 ha
      obtain ⟨q, hq, e⟩ := h a hm.2
      rcases List.mem_cons.1 hq with rfl | hq
      · exact absurd e.symm hm.1
      · exact ⟨q, hq, e⟩)
    have h2 : sumC v O ≤ sumC v (O.erase (o.1 : Int)) + v.osz o.1 := by
      clear ih h1 h hn
      induction O with
      | nil => have := osz_nonneg v o.1; simp [sumC]; omega
      | cons a s ih =>
        rw [List.erase_cons]
        by_cases e : a = (o.1 : Int)
        · rw [if_pos (by simpa using e), e]; simp only [sumC]; omega
        · rw [if_neg (by simpa using e)]; simp only [sumC]; omega
    have h3 := hz o (List.mem_cons_self ..)
    simp only [sizes]
    omega
theorem sum_ge {v : Vm} {L : List Ob} (hz : ∀ o ∈ L, (o.2 : Int) = v.osz o.1) (hp : L.Pairwise (fun o q => o.1 < q.1)) {O : List Int} (h : ∀ o ∈ L, (o.1 : Int) ∈ O) : (sizes L : Int) ≤ sumC v O := by
  induction L generalizing O with
  | nil => exact sumC_nonneg v O
  | cons o r ih =>
    have h1 := ih (O := O.erase (o.1 : Int)) (fun q hq => hz q (List.mem_cons_of_mem _ hq)) (List.pairwise_cons.1 hp).2 (fun q hq => by
      have := (List.pairwise_cons.1 hp).1 q hq
      exact (List.mem_erase_of_ne (by omega)).2 (h q (List.mem_cons_of_mem _ hq)))
    have h2 : sumC v (O.erase (o.1 : Int)) + v.osz o.1 ≤ sumC v O := by
      have hm := h o (List.mem_cons_self ..)
      clear ih h1 h hp
      induction O with
      | nil => cases hm
      | cons a s ih =>
        rw [List.erase_cons]
        by_cases e : a = (o.1 : Int)
        · rw [if_pos (by simpa using e), e]; simp only [sumC]; omega
        · have := ih ((List.mem_cons.1 hm).resolve_left (fun e' => e e'.symm))
          rw [if_neg (by simpa using e)]; simp only [sumC]; omega
    have h3 := hz o (List.mem_cons_self ..)
    simp only [sizes]
    omega
end Go.Proofs.YtbmidhlilafgeaaGreatDoor
end

section
namespace Go.Proofs.YtbmidhlilafgeaaGreatDoor
open Go.RowKit Word

theorem ptV_of {v : Vm} {a i : Int} (h : v.ptE a i = 0) : v.ptV a i = v.ldV (a + 1 + i) ∧ v.ldV (a + 1 + i) ≤ 2147483647 ∧ v.ldE (a + 1 + i) = 0 ∧ v.plE a i 1 = 0 := by
  have e1 : v.ptV a i = v.gtV a i 1 := if_pos h
  unfold Vm.ptE at h
  split at h
  · rename_i hg; exact absurd h hg
  · rename_i hg
    have hg := Decidable.not_not.1 hg
    split at h
    · cases h
    · rename_i hm
      unfold Vm.gtE at hg
      split at hg
      · rename_i hp; exact absurd hg hp
      · rename_i hp
        have e2 : v.gtV a i 1 = v.ldV (a + 1 + i) := if_neg hp
        exact ⟨e1.trans e2, by omega, hg, Decidable.not_not.1 hp⟩
theorem kind_ptr {h : Hdr} {i : Int} (h0 : 0 ≤ i) (h1 : i < h.p) (h2 : h.p < hdrN h) : kindOf h i = 1 := by
  unfold kindOf
  rw [if_pos (by omega), if_pos h1]
theorem ptE_of {v : Vm} {a : Int} {i : Nat} (hr : v.rdE a = 0) (hi : (i : Int) < (v.rdH a).p) (hl : v.ldE (a + 1 + i) = 0) (hv : v.ldV (a + 1 + i) ≤ 2147483647) : v.ptE a i = 0 ∧ v.plE a i 1 = 0 := by
  have hk : v.plE a i 1 = 0 := by
    unfold Vm.plE
    rw [if_neg (by omega), if_pos (kind_ptr (by omega) hi (hdr_p hr).2)]
  refine ⟨?_, hk⟩
  have hg : v.gtE a i 1 = 0 := by unfold Vm.gtE; rw [if_neg (by omega)]; exact hl
  unfold Vm.ptE
  rw [if_neg (by omega)]
  have e2 : v.gtV a i 1 = v.ldV (a + 1 + i) := if_neg (by omega)
  rw [e2, if_neg (by omega)]
/-- All words of the objects can be loaded. -/
def FullOb (v : Vm) (L : List Ob) : Prop := ∀ o ∈ L, ∀ m : Nat, m < o.2 → v.ldE (o.1 + m) = 0
section
variable {v v' : Vm} {rs : List Int} {L : List Ob} {to : Nat} {O : List Int} {k i : Nat}
theorem CopyCtx.ob (c : CopyCtx v rs L to) {a : Int} (ha : Rch v rs a) : ∃ o ∈ L, (o.1 : Int) = a ∧ (o.2 : Int) = v.osz a := by
  obtain ⟨o, ho, rfl⟩ := c.mks.all a ha
  exact ⟨o, ho, rfl, (c.mks.mkd.ats o ho).2.2⟩
theorem CopyCtx.sum (c : CopyCtx v rs L to) (hn : O.Nodup) (hR : ∀ a ∈ O, Rch v rs a) : sumC v O ≤ sizes L :=
  sum_le (fun o ho => (c.mks.mkd.ats o ho).2.2) hn (fun a ha => c.mks.all a (hR a ha))
/-- What an object that is reached looks like while copying goes on. -/
theorem CopyCtx.same (c : CopyCtx v rs L to) (hf : FullOb v L) (hn : O.Nodup) (hR : ∀ a ∈ O, Rch v rs a) (h : Cpd v v' to O k i) {a : Int} (ha : Rch v rs a) :
    0 < a ∧ v'.rdE a = 0 ∧ v'.rdH a = v.rdH a ∧ ∀ m : Nat, (m : Int) < v.osz a → v'.ldE (a + m) = 0 ∧ v'.ldV (a + m) = v.ldV (a + m) := by
  obtain ⟨o, ho, rfl, hz⟩ := c.ob ha
  have hs := c.sum hn hR
  have hap := c.ap o ho
  have hrd := c.mks.sound.rd _ ha
  have hp := osz_pos hrd
  have hm : ∀ m : Nat, (m : Int) < v.osz o.1 → v'.ldE (o.1 + m) = 0 ∧ v'.ldV (o.1 + m) = v.ldV (o.1 + m) := fun m hm =>
    ⟨by rw [h.sm.ldE]; exact hf o ho m (by omega), h.out _ (by omega)⟩
  have h0 := hm 0 (by omega)
  rw [show (o.1 : Int) + (0 : Nat) = o.1 by omega] at h0
  refine ⟨hp.1, ?_, ?_, hm⟩
  · unfold Vm.rdE at hrd ⊢
    rw [h0.2, h.sm.ldE]
    exact hrd
  · unfold Vm.rdH
    rw [h0.2, h.sm.ldE]
theorem Trn.ext {X : List Int} {j m : Nat} (hj : j < O.length) : Trn v (O ++ X) k i j m ↔ Trn v O k i j m := by
  unfold Trn
  rw [List.getD_eq_getElem?_getD, List.getD_eq_getElem?_getD, List.getElem?_append_left hj]
/-- A word's place is one object's. -/
theorem place_inj (v : Vm) {O : List Int} {j j' m m' : Nat} (hj : j < O.length) (hj' : j' < O.length) (hm : (m : Int) < v.osz O[j]) (hm' : (m' : Int) < v.osz O[j']) (h : sumC v (O.take j) + m = sumC v (O.take j') + m') : j = j' ∧ m = m' := by
  rcases Nat.lt_trichotomy j j' with h1 | rfl | h1
  · have e := sumC_take v hj
    have := sumC_take_le v O (i := j + 1) (j := j') (by omega)
    omega
  · exact ⟨rfl, by omega⟩
  · have e := sumC_take v hj'
    have := sumC_take_le v O (i := j' + 1) (j := j) (by omega)
    omega
theorem place_lt (v : Vm) {O : List Int} {j m : Nat} (hj : j < O.length) (hm : (m : Int) < v.osz O[j]) : sumC v (O.take j) + m < sumC v O := by
  have e := sumC_take v hj
  have := sumC_take_all v O (j + 1)
  omega
/-- The pointers that are known stay where they go. -/
def Known (v : Vm) (O : List Int) (k i : Nat) : Prop := ∀ j (hj : j < O.length) (m : Nat), (m : Int) < v.osz O[j] → Trn v O k i j m → (v.ldV (O[j] + m) : Int) = 0 ∨ (v.ldV (O[j] + m) : Int) ∈ O
theorem wentC_ext (v : Vm) {O : List Int} (X : List Int) (t : Int) {a : Int} (h0 : (0 : Int) ∉ O ++ X) (h : a = 0 ∨ a ∈ O) : wentC v (O ++ X) t a = wentC v O t a := by
  rcases h with rfl | h
  · rw [wentC_none v t h0, wentC_none v t (fun h => h0 (List.mem_append_left _ h))]
  · exact wentC_left v X t h
/-- One more object is copied. -/
theorem Cpd.take (c : CopyCtx v rs L to) (hf : FullOb v L) (hn : O.Nodup) (hR : ∀ a ∈ O, Rch v rs a) (h : Cpd v v' to O k i) (hK : Known v O k i) (hk : k < O.length ∨ (k = O.length ∧ i = 0)) {a : Int} (ha : Rch v rs a) (hna : a ∉ O) (z : Nat) (hz : (z : Int) = v.osz a) :
    (∀ m : Nat, m < z → v'.ldE (to + sumC v O + m) = 0) ∧ (to : Int) + sumC v O + z ≤ v.n ∧ Cpd v (cpV v' a (to + sumC v O) z) to (O ++ [a]) k i ∧ Known v (O ++ [a]) k i := by
  have hn' : (O ++ [a]).Nodup := by
    rw [List.nodup_append]
    exact ⟨hn, by simp, fun x hx y hy e => hna (by rw [List.mem_singleton] at hy; rw [← hy, ← e]; exact hx)⟩
  have hR' : ∀ b ∈ O ++ [a], Rch v rs b := fun b hb => by
    rcases List.mem_append.1 hb with hb | hb
    · exact hR b hb
    · rw [List.mem_singleton] at hb; rw [hb]; exact ha
  have hs := c.sum hn' hR'
  have h0s := sumC_nonneg v O
  have hsa : sumC v (O ++ [a]) = sumC v O + v.osz a := by rw [sumC_append]; simp [sumC]
  have hmp : ∀ m : Nat, m < z → v'.ldE (to + sumC v O + m) = 0 := fun m hm => by
    rw [h.sm.ldE]
    have := c.map (to + (sumC v O).toNat + m) (by omega) (by omega)
    rw [← this]
    congr 1
    omega
  have htop := c.top
  have hsm := (c.same hf hn hR h ha).2.2.2
  have h00 : (0 : Int) ∉ O ++ [a] := fun hm => by
    have := (osz_pos (c.mks.sound.rd _ (hR' 0 hm))).1
    omega
  have hcp := cpV_ldV h.ok a (to + sumC v O) hmp
  refine ⟨hmp, by omega, ⟨cpV_ok h.ok _ _ _, h.sm.trans (cpV_same _ _ _ _), fun b hb => ?_, fun j hj m hm hT => ?_, fun j hj m hm hT => ?_⟩, fun j hj m hm hT => ?_⟩
  · rw [hcp, if_neg (by omega)]
    exact h.out b (by omega)
  · rw [List.length_append, List.length_singleton] at hj
    rcases Nat.lt_or_ge j O.length with hjl | hjl
    · simp only [List.getElem_append_left hjl] at hm ⊢
      have hl := place_lt v hjl hm
      have e1 : (O ++ [a]).take j = O.take j := by rw [List.take_append_of_le_length (by omega)]
      rw [e1, hcp, if_neg (by omega)]
      exact h.raw j hjl m hm (fun ht => hT ((Trn.ext hjl).2 ht))
    · obtain rfl : j = O.length := by omega
      have e2 : (O ++ [a])[O.length]'(by simp) = a := by simp
      rw [e2] at hm
      have e1 : (O ++ [a]).take O.length = O := by rw [List.take_append_of_le_length (Nat.le_refl _), List.take_length]
      rw [e1, hcp, if_pos (by omega), e2, show a + ((to : Int) + sumC v O + m - (to + sumC v O)) = a + m by omega]
      exact (hsm m hm).2
  · rw [List.length_append, List.length_singleton] at hj
    rcases Nat.lt_or_ge j O.length with hjl | hjl
    · simp only [List.getElem_append_left hjl] at hm ⊢
      have hl := place_lt v hjl hm
      have e1 : (O ++ [a]).take j = O.take j := by rw [List.take_append_of_le_length (by omega)]
      have ht := (Trn.ext (i := i) (m := m) hjl).1 hT
      rw [e1, hcp, if_neg (by omega), h.trn j hjl m hm ht]
      exact (wentC_ext v [a] to h00 (hK j hjl m hm ht)).symm
    · obtain rfl : j = O.length := by omega
      obtain ⟨h1, h2 | h2⟩ := hT <;> omega
  · rw [List.length_append, List.length_singleton] at hj
    rcases Nat.lt_or_ge j O.length with hjl | hjl
    · simp only [List.getElem_append_left hjl] at hm ⊢
      exact (hK j hjl m hm ((Trn.ext hjl).1 hT)).imp id (fun h => List.mem_append_left _ h)
    · obtain rfl : j = O.length := by omega
      obtain ⟨h1, h2 | h2⟩ := hT <;> omega
/-- A copied object's header and pointers, as they stand. -/
theorem Cpd.copy (c : CopyCtx v rs L to) (hn : O.Nodup) (hR : ∀ a ∈ O, Rch v rs a) (h : Cpd v v' to O k i) {j : Nat} (hj : j < O.length) {t : Int} (ht : t = to + sumC v (O.take j)) :
    v'.rdE t = 0 ∧ v'.rdH t = v.rdH O[j] ∧ (j = k → ∀ m : Nat, i ≤ m → (m : Int) < (v.rdH O[j]).p → v'.ptE t m = 0 ∧ v'.ptV t m = v.ldV (O[j] + 1 + m)) ∧
      ∀ m : Nat, (m : Int) < (v.rdH O[j]).p → v'.plE t m 1 = 0 ∧ v'.ldE (t + 1 + m) = 0 := by
  have ha := hR _ (List.getElem_mem hj)
  have hrd := c.mks.sound.rd _ ha
  have hp := osz_pos hrd
  have hpp := hdr_p hrd
  have hs := c.sum hn hR
  have h0 := sumC_nonneg v (O.take j)
  have hpos := c.pos
  have htop := c.top
  have hle : ∀ m : Nat, (m : Int) < v.osz O[j] → v'.ldE (t + m) = 0 := fun m hm => by
    rw [h.sm.ldE]
    have hl := place_lt v hj hm
    have := c.map (to + (sumC v (O.take j)).toNat + m) (by omega) (by omega)
    rw [← this]
    congr 1
    omega
  have hr0 := h.raw j hj 0 (by omega) (fun hT => absurd hT.1 (by omega))
  have hl0 := hle 0 (by omega)
  rw [show t + (0 : Nat) = t by omega] at hl0
  rw [show (to : Int) + sumC v (O.take j) + (0 : Nat) = t by omega, show O[j] + (0 : Nat) = O[j] by omega] at hr0
  have hE : v'.rdE t = 0 := by
    have h1 := hrd
    unfold Vm.rdE at h1 ⊢
    rw [if_neg (by omega), if_neg (by omega), if_pos hl0, hr0]
    rw [if_neg (by omega), if_neg (by omega)] at h1
    split at h1
    · exact h1
    · rename_i hx; exact absurd h1 hx
  have hH : v'.rdH t = v.rdH O[j] := by
    have h1 := (rdE_zero hrd).2.1
    unfold Vm.rdH
    rw [if_pos ⟨by omega, hl0⟩, if_pos ⟨by omega, h1⟩, hr0]
  refine ⟨hE, hH, fun hjk m hm1 hm2 => ?_, fun m hm => ?_⟩
  · have hmm : ((m + 1 : Nat) : Int) < v.osz O[j] := by omega
    have hr := h.raw j hj (m + 1) hmm (fun hT => by
      obtain ⟨-, h2 | h2⟩ := hT <;> omega)
    have hl := hle (m + 1) hmm
    rw [show (to : Int) + sumC v (O.take j) + (m + 1 : Nat) = t + 1 + m by omega, show O[j] + (m + 1 : Nat) = O[j] + 1 + m by omega] at hr
    rw [show t + ((m + 1 : Nat) : Int) = t + 1 + m by omega] at hl
    have hpt := ptV_of (c.mks.sound.pt _ ha m hm2)
    have := ptE_of (v := v') (a := t) (i := m) hE (by rw [hH]; exact hm2) hl (by rw [hr]; exact hpt.2.1)
    refine ⟨this.1, ?_⟩
    rw [(ptV_of this.1).1, hr]
  · have hl := hle (m + 1) (by omega)
    rw [show t + ((m + 1 : Nat) : Int) = t + 1 + m by omega] at hl
    refine ⟨?_, hl⟩
    unfold Vm.plE
    rw [if_neg (by omega), hH, if_pos (kind_ptr (by omega) hm hpp.2)]
/-- One more pointer is turned. -/
theorem Cpd.set (c : CopyCtx v rs L to) (hn : O.Nodup) (hR : ∀ a ∈ O, Rch v rs a) (h : Cpd v v' to O k i) (hK : Known v O k i) (hk : k < O.length) {t : Int} (ht : t = to + sumC v (O.take k)) (hi : (i : Int) < (v.rdH O[k]).p)
    (hx : (v.ldV (O[k] + 1 + i) : Int) = 0 ∨ (v.ldV (O[k] + 1 + i) : Int) ∈ O) {x : Nat} (hxx : (x : Int) = wentC v O to (v.ldV (O[k] + 1 + i))) (hx2 : x < 18446744073709551616) :
    Cpd v (v'.st (t + 1 + i) x) to O k (i + 1) ∧ Known v O k (i + 1) := by
  have ha := hR _ (List.getElem_mem hk)
  have hrd := c.mks.sound.rd _ ha
  have hpp := hdr_p hrd
  have hs := c.sum hn hR
  have h0 := sumC_nonneg v (O.take k)
  have hl := ((Cpd.copy c hn hR h hk ht).2.2.2 i hi).2
  have hst := h.ok.st_ldV x hl
  have hpl := place_lt v hk (m := i + 1) (by omega)
  have hT : ∀ j m : Nat, Trn v O k (i + 1) j m ↔ Trn v O k i j m ∨ (j = k ∧ m = i + 1) := fun j m => by
    unfold Trn
    constructor
    · rintro ⟨h1, h2 | h2⟩
      · exact .inl ⟨h1, .inl h2⟩
      · rcases Nat.lt_or_ge i m with h3 | h3
        · exact .inr (by omega)
        · exact .inl ⟨h1, .inr (by omega)⟩
    · rintro (⟨h1, h2 | h2⟩ | ⟨h1, h2⟩)
      · exact ⟨h1, .inl h2⟩
      · exact ⟨h1, .inr (by omega)⟩
      · exact ⟨by omega, .inr (by omega)⟩
  refine ⟨⟨h.ok.st _ hx2, h.sm.trans (SamePg.st _ _ _), fun b hb => ?_, fun j hj m hm hnT => ?_, fun j hj m hm hTT => ?_⟩, fun j hj m hm hTT => ?_⟩
  · rw [hst, if_neg (by omega)]
    exact h.out b hb
  · have hn1 : ¬ (j = k ∧ m = i + 1) := fun e => hnT ((hT j m).2 (.inr e))
    rw [hst, if_neg (fun e => hn1 (place_inj v hj hk hm (m' := i + 1) (by omega) (by omega)))]
    exact h.raw j hj m hm (fun h' => hnT ((hT j m).2 (.inl h')))
  · by_cases e : j = k ∧ m = i + 1
    · obtain ⟨rfl, rfl⟩ := e
      rw [hst, if_pos (by omega), show O[j] + ((i + 1 : Nat) : Int) = O[j] + 1 + i by omega]
      exact hxx
    · rw [hst, if_neg (fun e' => e (place_inj v hj hk hm (m' := i + 1) (by omega) (by omega)))]
      exact h.trn j hj m hm (((hT j m).1 hTT).resolve_right e)
  · by_cases e : j = k ∧ m = i + 1
    · obtain ⟨rfl, rfl⟩ := e
      rw [show O[j] + ((i + 1 : Nat) : Int) = O[j] + 1 + i by omega]
      exact hx
    · exact hK j hj m hm (((hT j m).1 hTT).resolve_right e)
/-- An object is done. -/
theorem trn_next {v : Vm} {O : List Int} {k i : Nat} (hk : k < O.length) (hi : (i : Int) = (v.rdH O[k]).p) (j m : Nat) : Trn v O (k + 1) 0 j m ↔ Trn v O k i j m := by
  unfold Trn
  have e : O.getD k 0 = O[k] := by rw [List.getD_eq_getElem?_getD, List.getElem?_eq_getElem hk]; rfl
  constructor
  · rintro ⟨h1, h2 | h2⟩
    · rcases Nat.lt_or_ge j k with h3 | h3
      · exact ⟨h1, .inl ⟨h3, h2.2⟩⟩
      · obtain rfl : j = k := by omega
        rw [e] at h2
        exact ⟨h1, .inr ⟨rfl, by omega⟩⟩
    · omega
  · rintro ⟨h1, h2 | h2⟩
    · exact ⟨h1, .inl ⟨by omega, h2.2⟩⟩
    · obtain ⟨rfl, h3⟩ := h2
      exact ⟨h1, .inl ⟨by omega, by rw [e]; omega⟩⟩
theorem Cpd.next (h : Cpd v v' to O k i) (hK : Known v O k i) (hk : k < O.length) (hi : (i : Int) = (v.rdH O[k]).p) : Cpd v v' to O (k + 1) 0 ∧ Known v O (k + 1) 0 :=
  ⟨⟨h.ok, h.sm, h.out, fun j hj m hm hT => h.raw j hj m hm (fun h' => hT ((trn_next hk hi j m).2 h')), fun j hj m hm hT => h.trn j hj m hm ((trn_next hk hi j m).1 hT)⟩, fun j hj m hm hT => hK j hj m hm ((trn_next hk hi j m).1 hT)⟩
/-- All that is met is reached. -/
theorem rch_adds (hR : ∀ a ∈ O, Rch v rs a) {l : List Int} (hl : ∀ a ∈ l, a ≠ 0 → Rch v rs a) : ∀ a ∈ addsC O l, Rch v rs a := fun a ha => by
  rcases mem_addsC.1 ha with h | ⟨h, h0⟩
  · exact hR a h
  · exact hl a h h0
theorem rch_pts (c : CopyCtx v rs L to) {b : Int} (hb : Rch v rs b) : ∀ a ∈ ptsC v b, a ≠ 0 → Rch v rs a := fun a ha h0 => by
  obtain ⟨i, hi, rfl⟩ := List.getElem_of_mem ha
  rw [ptsC_at] at h0 ⊢
  rw [ptsC_len] at hi
  have hrd := c.mks.sound.rd _ hb
  have hp := hdr_p hrd
  have hpt := c.mks.sound.pt _ hb i (by omega)
  have he := ptV_of hpt
  exact hb.step ⟨hrd, i, by omega, hpt, by rw [he.1]; omega, by rw [he.1]⟩
theorem rch_ord (c : CopyCtx v rs L to) (k : Nat) : ∀ a ∈ ordC v rs k, Rch v rs a := by
  induction k with
  | zero => exact rch_adds (fun a h => by cases h) (fun a ha h0 => Rch.root ha h0)
  | succ k ih =>
    unfold ordC
    split
    · rename_i hk
      refine rch_adds ih (rch_pts c (ih _ ?_))
      rw [List.getD_eq_getElem?_getD, List.getElem?_eq_getElem hk]
      exact List.getElem_mem hk
    · exact ih
theorem ordC_ext (v : Vm) (rs : List Int) (k : Nat) : ∃ X, ordC v rs (k + 1) = ordC v rs k ++ X := by
  show ∃ X, (if k < (ordC v rs k).length then addsC (ordC v rs k) (ptsC v ((ordC v rs k).getD k 0)) else ordC v rs k) = ordC v rs k ++ X
  split
  · exact addsC_ext _ _
  · exact ⟨[], (List.append_nil _).symm⟩
theorem ordC_closed (v : Vm) (rs : List Int) (k : Nat) : ∀ j, j < k → ∀ (hj : j < (ordC v rs k).length), ∀ b ∈ ptsC v (ordC v rs k)[j], b ≠ 0 → b ∈ ordC v rs k := by
  induction k with
  | zero => intro j hj; omega
  | succ k ih =>
    intro j hjk hj b hb h0
    by_cases hlt : k < (ordC v rs k).length
    · have e : ordC v rs (k + 1) = addsC (ordC v rs k) (ptsC v ((ordC v rs k).getD k 0)) := by
        show (if _ then _ else _) = _
        rw [if_pos hlt]
      obtain ⟨X, hX⟩ := addsC_ext (ordC v rs k) (ptsC v ((ordC v rs k).getD k 0))
      have hjl : j < (ordC v rs k).length := by omega
      have e1 : (ordC v rs (k + 1))[j] = (ordC v rs k)[j] := by
        simp only [e, hX, List.getElem_append_left hjl]
      rw [e1] at hb
      rw [e]
      rcases Nat.lt_or_ge j k with h1 | h1
      · exact mem_addsC.2 (.inl (ih j h1 hjl b hb h0))
      · obtain rfl : j = k := by omega
        refine mem_addsC.2 (.inr ⟨?_, h0⟩)
        rw [List.getD_eq_getElem?_getD, List.getElem?_eq_getElem hjl]
        exact hb
    · have e : ordC v rs (k + 1) = ordC v rs k := by
        show (if _ then _ else _) = _
        rw [if_neg hlt]
      simp only [e] at hj hb ⊢
      exact ih j (by omega) hj b hb h0
theorem ordC_roots (v : Vm) (rs : List Int) (k : Nat) : ∀ r ∈ rs, r ≠ 0 → r ∈ ordC v rs k := by
  induction k with
  | zero => exact fun r hr h0 => mem_addsC.2 (.inr ⟨hr, h0⟩)
  | succ k ih =>
    intro r hr h0
    obtain ⟨X, hX⟩ := ordC_ext v rs k
    rw [hX]
    exact List.mem_append_left _ (ih r hr h0)
/-- All are met. -/
theorem CopyCtx.done (c : CopyCtx v rs L to) (hk : k = (ordC v rs k).length) : (∀ a, Rch v rs a → a ∈ ordC v rs k) ∧ sumC v (ordC v rs k) = sizes L := by
  have hall : ∀ a, Rch v rs a → a ∈ ordC v rs k := fun a ha => by
    refine (ha (fun b => b ∈ ordC v rs k ∧ Rch v rs b) (fun r hr h0 => ⟨ordC_roots v rs k r hr h0, Rch.root hr h0⟩) ?_).1
    rintro x y ⟨hx, hxr⟩ hp
    refine ⟨?_, hxr.step hp⟩
    obtain ⟨-, i, hi, h0, h1, rfl⟩ := hp
    obtain ⟨j, hj, rfl⟩ := List.getElem_of_mem hx
    have he := ptV_of h0
    have hpp := hdr_p (c.mks.sound.rd _ hxr)
    refine ordC_closed v rs k j (by omega) hj _ ?_ (by omega)
    rw [he.1]
    have hil : i < (ptsC v (ordC v rs k)[j]).length := by rw [ptsC_len]; omega
    rw [← ptsC_at v _ hil]
    exact List.getElem_mem hil
  refine ⟨hall, ?_⟩
  have h1 := c.sum (ordC_nodup v rs k) (rch_ord c k)
  have h2 := sum_ge (v := v) (fun o ho => (c.mks.mkd.ats o ho).2.2) c.mks.mkd.good.lt (O := ordC v rs k) (fun o ho => hall _ (c.mks.mkd.ats o ho).1)
  omega
end
end Go.Proofs.YtbmidhlilafgeaaGreatDoor
end

section
namespace Go.Proofs.YtbmidhlilafgeaaGreatDoor
open Go.RowKit Word

/-! More pages mapped. -/
/-- v' has all that can be loaded of v. -/
structure Wider (v v' : Vm) : Prop where
  n : v'.n = v.n
  le : ∀ a : Int, v.ldE a = 0 → v'.ldE a = 0 ∧ v'.ldV a = v.ldV a
theorem Grown.wider {v v' : Vm} {F : List Nat} (h : Grown v v' F) (hv : VmOk v) : Wider v v' := by
  refine ⟨h.n, fun a ha => ?_⟩
  obtain ⟨h0, h1⟩ := ldE_in ha
  obtain ⟨j, rfl⟩ : ∃ j : Nat, a = j := ⟨a.toNat, by omega⟩
  have hj : j < v.n := by omega
  have hn : ¬ j / v.pl.pg ∈ F := fun hm => by
    rw [hv.ldE_of hj, if_pos (h.un _ hm).2] at ha
    cases ha
  rw [h.ldE hv hj, h.vl j hj, if_neg hn, if_neg hn]
  exact ⟨ha, rfl⟩
theorem Wider.rd {v v' : Vm} (h : Wider v v') {a : Int} (hr : v.rdE a = 0) : v'.rdE a = 0 ∧ v'.rdH a = v.rdH a := by
  obtain ⟨h0, h1, -⟩ := rdE_zero hr
  obtain ⟨e1, e2⟩ := h.le a h1
  unfold Vm.rdE at hr ⊢
  rw [if_neg (by omega), if_neg (by omega), if_pos h1] at hr
  refine ⟨by rw [if_neg (by omega), if_neg (by omega), if_pos e1, e2]; exact hr, ?_⟩
  unfold Vm.rdH
  rw [if_pos ⟨h0, e1⟩, if_pos ⟨h0, h1⟩, e2]
theorem Wider.pt {v v' : Vm} (h : Wider v v') {a : Int} {i : Nat} (hr : v.rdE a = 0) (hi : (i : Int) < (v.rdH a).p) (hp : v.ptE a i = 0) : v'.ptE a i = 0 ∧ v'.ptV a i = v.ptV a i := by
  obtain ⟨e1, e2⟩ := h.rd hr
  have hp' := ptV_of hp
  obtain ⟨e3, e4⟩ := h.le _ hp'.2.2.1
  have := ptE_of (v := v') (a := a) (i := i) e1 (by rw [e2]; exact hi) e3 (by rw [e4]; exact hp'.2.1)
  exact ⟨this.1, by rw [(ptV_of this.1).1, hp'.1, e4]⟩
theorem Wider.rch {v v' : Vm} (h : Wider v v') {rs : List Int} {n : Nat} (hS : Sound v rs n) (a : Int) : Rch v' rs a ↔ Rch v rs a := by
  constructor
  · intro ha
    refine ha (fun b => Rch v rs b) (fun r hr h0 => Rch.root hr h0) ?_
    rintro b c hb ⟨-, i, hi, h0, h1, rfl⟩
    have hrd := hS.rd b hb
    rw [(h.rd hrd).2] at hi
    have hp := h.pt hrd hi (hS.pt b hb i hi)
    rw [hp.2] at h1 ⊢
    exact hb.step ⟨hrd, i, hi, hS.pt b hb i hi, h1, rfl⟩
  · intro ha
    refine (ha (fun b => Rch v' rs b ∧ Rch v rs b) (fun r hr h0 => ⟨Rch.root hr h0, Rch.root hr h0⟩) ?_).1
    rintro b c ⟨hb, hb'⟩ hp
    refine ⟨?_, hb'.step hp⟩
    obtain ⟨hrd, i, hi, h0, h1, rfl⟩ := hp
    have hp := h.pt hrd hi h0
    rw [← hp.2]
    exact hb.step ⟨(h.rd hrd).1, i, by rw [(h.rd hrd).2]; exact hi, hp.1, by rw [hp.2]; exact h1, rfl⟩
theorem Wider.marks {v v' : Vm} (h : Wider v v') {rs : List Int} {n : Nat} {L : List Ob} (hM : Marks v rs n L) : Marks v' rs n L := by
  have hS := hM.sound
  refine ⟨⟨hM.mkd.good, fun o ho => ?_⟩, fun a ha => hM.all a ((h.rch hS a).1 ha), fun o ho i hi => ?_⟩
  · obtain ⟨h1, h2, h3⟩ := hM.mkd.ats o ho
    obtain ⟨e1, e2⟩ := h.rd h2
    exact ⟨(h.rch hS _).2 h1, e1, by rw [h3]; unfold Vm.osz; rw [e2]⟩
  · obtain ⟨h1, h2, -⟩ := hM.mkd.ats o ho
    rw [(h.rd h2).2] at hi
    obtain ⟨c1, c2⟩ := hM.cl o ho i hi
    have hp := h.pt h2 hi c1
    exact ⟨hp.1, fun h0 => by rw [hp.2] at h0 ⊢; exact c2 h0⟩
/-! Pages unmapped. -/
def umN (v : Vm) (q0 : Nat) : Nat → Vm
  | 0 => v
  | k + 1 => (umN v q0 k).um ((q0 + k : Nat) : Int)
theorem um_same (v : Vm) (p : Int) : (v.um p).n = v.n ∧ (v.um p).pl.pg = v.pl.pg ∧ (v.um p).pl.rm = v.pl.rm ∧ (v.um p).pt.length = v.pt.length := by
  unfold Vm.um
  split
  · exact ⟨rfl, rfl, rfl, List.length_set⟩
  · exact ⟨rfl, rfl, rfl, rfl⟩
theorem umN_same (v : Vm) (q0 k : Nat) : (umN v q0 k).n = v.n ∧ (umN v q0 k).pl.pg = v.pl.pg ∧ (umN v q0 k).pl.rm = v.pl.rm ∧ (umN v q0 k).pt.length = v.pt.length := by
  induction k with
  | zero => exact ⟨rfl, rfl, rfl, rfl⟩
  | succ k ih =>
    obtain ⟨h1, h2, h3, h4⟩ := um_same (umN v q0 k) ((q0 + k : Nat) : Int)
    exact ⟨h1.trans ih.1, h2.trans ih.2.1, h3.trans ih.2.2.1, h4.trans ih.2.2.2⟩
theorem umN_ok {v : Vm} (h : VmOk v) (q0 k : Nat) : VmOk (umN v q0 k) := by
  induction k with
  | zero => exact h
  | succ k ih => exact ih.um _
theorem umN_ldE {v : Vm} (h : VmOk v) (q0 k : Nat) {a : Nat} (ha : a < v.n) : (umN v q0 k).ldE a = if q0 ≤ a / v.pl.pg ∧ a / v.pl.pg < q0 + k then 12 else v.ldE a := by
  induction k with
  | zero => rw [if_neg (by omega)]; rfl
  | succ k ih =>
    obtain ⟨s1, s2, -, s4⟩ := umN_same v q0 k
    have hok := umN_ok h q0 k
    show ((umN v q0 k).um ((q0 + k : Nat) : Int)).ldE a = _
    by_cases hf : frE (umN v q0 k).pt ((q0 + k : Nat) : Int) = 0
    · rw [hok.um_ldE hf (by rw [s1]; exact ha), s2, ih]
      by_cases e : a / v.pl.pg = q0 + k
      · rw [if_pos e, if_pos (by omega)]
      · rw [if_neg e]
        by_cases hx : q0 ≤ a / v.pl.pg ∧ a / v.pl.pg < q0 + k
        · rw [if_pos hx, if_pos (by omega)]
        · rw [if_neg hx, if_neg (by omega)]
    · rw [um_none hf]
      by_cases e : a / v.pl.pg = q0 + k
      · have h1 := hok.ldE_of (a := a) (by rw [s1]; exact ha)
        rw [s2, e] at h1
        have hl : q0 + k < (umN v q0 k).pt.length := by rw [s4, ← e]; exact (h.split ha).1
        rw [frE_of hl] at hf
        rw [if_pos (by omega), h1]
        split at hf
        · rename_i h0; exact if_pos h0
        · exact absurd rfl hf
      · rw [ih]
        by_cases hx : q0 ≤ a / v.pl.pg ∧ a / v.pl.pg < q0 + k
        · rw [if_pos hx, if_pos (by omega)]
        · rw [if_neg hx, if_neg (by omega)]
theorem umN_ldV {v : Vm} (h : VmOk v) (q0 k : Nat) {a : Nat} (ha : a < v.n) (hn : ¬ (q0 ≤ a / v.pl.pg ∧ a / v.pl.pg < q0 + k)) : (umN v q0 k).ldV a = v.ldV a := by
  induction k with
  | zero => rfl
  | succ k ih =>
    obtain ⟨s1, s2, -, -⟩ := umN_same v q0 k
    have hok := umN_ok h q0 k
    show ((umN v q0 k).um ((q0 + k : Nat) : Int)).ldV a = _
    by_cases hf : frE (umN v q0 k).pt ((q0 + k : Nat) : Int) = 0
    · rw [hok.um_ldV hf (by rw [s1]; exact ha) (by rw [s2]; omega)]
      exact ih (by omega)
    · rw [um_none hf]
      exact ih (by omega)
/-- How many pages are mapped. -/
theorem nz_run {pt : List Nat} {p0 k : Nat} (hk : p0 + k ≤ pt.length) (h : ∀ p, p < pt.length → (pt.getD p 0 ≠ 0 ↔ p0 ≤ p ∧ p < p0 + k)) : nz pt = k := by
  unfold nz
  have h1 : ∀ n, n ≤ pt.length → cnt (fun i => pt.getD i 0 != 0) n = min (n - p0) k := fun n => by
    induction n with
    | zero => intro _; rw [cnt_zero]; omega
    | succ n ih =>
      intro hn
      rw [cnt_succ, ih (by omega)]
      have := h n (by omega)
      by_cases hp : p0 ≤ n ∧ n < p0 + k
      · have h2 := this.2 hp
        have : (pt.getD n 0 != 0) = true := by simpa using h2
        rw [this]
        show min (n - p0) k + 1 = _
        omega
      · have h2 : pt.getD n 0 = 0 := Decidable.not_not.1 (fun h' => hp (this.1 h'))
        rw [h2]
        show min (n - p0) k + 0 = _
        omega
  rw [h1 _ (Nat.le_refl _)]
  omega
/-- The frames in use, from what can be loaded. -/
theorem used_run {v : Vm} (h : VmOk v) {p0 k : Nat} (hk : (p0 + k) * v.pl.pg ≤ v.n) (hl : ∀ a : Nat, a < v.n → (v.ldE a = 0 ↔ p0 * v.pl.pg ≤ a ∧ a < (p0 + k) * v.pl.pg)) : v.pl.used = k := by
  have hp := h.page
  rw [h.us]
  refine nz_run (p0 := p0) ?_ (fun p hpl => ?_)
  · rw [h.np] at hk
    exact Nat.le_of_mul_le_mul_right hk (by omega)
  · have ha : p * v.pl.pg < v.n := by rw [h.np]; exact Nat.mul_lt_mul_of_pos_right hpl (by omega)
    have h1 := hl _ ha
    rw [h.ldE_of ha, Nat.mul_div_cancel _ (by omega)] at h1
    have e1 : p0 * v.pl.pg ≤ p * v.pl.pg ↔ p0 ≤ p := Nat.mul_le_mul_right_iff (by omega)
    have e2 : p * v.pl.pg < (p0 + k) * v.pl.pg ↔ p < p0 + k := Nat.mul_lt_mul_right (by omega)
    rw [e1, e2] at h1
    rw [← h1]
    by_cases h0 : v.pt.getD p 0 = 0
    · rw [if_pos h0]; exact ⟨fun h => absurd h0 h, fun h => absurd h (by decide)⟩
    · rw [if_neg h0]; exact ⟨fun _ => rfl, fun _ => h0⟩
end Go.Proofs.YtbmidhlilafgeaaGreatDoor
end
