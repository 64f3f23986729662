/- Package mark: the plain law. -/
import Derived.Test.YtbmidhlilafgeaaGreatDoorKM4
import Derived.Test.YtbmidhlilafgeaaGreatDoorK8
namespace Go.Proofs.YtbmidhlilafgeaaGreatDoor
open Go.RowKit Word

/-- An object points to another one. -/
def Points (v : Vm) (a b : Int) : Prop := v.rdE a = 0 ∧ ∃ i : Nat, (i : Int) < (v.rdH a).p ∧ v.ptE a i = 0 ∧ v.ptV a i ≠ 0 ∧ b = (v.ptV a i : Nat)
/-- What roots reach. -/
def Rch (v : Vm) (rs : List Int) (a : Int) : Prop := ∀ P : Int → Prop, (∀ r ∈ rs, r ≠ 0 → P r) → (∀ a b, P a → Points v a b → P b) → P a
theorem Rch.root {v : Vm} {rs : List Int} {r : Int} (h : r ∈ rs) (h0 : r ≠ 0) : Rch v rs r := fun _ h1 _ => h1 r h h0
theorem Rch.step {v : Vm} {rs : List Int} {a b : Int} (h : Rch v rs a) (hp : Points v a b) : Rch v rs b := fun P h1 h2 => h2 a b (h P h1 h2) hp
/-- An object's size. -/
def Vm.osz (v : Vm) (a : Int) : Int := hdrN (v.rdH a)
/-- A memory whose reached objects are whole, and lie apart. -/
structure Sound (v : Vm) (rs : List Int) (n : Nat) : Prop where
  rd : ∀ a, Rch v rs a → v.rdE a = 0
  pt : ∀ a, Rch v rs a → ∀ i : Nat, (i : Int) < (v.rdH a).p → v.ptE a i = 0
  rm : ∀ a, Rch v rs a → a + v.osz a ≤ n
  dj : ∀ a b, Rch v rs a → Rch v rs b → a = b ∨ a + v.osz a ≤ b ∨ b + v.osz b ≤ a
/-- An object starts there. -/
def Hs (L : List Ob) (a : Int) : Prop := ∃ o ∈ L, (o.1 : Int) = a
structure Mk (v : Vm) (rs : List Int) (n : Nat) (L : List Ob) : Prop where
  good : Good n L
  ats : ∀ o ∈ L, Rch v rs o.1 ∧ v.rdE o.1 = 0 ∧ (o.2 : Int) = v.osz o.1
theorem Mk.nil (v : Vm) (rs : List Int) (n : Nat) : Mk v rs n [] := ⟨Good.nil n, fun _ h => by cases h⟩
theorem osz_pos {v : Vm} {a : Int} (h : v.rdE a = 0) : 0 < a ∧ 1 ≤ v.osz a ∧ v.osz a ≤ 256 := by
  obtain ⟨h0, -, p, f, k, e, hs⟩ := rdE_zero h
  refine ⟨h0, ?_⟩
  unfold Vm.osz
  rw [e, show hdrN ⟨p, f, k⟩ = 1 + (p : Int) + f + k from if_pos (hdrE_of hs)]
  omega
theorem Mk.hs {v : Vm} {rs : List Int} {n : Nat} {L : List Ob} (h : Mk v rs n L) {a : Int} (ha : Hs L a) : Rch v rs a ∧ v.rdE a = 0 := by
  obtain ⟨o, ho, rfl⟩ := ha
  exact ⟨(h.ats o ho).1, (h.ats o ho).2.1⟩
theorem hs_add {v : Vm} {n : Nat} {L : List Ob} {a b : Int} (hr : v.rdE a = 0) (he : addE L n a (v.osz a) = 0) : Hs (addL L n a (v.osz a)) b ↔ b = a ∨ Hs L b := by
  have h0 := (osz_pos hr).1
  unfold addL Hs
  rw [if_pos he]
  constructor
  · rintro ⟨o, ho, rfl⟩
    rcases mem_insO.1 ho with rfl | ho
    · left; show (a.toNat : Int) = a; omega
    · exact .inr ⟨o, ho, rfl⟩
  · rintro (rfl | ⟨o, ho, rfl⟩)
    · exact ⟨_, mem_insO.2 (.inl rfl), by show (b.toNat : Int) = b; omega⟩
    · exact ⟨o, mem_insO.2 (.inr ho), rfl⟩
theorem Mk.add {v : Vm} {rs : List Int} {n : Nat} {L : List Ob} (h : Mk v rs n L) {a : Int} (ha : Rch v rs a) (hr : v.rdE a = 0) (he : addE L n a (v.osz a) = 0) : Mk v rs n (addL L n a (v.osz a)) := by
  refine ⟨addL_good h.good _ _, fun o ho => ?_⟩
  have hp := osz_pos hr
  unfold addL at ho
  rw [if_pos he] at ho
  rcases mem_insO.1 ho with rfl | ho
  · have e : ((a.toNat : Nat) : Int) = a := by omega
    show Rch v rs (a.toNat : Nat) ∧ v.rdE (a.toNat : Nat) = 0 ∧ (((v.osz a).toNat : Nat) : Int) = v.osz (a.toNat : Nat)
    rw [e]
    exact ⟨ha, hr, by omega⟩
  · exact h.ats o ho
theorem add_len {L : List Ob} {n : Nat} {s z : Int} (he : addE L n s z = 0) : (addL L n s z).length = L.length + 1 := by
  unfold addL; rw [if_pos he, insO_len]
/-- Where an object can't be marked, the memory is not sound. -/
theorem Mk.fail {v : Vm} {rs : List Int} {n : Nat} {L : List Ob} (h : Mk v rs n L) {a : Int} (ha : Rch v rs a) (hn : ¬ Hs L a) (he : addE L n a (v.osz a) ≠ 0) : ¬ Sound v rs n := fun hS => by
  have hr := hS.rd a ha
  have hp := osz_pos hr
  have hm := hS.rm a ha
  unfold addE at he
  rw [if_neg (by omega), if_neg (by omega)] at he
  split at he
  · rename_i hc
    obtain ⟨o, ho, h1, h2⟩ := clash_iff.1 hc
    obtain ⟨q1, q2, q3⟩ := h.ats o ho
    rcases hS.dj a o.1 ha q1 with e | e | e
    · exact hn ⟨o, ho, e.symm⟩
    · omega
    · omega
  · exact he rfl
/-- All that an object points to is marked. -/
def Cl (v : Vm) (L : List Ob) (a : Int) : Prop := ∀ i : Nat, (i : Int) < (v.rdH a).p → v.ptE a i = 0 ∧ (v.ptV a i ≠ 0 → Hs L (v.ptV a i : Nat))
structure Marks (v : Vm) (rs : List Int) (n : Nat) (L : List Ob) : Prop where
  mkd : Mk v rs n L
  all : ∀ a, Rch v rs a → Hs L a
  cl : ∀ o ∈ L, Cl v L o.1
theorem Marks.of {v : Vm} {rs : List Int} {n : Nat} {L : List Ob} (h : Mk v rs n L) (hr : ∀ r ∈ rs, r ≠ 0 → Hs L r) (hc : ∀ o ∈ L, Cl v L o.1) : Marks v rs n L := by
  refine ⟨h, fun a ha => ha (Hs L) hr ?_, hc⟩
  rintro a b ⟨o, ho, rfl⟩ ⟨-, i, hi, h0, h1, rfl⟩
  exact (hc o ho i hi).2 h1
theorem Marks.sound {v : Vm} {rs : List Int} {n : Nat} {L : List Ob} (h : Marks v rs n L) : Sound v rs n := by
  refine ⟨fun a ha => (h.mkd.hs (h.all a ha)).2, fun a ha i hi => ?_, fun a ha => ?_, fun a b ha hb => ?_⟩
  · obtain ⟨o, ho, rfl⟩ := h.all a ha
    exact (h.cl o ho i hi).1
  · obtain ⟨o, ho, rfl⟩ := h.all a ha
    have := (h.mkd.good.sz o ho).2
    have := (h.mkd.ats o ho).2.2
    omega
  · obtain ⟨o, ho, rfl⟩ := h.all a ha
    obtain ⟨q, hq, rfl⟩ := h.all b hb
    have := (h.mkd.ats o ho).2.2
    have := (h.mkd.ats q hq).2.2
    rcases h.mkd.good.disj ho hq with e | e | e
    · left; rw [e]
    · right; left; omega
    · right; right; omega
theorem pw_ext {L M : List Ob} (h1 : L.Pairwise (fun o q => o.1 < q.1)) (h2 : M.Pairwise (fun o q => o.1 < q.1)) (h : ∀ x, x ∈ L ↔ x ∈ M) : L = M := by
  induction L generalizing M with
  | nil =>
    cases M with
    | nil => rfl
    | cons m M => exact absurd ((h m).2 (List.mem_cons_self ..)) (by simp)
  | cons l L ih =>
    cases M with
    | nil => exact absurd ((h l).1 (List.mem_cons_self ..)) (by simp)
    | cons m M =>
      obtain ⟨a1, a2⟩ := List.pairwise_cons.1 h1
      obtain ⟨b1, b2⟩ := List.pairwise_cons.1 h2
      have e : l = m := by
        rcases List.mem_cons.1 ((h l).1 (List.mem_cons_self ..)) with e | hm
        · exact e
        · rcases List.mem_cons.1 ((h m).2 (List.mem_cons_self ..)) with e | hl
          · exact e.symm
          · have := b1 l hm; have := a1 m hl; omega
      subst e
      congr 1
      refine ih a2 b2 fun x => ⟨fun hx => ?_, fun hx => ?_⟩
      · rcases List.mem_cons.1 ((h x).1 (List.mem_cons_of_mem _ hx)) with e | hm
        · subst e; have := a1 _ hx; omega
        · exact hm
      · rcases List.mem_cons.1 ((h x).2 (List.mem_cons_of_mem _ hx)) with e | hm
        · subst e; have := b1 _ hx; omega
        · exact hm
theorem Good.lt {n : Nat} {L : List Ob} (h : Good n L) : L.Pairwise (fun o q => o.1 < q.1) := by
  refine List.pairwise_iff_getElem.2 fun i j hi hj hij => ?_
  have := h.at hi hj hij
  have := (h.sz _ (List.getElem_mem hi)).1
  omega
theorem Marks.unique {v : Vm} {rs : List Int} {n : Nat} {L M : List Ob} (h : Marks v rs n L) (h' : Marks v rs n M) : L = M := by
  have key : ∀ {L M : List Ob}, Marks v rs n L → Marks v rs n M → ∀ x ∈ L, x ∈ M := fun {L M} h h' x hx => by
    obtain ⟨q1, q2, q3⟩ := h.mkd.ats x hx
    obtain ⟨o, ho, e⟩ := h'.all _ q1
    obtain ⟨p1, p2, p3⟩ := h'.mkd.ats o ho
    rw [e] at p3
    have e1 : o = x := Prod.ext (by omega) (by omega)
    rw [← e1]; exact ho
  exact pw_ext h.mkd.good.lt h'.mkd.good.lt fun x => ⟨key h h' x, key h' h x⟩
theorem hs_start {L : List Ob} {a : Int} : Hs L a ↔ startO L a < L.length := by
  constructor
  · rintro ⟨o, ho, e⟩
    by_cases h : startO L a < L.length
    · exact h
    · exact absurd e (startO_no h o ho)
  · intro h
    exact ⟨_, List.getElem_mem h, startO_yes h⟩

/-! The program's marker -/
/-- What is marked, what is on the stack, and whether something was lost. -/
structure MkS where
  L : List Ob
  st : List Int
  lost : Bool
def MkS.push (s : MkS) (R : Nat) (L' : List Ob) (a : Int) : MkS := if s.st.length < R then ⟨L', s.st ++ [a], s.lost⟩ else ⟨L', s.st, true⟩
/-- How far a marker has got since. -/
structure Later (s s' : MkS) : Prop where
  sub : ∀ a, Hs s.L a → Hs s'.L a
  len : s.L.length ≤ s'.L.length
  los : s'.lost = true → s.lost = true ∨ s.L.length < s'.L.length
  mea : 2 * s.L.length + s'.st.length ≤ 2 * s'.L.length + s.st.length
theorem Later.refl (s : MkS) : Later s s := ⟨fun _ h => h, Nat.le_refl _, fun h => .inl h, Nat.le_refl _⟩
theorem Later.trans {s t u : MkS} (h : Later s t) (k : Later t u) : Later s u :=
  ⟨fun a ha => k.sub a (h.sub a ha), Nat.le_trans h.len k.len, fun hl => by
    rcases k.los hl with h1 | h1
    · rcases h.los h1 with h2 | h2
      · exact .inl h2
      · exact .inr (Nat.lt_of_lt_of_le h2 k.len)
    · exact .inr (Nat.lt_of_le_of_lt h.len h1), by have := h.mea; have := k.mea; omega⟩
theorem Cl.mono {v : Vm} {L M : List Ob} (hs : ∀ a, Hs L a → Hs M a) {a : Int} (h : Cl v L a) : Cl v M a := fun i hi => ⟨(h i hi).1, fun h0 => hs _ ((h i hi).2 h0)⟩
/-- A marker at work, all but some objects being done. -/
structure MarkInv (v : Vm) (rs : List Int) (n R : Nat) (X : Int → Prop) (s : MkS) : Prop where
  mkd : Mk v rs n s.L
  st : ∀ a ∈ s.st, Hs s.L a
  r : s.st.length ≤ R
  cl : ∀ a, Hs s.L a → Cl v s.L a ∨ a ∈ s.st ∨ s.lost = true ∨ X a
theorem MarkInv.weak {v : Vm} {rs : List Int} {n R : Nat} {X Y : Int → Prop} {s : MkS} (h : MarkInv v rs n R X s) (hX : ∀ a, X a → Y a) : MarkInv v rs n R Y s :=
  ⟨h.mkd, h.st, h.r, fun a ha => (h.cl a ha).imp id (Or.imp id (Or.imp id (hX a)))⟩
theorem MarkInv.push {v : Vm} {rs : List Int} {n R : Nat} {X : Int → Prop} {s : MkS} (h : MarkInv v rs n R X s) {a : Int} (ha : Rch v rs a) (hr : v.rdE a = 0) (he : addE s.L n a (v.osz a) = 0) :
    MarkInv v rs n R X (s.push R (addL s.L n a (v.osz a)) a) ∧ Later s (s.push R (addL s.L n a (v.osz a)) a) ∧ Hs (s.push R (addL s.L n a (v.osz a)) a).L a := by
  have hm := h.mkd.add ha hr he
  have hh := fun b => hs_add (b := b) hr he
  have hl := add_len he
  have hsub : ∀ b, Hs s.L b → Hs (addL s.L n a (v.osz a)) b := fun b hb => (hh b).2 (.inr hb)
  unfold MkS.push
  split
  · rename_i hR
    refine ⟨⟨hm, fun b hb => ?_, by show (s.st ++ [a]).length ≤ R; simp; omega, fun b hb => ?_⟩, ⟨hsub, by show _ ≤ (addL _ _ _ _).length; omega, fun h => .inl h, by show 2 * _ + (s.st ++ [a]).length ≤ 2 * (addL _ _ _ _).length + _; simp; omega⟩, (hh a).2 (.inl rfl)⟩
    · rcases List.mem_append.1 hb with hb | hb
      · exact hsub b (h.st b hb)
      · rw [List.mem_singleton.1 hb]; exact (hh a).2 (.inl rfl)
    · rcases (hh b).1 hb with rfl | hb
      · exact .inr (.inl (List.mem_append.2 (.inr (List.mem_singleton.2 rfl))))
      · rcases h.cl b hb with h1 | h1 | h1 | h1
        · exact .inl (h1.mono hsub)
        · exact .inr (.inl (List.mem_append.2 (.inl h1)))
        · exact .inr (.inr (.inl h1))
        · exact .inr (.inr (.inr h1))
  · refine ⟨⟨hm, fun b hb => hsub b (h.st b hb), h.r, fun b _ => .inr (.inr (.inl rfl))⟩, ⟨hsub, by show _ ≤ (addL _ _ _ _).length; omega, fun _ => .inr (by show _ < (addL _ _ _ _).length; omega), by show 2 * _ + s.st.length ≤ 2 * (addL _ _ _ _).length + _; omega⟩, (hh a).2 (.inl rfl)⟩
theorem MarkInv.pop {v : Vm} {rs : List Int} {n R : Nat} {X : Int → Prop} {L : List Ob} {st : List Int} {lost : Bool} {a : Int} (h : MarkInv v rs n R X ⟨L, st ++ [a], lost⟩) : MarkInv v rs n R (fun b => X b ∨ b = a) ⟨L, st, lost⟩ ∧ Hs L a := by
  refine ⟨⟨h.mkd, fun b hb => h.st b (List.mem_append.2 (.inl hb)), by have := h.r; simp at this; show st.length ≤ R; omega, fun b hb => ?_⟩, h.st a (List.mem_append.2 (.inr (List.mem_singleton.2 rfl)))⟩
  rcases h.cl b hb with h1 | h1 | h1 | h1
  · exact .inl h1
  · rcases List.mem_append.1 h1 with h2 | h2
    · exact .inr (.inl h2)
    · exact .inr (.inr (.inr (.inr (List.mem_singleton.1 h2))))
  · exact .inr (.inr (.inl h1))
  · exact .inr (.inr (.inr (.inl h1)))
/-- An object that was gone through is done. -/
theorem MarkInv.done {v : Vm} {rs : List Int} {n R : Nat} {X Y : Int → Prop} {s : MkS} {a : Int} (h : MarkInv v rs n R X s) (hc : Cl v s.L a) (hX : ∀ b, X b → Y b ∨ b = a) : MarkInv v rs n R Y s :=
  ⟨h.mkd, h.st, h.r, fun b hb => by
    rcases h.cl b hb with h1 | h1 | h1 | h1
    · exact .inl h1
    · exact .inr (.inl h1)
    · exact .inr (.inr (.inl h1))
    · rcases hX b h1 with h2 | rfl
      · exact .inr (.inr (.inr h2))
      · exact .inl hc⟩
/-- The first k pointers of an object. -/
def ClN (v : Vm) (L : List Ob) (a : Int) (k : Nat) : Prop := ∀ i : Nat, i < k → v.ptE a i = 0 ∧ (v.ptV a i ≠ 0 → Hs L (v.ptV a i : Nat))
theorem ClN.mono {v : Vm} {L M : List Ob} (hs : ∀ a, Hs L a → Hs M a) {a : Int} {k : Nat} (h : ClN v L a k) : ClN v M a k := fun i hi => ⟨(h i hi).1, fun h0 => hs _ ((h i hi).2 h0)⟩
theorem ClN.succ {v : Vm} {L : List Ob} {a : Int} {k : Nat} (h : ClN v L a k) (h0 : v.ptE a k = 0) (h1 : v.ptV a k ≠ 0 → Hs L (v.ptV a k : Nat)) : ClN v L a (k + 1) := fun i hi => by
  rcases Nat.lt_or_ge i k with h2 | h2
  · exact h i h2
  · have : i = k := by omega
    subst this; exact ⟨h0, h1⟩
theorem ClN.cl {v : Vm} {L : List Ob} {a : Int} {k : Nat} (h : ClN v L a k) (hk : (v.rdH a).p ≤ k) : Cl v L a := fun i hi => h i (by omega)
theorem MarkInv.marks {v : Vm} {rs : List Int} {n R : Nat} {X : Int → Prop} {s : MkS} (h : MarkInv v rs n R X s) (hX : ∀ a, ¬ X a) (hst : s.st = []) (hlost : s.lost = false) (hr : ∀ r ∈ rs, r ≠ 0 → Hs s.L r) : Marks v rs n s.L := by
  refine Marks.of h.mkd hr fun o ho => ?_
  rcases h.cl o.1 ⟨o, ho, rfl⟩ with h1 | h1 | h1 | h1
  · exact h1
  · rw [hst] at h1; cases h1
  · rw [hlost] at h1; cases h1
  · exact absurd h1 (hX _)
theorem not_sound_rd {v : Vm} {rs : List Int} {n : Nat} {a : Int} (ha : Rch v rs a) (h : v.rdE a ≠ 0) : ¬ Sound v rs n := fun hS => h (hS.rd a ha)
theorem not_sound_pt {v : Vm} {rs : List Int} {n : Nat} {a : Int} (ha : Rch v rs a) {i : Nat} (hi : (i : Int) < (v.rdH a).p) (h : v.ptE a i ≠ 0) : ¬ Sound v rs n := fun hS => h (hS.pt a ha i hi)
end Go.Proofs.YtbmidhlilafgeaaGreatDoor
