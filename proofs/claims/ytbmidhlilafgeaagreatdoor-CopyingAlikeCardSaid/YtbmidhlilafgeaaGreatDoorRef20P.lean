/- The reference of layer 20: the plain law. -/
import Derived.Test.YtbmidhlilafgeaaGreatDoorMarkP
namespace Go.Proofs.YtbmidhlilafgeaaGreatDoor
open Go.RowKit Word

/-- All that an object points to stands in a row. -/
def ClT (v : Vm) (T : List Int) (a : Int) (k : Nat) : Prop := ∀ i : Nat, i < k → (i : Int) < (v.rdH a).p → v.ptE a i = 0 ∧ (v.ptV a i ≠ 0 → ((v.ptV a i : Nat) : Int) ∈ T)
/-- A row of addresses that are reached. -/
structure RowT (v : Vm) (rs : List Int) (T : List Int) : Prop where
  nd : T.Nodup
  rc : ∀ a ∈ T, a ≠ 0 ∧ Rch v rs a
/-- The first i are gone through. -/
structure RefI (v : Vm) (rs : List Int) (n i : Nat) (T : List Int) (L : List Ob) : Prop where
  row : RowT v rs T
  rt : ∀ r ∈ rs, r ≠ 0 → r ∈ T
  mkd : Mk v rs n L
  len : L.length = i
  le : i ≤ T.length
  hs : ∀ a, Hs L a ↔ a ∈ T.take i
  cl : ∀ a ∈ T.take i, ∀ k, ClT v T a k
theorem RowT.nil (v : Vm) (rs : List Int) : RowT v rs [] := ⟨List.nodup_nil, fun _ h => by cases h⟩
theorem RowT.push {v : Vm} {rs T : List Int} (h : RowT v rs T) {a : Int} (h0 : a ≠ 0) (hr : Rch v rs a) (hn : a ∉ T) : RowT v rs (T ++ [a]) := by
  refine ⟨List.nodup_append.2 ⟨h.nd, by simp, fun x hx y hy => ?_⟩, fun x hx => ?_⟩
  · rw [List.mem_singleton.1 hy]; exact fun e => hn (e ▸ hx)
  · rcases List.mem_append.1 hx with hx | hx
    · exact h.rc x hx
    · rw [List.mem_singleton.1 hx]; exact ⟨h0, hr⟩
theorem ClT.mono {v : Vm} {T U : List Int} (hs : ∀ a ∈ T, a ∈ U) {a : Int} {k : Nat} (h : ClT v T a k) : ClT v U a k := fun i hi hp => ⟨(h i hi hp).1, fun h0 => hs _ ((h i hi hp).2 h0)⟩
theorem ClT.succ {v : Vm} {T : List Int} {a : Int} {k : Nat} (h : ClT v T a k) (h0 : v.ptE a k = 0) (h1 : v.ptV a k ≠ 0 → ((v.ptV a k : Nat) : Int) ∈ T) : ClT v T a (k + 1) := fun i hi hp => by
  rcases Nat.lt_or_ge i k with h2 | h2
  · exact h i h2 hp
  · have : i = k := by omega
    subst this; exact ⟨h0, h1⟩
theorem RefI.start {v : Vm} {rs T : List Int} {n : Nat} (h : RowT v rs T) (hr : ∀ r ∈ rs, r ≠ 0 → r ∈ T) : RefI v rs n 0 T [] :=
  ⟨h, hr, Mk.nil _ _ _, rfl, Nat.zero_le _, fun a => ⟨fun ⟨o, ho, _⟩ => (by cases ho), fun ha => (by cases ha)⟩, fun a ha => (by cases ha)⟩
theorem RefI.fresh {v : Vm} {rs T : List Int} {n i : Nat} {L : List Ob} (h : RefI v rs n i T L) (hi : i < T.length) : ¬ Hs L T[i] := fun ha => by
  obtain ⟨j, hj, e⟩ := List.getElem_of_mem ((h.hs _).1 ha)
  rw [List.length_take] at hj
  rw [List.getElem_take] at e
  exact List.pairwise_iff_getElem.1 h.row.nd j i (by omega) hi (by omega) e
theorem RefI.fail_add {v : Vm} {rs T : List Int} {n i : Nat} {L : List Ob} (h : RefI v rs n i T L) (hi : i < T.length) (he : addE L n T[i] (v.osz T[i]) ≠ 0) : ¬ Sound v rs n :=
  h.mkd.fail (h.row.rc _ (List.getElem_mem hi)).2 (h.fresh hi) he
/-- Behind an object's pointers. -/
theorem RefI.next {v : Vm} {rs T U : List Int} {n i : Nat} {L : List Ob} (h : RefI v rs n i T L) (hi : i < T.length) (hr : v.rdE T[i] = 0) (he : addE L n T[i] (v.osz T[i]) = 0) (hU : RowT v rs U) (hp : ∃ W, U = T ++ W) (hc : ∀ k, ClT v U T[i] k) : RefI v rs n (i + 1) U (addL L n T[i] (v.osz T[i])) := by
  obtain ⟨W, rfl⟩ := hp
  have hsub : ∀ a ∈ T, a ∈ T ++ W := fun a ha => List.mem_append.2 (.inl ha)
  have htk : (T ++ W).take (i + 1) = T.take i ++ [T[i]] := by
    rw [List.take_append_of_le_length (by omega), List.take_succ_eq_append_getElem hi]
  refine ⟨hU, fun r h1 h2 => hsub r (h.rt r h1 h2), h.mkd.add (h.row.rc _ (List.getElem_mem hi)).2 hr he, by rw [add_len he, h.len], by rw [List.length_append]; omega, fun a => ?_, fun a ha k => ?_⟩
  · rw [hs_add hr he, htk, List.mem_append, List.mem_singleton, h.hs]
    exact Or.comm
  · rw [htk] at ha
    rcases List.mem_append.1 ha with ha | ha
    · exact (h.cl a ha k).mono hsub
    · rw [List.mem_singleton.1 ha]; exact hc k
theorem RefI.done {v : Vm} {rs T : List Int} {n i : Nat} {L : List Ob} (h : RefI v rs n i T L) (hi : i = T.length) : Marks v rs n L := by
  have hall : ∀ a, Hs L a ↔ a ∈ T := fun a => by rw [h.hs, hi, List.take_length]
  refine Marks.of h.mkd (fun r h1 h2 => (hall r).2 (h.rt r h1 h2)) (fun o ho j hj => ?_)
  have hm : (o.1 : Int) ∈ T.take i := (h.hs _).1 ⟨o, ho, rfl⟩
  obtain ⟨h1, h2⟩ := h.cl _ hm (j + 1) j (Nat.lt_succ_self j) hj
  exact ⟨h1, fun h0 => (hall _).2 (h2 h0)⟩
end Go.Proofs.YtbmidhlilafgeaaGreatDoor
