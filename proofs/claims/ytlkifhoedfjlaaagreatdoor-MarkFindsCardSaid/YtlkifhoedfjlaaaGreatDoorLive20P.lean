/- Layer 20's example: the plain law. -/
import Derived.Test.YtlkifhoedfjlaaaGreatDoorMarkP
import Derived.Test.YtlkifhoedfjlaaaGreatDoorLay18
namespace Go.Proofs.YtlkifhoedfjlaaaGreatDoor
open Go.RowKit Word

def x20 : Laid := ⟨[⟨1, 0, 0⟩, ⟨0, 0, 1⟩], [0, 3], []⟩
theorem mkV_one (v : Vm) (a : Int) (x : Nat) : mkV v a x 1 = (v.st a x).st (a + 1) 0 := by
  unfold mkV
  show ((v.st a x).st (a + 1 + ((0 : Nat) : Int)) 0) = _
  rw [show a + 1 + ((0 : Nat) : Int) = a + 1 by omega]
theorem full_mk {v : Vm} (h : Full v) {t : Nat} (ht : 0 < t) (ht2 : t + 1 < 400) {p f c : Nat} (hs : p + f + c = 1) : mkRes v t ⟨p, f, c⟩ = 0 := by
  unfold mkRes
  rw [if_neg (by omega), if_neg (by rw [hdrE_of (by omega)]; decide)]
  show mkE v t ((p : Int) + f + c).toNat = 0
  rw [show ((p : Int) + f + c).toNat = 1 by omega]
  have e1 : v.ldE t = 0 := by rw [h.ldE, if_pos (by omega)]
  have e2 : v.ldE ((t : Int) + 1 + ((0 : Nat) : Int)) = 0 := by rw [h.ldE, if_pos (by omega)]
  show (if mkE v t 0 ≠ 0 then mkE v t 0 else v.ldE ((t : Int) + 1 + ((0 : Nat) : Int))) = 0
  rw [show mkE v t 0 = v.ldE t from rfl, e1, if_neg (by simp), e2]
theorem layV_x20 {v : Vm} (h : Full v) : layV x20 v = ((((v.st 1 (hdrW 1 0 0)).st 2 0).st 3 (hdrW 0 0 1)).st 4 0).st 2 3 ∧ (layHs x20.H v 1 []).2.1 = 5 := by
  have g1 : mkRes v 1 ⟨1, 0, 0⟩ = 0 := full_mk h (t := 1) (p := 1) (f := 0) (c := 0) (by omega) (by omega) (by omega)
  have m1 : mkVm v 1 ⟨1, 0, 0⟩ = (v.st 1 (hdrW 1 0 0)).st 2 0 := by
    unfold mkVm
    rw [if_pos g1]
    exact mkV_one _ _ _
  have h1 : Full ((v.st 1 (hdrW 1 0 0)).st 2 0) := (h.st 1 (by decide)).st 2 (by decide)
  have g2 : mkRes ((v.st 1 (hdrW 1 0 0)).st 2 0) 3 ⟨0, 0, 1⟩ = 0 := full_mk h1 (t := 3) (p := 0) (f := 0) (c := 1) (by omega) (by omega) (by omega)
  have m2 : mkVm ((v.st 1 (hdrW 1 0 0)).st 2 0) 3 ⟨0, 0, 1⟩ = (((v.st 1 (hdrW 1 0 0)).st 2 0).st 3 (hdrW 0 0 1)).st 4 0 := by
    unfold mkVm
    rw [if_pos g2]
    exact mkV_one _ _ _
  have hh : layHs x20.H v 1 [] = ((((v.st 1 (hdrW 1 0 0)).st 2 0).st 3 (hdrW 0 0 1)).st 4 0, 5, [2]) := by
    show layHs [⟨1, 0, 0⟩, ⟨0, 0, 1⟩] v 1 [] = _
    rw [layHs_cons, if_pos g1, m1]
    show layHs [⟨0, 0, 1⟩] ((v.st 1 (hdrW 1 0 0)).st 2 0) 3 [2] = _
    rw [layHs_cons, if_pos g2, m2]
    rfl
  refine ⟨?_, by rw [hh]⟩
  unfold layV
  rw [hh]
  rfl
theorem live20 {v0 : Vm} (h : Full v0) (_hz : ∀ a : Nat, a < 400 → v0.ldV a = 0) : Marks (layV x20 v0) [1] 400 [(1, 2), (3, 2)] := by
  have hf : Full (layV x20 v0) := by rw [(layV_x20 h).1]; exact ((((h.st 1 (by decide)).st 2 (by decide)).st 3 (by decide)).st 4 (by decide)).st 2 (by decide)
  have f1 := h.st 1 (x := hdrW 1 0 0) (by decide)
  have f2 := f1.st 2 (x := 0) (by decide)
  have f3 := f2.st 3 (x := hdrW 0 0 1) (by decide)
  have f4 := f3.st 4 (x := 0) (by decide)
  have z1 : ∀ (v : Vm), Full v → ∀ a : Int, 0 ≤ a → a < 400 → v.ldE a = 0 := fun v hv a h0 h1 => by rw [hv.ldE, if_pos ⟨h0, h1⟩]
  have v1 : (layV x20 v0).ldV 1 = hdrW 1 0 0 := by
    rw [(layV_x20 h).1, f4.ok.st_ldV 3 (z1 _ f4 2 (by omega) (by omega)), if_neg (by decide), f3.ok.st_ldV 0 (z1 _ f3 4 (by omega) (by omega)), if_neg (by decide), f2.ok.st_ldV _ (z1 _ f2 3 (by omega) (by omega)), if_neg (by decide), f1.ok.st_ldV 0 (z1 _ f1 2 (by omega) (by omega)), if_neg (by decide), h.ok.st_ldV _ (z1 _ h 1 (by omega) (by omega)), if_pos rfl]
  have v2 : (layV x20 v0).ldV 2 = 3 := by rw [(layV_x20 h).1, f4.ok.st_ldV 3 (z1 _ f4 2 (by omega) (by omega)), if_pos rfl]
  have v3 : (layV x20 v0).ldV 3 = hdrW 0 0 1 := by
    rw [(layV_x20 h).1, f4.ok.st_ldV 3 (z1 _ f4 2 (by omega) (by omega)), if_neg (by decide), f3.ok.st_ldV 0 (z1 _ f3 4 (by omega) (by omega)), if_neg (by decide), f2.ok.st_ldV _ (z1 _ f2 3 (by omega) (by omega)), if_pos rfl]
  generalize layV x20 v0 = v at *
  have e := z1 v hf
  have r1 : v.rdE 1 = 0 ∧ v.rdH 1 = ⟨1, 0, 0⟩ := by
    unfold Vm.rdE Vm.rdH
    rw [if_neg (by decide), if_neg (by decide), if_pos (e 1 (by omega) (by omega)), if_pos ⟨by decide, e 1 (by omega) (by omega)⟩, v1]
    exact ⟨by decide +kernel, by kernel_rfl⟩
  have r3 : v.rdE 3 = 0 ∧ v.rdH 3 = ⟨0, 0, 1⟩ := by
    unfold Vm.rdE Vm.rdH
    rw [if_neg (by decide), if_neg (by decide), if_pos (e 3 (by omega) (by omega)), if_pos ⟨by decide, e 3 (by omega) (by omega)⟩, v3]
    exact ⟨by decide +kernel, by kernel_rfl⟩
  have p1 : v.ptE 1 0 = 0 ∧ v.ptV 1 0 = 3 := by
    have a1 : v.plE 1 0 1 = 0 := by unfold Vm.plE; rw [if_neg (fun h => h r1.1), r1.2]; decide +kernel
    have a2 : v.gtE 1 0 1 = 0 := by unfold Vm.gtE; rw [if_neg (fun h => h a1)]; exact e 2 (by omega) (by omega)
    have a3 : v.gtV 1 0 1 = 3 := by unfold Vm.gtV; rw [if_neg (fun h => h a1)]; exact v2
    have a4 : v.ptE 1 0 = 0 := by unfold Vm.ptE; rw [if_neg (fun h => h a2), a3]; decide
    exact ⟨a4, by unfold Vm.ptV; rw [if_pos a4, a3]⟩
  have q1 : Rch v [1] 1 := Rch.root (List.mem_singleton.2 rfl) (by decide)
  have q3 : Rch v [1] 3 := q1.step ⟨r1.1, 0, by rw [r1.2]; decide, p1.1, by rw [show ((0 : Nat) : Int) = 0 from rfl, p1.2]; decide, by rw [show ((0 : Nat) : Int) = 0 from rfl, p1.2]; rfl⟩
  have o1 : v.osz 1 = 2 := by unfold Vm.osz; rw [r1.2]; decide +kernel
  have o3 : v.osz 3 = 2 := by unfold Vm.osz; rw [r3.2]; decide +kernel
  refine Marks.of ⟨⟨by simp, fun o ho => ?_⟩, fun o ho => ?_⟩ (fun r hr _ => ?_) (fun o ho => ?_)
  · simp at ho; rcases ho with rfl | rfl <;> simp
  · simp at ho
    rcases ho with rfl | rfl
    · exact ⟨q1, r1.1, o1.symm⟩
    · exact ⟨q3, r3.1, o3.symm⟩
  · rw [List.mem_singleton.1 hr]; exact ⟨(1, 2), by simp, rfl⟩
  · simp at ho
    rcases ho with rfl | rfl
    · intro i hi
      have : i = 0 := by
        have hi : (i : Int) < (v.rdH 1).p := hi
        rw [r1.2] at hi
        have hi : (i : Int) < 1 := hi
        omega
      subst this
      refine ⟨p1.1, fun _ => ⟨(3, 2), by simp, ?_⟩⟩
      show (3 : Int) = (v.ptV 1 0 : Nat)
      rw [p1.2]; rfl
    · intro i hi
      have hi : (i : Int) < (v.rdH 3).p := hi
      rw [r3.2] at hi
      have hi : (i : Int) < 0 := hi
      omega
theorem rch_none {v : Vm} {rs : List Int} (h : ∀ r ∈ rs, r = 0) (a : Int) : ¬ Rch v rs a := fun ha => ha (fun _ => False) (fun r hr h0 => h0 (h r hr)) (fun _ _ h _ => h)
theorem marks_none {v : Vm} {rs : List Int} {n : Nat} (h : ∀ r ∈ rs, r = 0) : Marks v rs n [] := ⟨Mk.nil _ _ _, fun a ha => absurd ha (rch_none h a), fun _ ho => by cases ho⟩
end Go.Proofs.YtlkifhoedfjlaaaGreatDoor
