/- Copying a laid heap against the document's answer: the plain law. -/
import Derived.Test.YtbmidhlilafgeaaGreatDoorCp24P
import Derived.Test.YtbmidhlilafgeaaGreatDoorRef25B
namespace Go.Proofs.YtbmidhlilafgeaaGreatDoor
open Go.RowKit Word

theorem ord_stay {v : Vm} {rs : List Int} {k : Nat} (h : k = (ordC v rs k).length) (j : Nat) : ordC v rs (k + j) = ordC v rs k := by
  induction j with
  | zero => rfl
  | succ j ih =>
    show (if k + j < (ordC v rs (k + j)).length then _ else ordC v rs (k + j)) = _
    rw [ih, if_neg (by omega)]
theorem ord_fix {v : Vm} {rs : List Int} {k k' : Nat} (h : k = (ordC v rs k).length) (h' : k' = (ordC v rs k').length) : k = k' := by
  rcases Nat.le_total k k' with hl | hl
  · obtain ⟨j, rfl⟩ : ∃ j, k' = k + j := ⟨k' - k, by omega⟩
    rw [ord_stay h] at h'
    omega
  · obtain ⟨j, rfl⟩ : ∃ j, k = k' + j := ⟨k - k', by omega⟩
    rw [ord_stay h'] at h
    omega
/-- A word of a row of words. -/
theorem rowC_at (v : Vm) (O : List Int) (t : Nat) (P : List Int) {i : Nat} (h : (i : Int) < sumC v P) : ∃ (j m : Nat) (hj : j < P.length), (m : Int) < v.osz P[j] ∧ (i : Int) = sumC v (P.take j) + m ∧ (rowC v O t P).getD i 0 = wdC v O t P[j] m := by
  induction P generalizing i with
  | nil => simp [sumC] at h; omega
  | cons b r ih =>
    have hz := osz_nonneg v b
    simp only [sumC] at h
    by_cases hb : (i : Int) < v.osz b
    · refine ⟨0, i, by simp, hb, by simp [sumC], ?_⟩
      have hlt : i < (v.osz b).toNat := by omega
      simp only [rowC, List.getElem_cons_zero]
      rw [List.getD_eq_getElem?_getD, List.getElem?_append_left (by simpa using hlt), List.getElem?_map, List.getElem?_range hlt]
      rfl
    · obtain ⟨j, m, hj, h1, h2, h3⟩ := ih (i := i - (v.osz b).toNat) (by omega)
      refine ⟨j + 1, m, by simp only [List.length_cons]; omega, by simpa using h1, by simp only [List.take_succ_cons, sumC]; omega, ?_⟩
      simp only [rowC, List.getElem_cons_succ]
      rw [List.getD_eq_getElem?_getD, List.getElem?_append_right (by simp; omega), ← h3, List.getD_eq_getElem?_getD]
      simp
theorem cp25_end {x : LaidC} {rm : Nat} {v0 v1 v2 u : Vm} {L : List Ob} {k k' kq : Nat} (hr : Run24 x rm v0) (hu : FullN x.n u) (huv : ∀ a : Nat, a < x.n → u.ldV a = (layC x v0).ldV a) (hM : Marks (layC x v0) x.rs x.n L)
    (hE : needE (layC x v0) x.cf.to ((x.cf.to + sizes L : Nat) : Int) = 0) (hD : CpDone (layC x v0) x.rs x.cf L v1 v2 k kq) (hk' : k' = (ordC u x.rs k').length) :
    (rowC u (ordC u x.rs k') x.cf.to (ordC u x.rs k')).length = sizes L ∧
    (∀ i : Nat, i < sizes L → (umN v2 (x.cf.fr / (layC x v0).pl.pg) kq).ldV ((x.cf.to + i : Nat) : Int) = (rowC u (ordC u x.rs k') x.cf.to (ordC u x.rs k')).getD i 0) ∧
    (umN v2 (x.cf.fr / (layC x v0).pl.pg) kq).pl.used = x.pgs (sizes L) ∧
    (∀ a : Int, wentC v1 (ordC v1 x.rs k) x.cf.to a = wentC u (ordC u x.rs k') x.cf.to a) ∧ RowO u x.rs (ordC u x.rs k') := by
  have hs := hr.stays (Stays.layC hr.ok x)
  have hL := laid_in hr.ok hr.map
  obtain ⟨-, hsz, hfo⟩ := hL.marks hr.map hM
  have hS := hM.sound
  have hw1 : Wider (layC x v0) v1 := hD.gr.wider hs.ok
  have hwu : Wider (layC x v0) u := ghost_wider hu hs.n huv
  have o1 := hw1.ord hS k
  have ou := hwu.ord hS k'
  have hke : k = (ordC (layC x v0) x.rs k).length := by rw [← o1.1]; exact hD.ke
  have hke' : k' = (ordC (layC x v0) x.rs k').length := by rw [← ou.1]; exact hk'
  obtain rfl := ord_fix hke hke'
  have hO : ordC v1 x.rs k = ordC u x.rs k := o1.1.trans ou.1.symm
  have hst := hD.st
  have hdone := hD.cx.done hD.ke
  rw [hO] at hst hdone
  obtain ⟨O, hOe⟩ : ∃ O, O = ordC u x.rs k := ⟨_, rfl⟩
  rw [hO, ← hOe]
  rw [← hOe] at hst hdone
  have hOr : ∀ a ∈ O, Rch (layC x v0) x.rs a := by rw [hOe, ou.1]; exact ou.2
  have hrd : ∀ a ∈ O, (layC x v0).rdE a = 0 := fun a ha => hS.rd a (hOr a ha)
  have hwent : ∀ a : Int, wentC v1 O x.cf.to a = wentC u O x.cf.to a := fun a => (hw1.went hrd _ a).trans (hwu.went hrd _ a).symm
  have hsum : sumC u O = sizes L := by rw [hwu.sum hrd, ← hw1.sum hrd]; exact hdone.2
  have hlen : (rowC u O x.cf.to O).length = sizes L := by have := rowC_len u O x.cf.to O; omega
  obtain ⟨u1, u2, u3⟩ := cp24_used hs hsz hE hD
  refine ⟨hlen, fun i hi => ?_, u2, hwent, ?_, fun a ha => ?_⟩
  · obtain ⟨j, m, hj, h1, h2, h3⟩ := rowC_at u O x.cf.to O (i := i) (by omega)
    have hmem := List.getElem_mem hj
    have hR := hOr _ hmem
    obtain ⟨o, ho, hoe⟩ := hM.all _ hR
    have hoz := (hM.mkd.ats o ho).2.2
    have ez1 : v1.osz O[j] = (layC x v0).osz O[j] := by unfold Vm.osz; rw [(hw1.rd (hrd _ hmem)).2]
    have ezu : u.osz O[j] = (layC x v0).osz O[j] := by unfold Vm.osz; rw [(hwu.rd (hrd _ hmem)).2]
    have hl0 : (layC x v0).ldE (O[j] + m) = 0 := by rw [← hoe]; exact hfo o ho m (by rw [hoe] at hoz; omega)
    have ev1 := (hw1.le _ hl0).2
    have evu := (hwu.le _ hl0).2
    have hstk : sumC u (O.take j) = sumC v1 (O.take j) := by
      have hrt : ∀ a ∈ O.take j, (layC x v0).rdE a = 0 := fun a ha => hrd a (List.mem_of_mem_take ha)
      rw [hwu.sum hrt, hw1.sum hrt]
    have hpgs : sizes L ≤ x.pgs (sizes L) * x.page := by
      unfold LaidC.pgs
      have hp := x.page_pos
      have h1 := Nat.div_add_mod (sizes L + x.page - 1) x.page
      have h2 := Nat.mod_lt (sizes L + x.page - 1) (show 0 < x.page by omega)
      have h3 : x.page * ((sizes L + x.page - 1) / x.page) = (sizes L + x.page - 1) / x.page * x.page := Nat.mul_comm _ _
      omega
    have hto : x.cf.to = x.page + 512 := rfl
    rw [u3 (x.cf.to + i) (by omega) (by omega) (by unfold LaidC.n; omega), h3]
    have hidx : ((x.cf.to + i : Nat) : Int) = x.cf.to + sumC v1 (O.take j) + m := by push_cast; omega
    rw [hidx]
    have hp1 : (v1.rdH O[j]).p = ((layC x v0).rdH O[j]).p := by rw [(hw1.rd (hrd _ hmem)).2]
    have hpu : (u.rdH O[j]).p = ((layC x v0).rdH O[j]).p := by rw [(hwu.rd (hrd _ hmem)).2]
    have hjk : j < k := by rw [hk', ← hOe]; exact hj
    have hgd : O.getD j 0 = O[j] := by rw [List.getD_eq_getElem?_getD, List.getElem?_eq_getElem hj]; rfl
    unfold wdC
    by_cases hT : 1 ≤ m ∧ (m : Int) ≤ (u.rdH O[j]).p
    · rw [if_pos hT]
      have := hst.cp.trn j hj m (by omega) ⟨hT.1, .inl ⟨hjk, by rw [hgd, hp1, ← hpu]; exact hT.2⟩⟩
      rw [ev1, hwent, ← evu] at this
      omega
    · rw [if_neg hT, hst.cp.raw j hj m (by omega) (fun ht => hT (by
        obtain ⟨t1, t2 | t2⟩ := ht
        · refine ⟨t1, ?_⟩
          have := t2.2
          rw [hgd, hp1, ← hpu] at this
          exact this
        · omega)), ev1, evu]
  · rw [hOe]; exact ordC_nodup u x.rs k
  · exact (hwu.rch hS a).2 (hOr a ha)
open Classical in
/-- What the roots of a laid heap reach. -/
theorem LaidIn.ex {x : LaidC} {v0 v : Vm} (hl : ∀ a : Nat, x.page ≤ a → a < x.top → v0.ldE a = 0) (h : LaidIn x v0 v x.k) : ∃ L, Marks v x.rs x.n L := by
  have hS := h.sound hl
  have hmem : ∀ j, j < x.k → Rch v x.rs ((x.at j : Nat) : Int) → (x.at j, (v.osz ((x.at j : Nat) : Int)).toNat) ∈ ((List.range x.k).filter (fun j => decide (Rch v x.rs ((x.at j : Nat) : Int)))).map (fun j => (x.at j, (v.osz ((x.at j : Nat) : Int)).toNat)) := fun j hj hr =>
    List.mem_map.2 ⟨j, List.mem_filter.2 ⟨List.mem_range.2 hj, decide_eq_true hr⟩, rfl⟩
  have hout : ∀ o ∈ ((List.range x.k).filter (fun j => decide (Rch v x.rs ((x.at j : Nat) : Int)))).map (fun j => (x.at j, (v.osz ((x.at j : Nat) : Int)).toNat)), ∃ j, j < x.k ∧ Rch v x.rs ((x.at j : Nat) : Int) ∧ o = (x.at j, (v.osz ((x.at j : Nat) : Int)).toNat) := fun o ho => by
    obtain ⟨j, hj, rfl⟩ := List.mem_map.1 ho
    obtain ⟨h1, h2⟩ := List.mem_filter.1 hj
    exact ⟨j, List.mem_range.1 h1, of_decide_eq_true h2, rfl⟩
  have hhs : ∀ a, Rch v x.rs a → Hs (((List.range x.k).filter (fun j => decide (Rch v x.rs ((x.at j : Nat) : Int)))).map (fun j => (x.at j, (v.osz ((x.at j : Nat) : Int)).toNat))) a := fun a ha => by
    obtain ⟨j, hj, rfl⟩ := h.rch hl ha
    exact ⟨_, hmem j hj ha, rfl⟩
  refine ⟨_, ⟨⟨⟨?_, fun o ho => ?_⟩, fun o ho => ?_⟩, hhs, fun o ho => ?_⟩⟩
  · rw [List.pairwise_map]
    refine List.Pairwise.imp_of_mem ?_ (List.Pairwise.filter _ List.pairwise_lt_range)
    intro i j hi hj hij
    have hjk := List.mem_range.1 (List.mem_filter.1 hj).1
    obtain ⟨p, f, c, e, -, -, hz⟩ := h.ob hl (j := i) (by omega)
    have h1 := at_next (x := x) (by omega) e
    have h2 := at_mono (x := x) (i := i + 1) (j := j) (by omega)
    dsimp only
    rw [hz]
    omega
  · obtain ⟨j, hj, hr, rfl⟩ := hout o ho
    have h1 := hS.rm _ hr
    have h2 := osz_pos (hS.rd _ hr)
    dsimp only
    omega
  · obtain ⟨j, hj, hr, rfl⟩ := hout o ho
    have h2 := osz_pos (hS.rd _ hr)
    exact ⟨hr, hS.rd _ hr, by dsimp only; omega⟩
  · obtain ⟨j, hj, hr, rfl⟩ := hout o ho
    intro i hi
    have hpt := hS.pt _ hr i hi
    exact ⟨hpt, fun h0 => hhs _ (hr.step ⟨hS.rd _ hr, i, hi, hpt, h0, rfl⟩)⟩
/-- Whether there are frames enough. -/
theorem need25 {x : LaidC} {rm : Nat} {v0 : Vm} (hr : Run24 x rm v0) {s : Nat} (hs : s ≤ 512) : needE (layC x v0) x.cf.to ((x.cf.to + s : Nat) : Int) = if rm < (layC x v0).pl.used + x.pgs s then 14 else 0 := by
  have h1 := hr.stays (Stays.layC hr.ok x)
  rw [(need_cp h1 hs).1]
  by_cases h0 : s = 0
  · have e0 : x.pgs s = 0 := by rw [h0]; unfold LaidC.pgs; have := x.page_pos; exact Nat.div_eq_of_lt (by omega)
    have hu : (layC x v0).pl.used ≤ rm := by
      have h4 := h1.ok.pl.us
      have h5 := h1.ok.pl.le
      rw [h1.rm] at h5
      omega
    rw [if_pos (.inl h0), if_neg (by omega)]
  · by_cases h3 : (layC x v0).pl.used + x.pgs s ≤ rm
    · rw [if_pos (.inr h3), if_neg (by omega)]
    · rw [if_neg (fun h => h.elim h0 h3), if_pos (by omega)]
end Go.Proofs.YtbmidhlilafgeaaGreatDoor
