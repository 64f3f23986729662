/- Package copying: the plain law of Run. -/
import Derived.Test.YtbmidhlilafgeaaGreatDoorCpSound
namespace Go.Proofs.YtbmidhlilafgeaaGreatDoor
open Go.RowKit Word

/-- What Need maps can be loaded. -/
theorem need_map {v v1 : Vm} (h : VmOk v) {f t : Nat} (ht : t ≤ v.n) (hE : needE v f t = 0) (hG : Grown v v1 (needF v f t)) {a : Nat} (h1 : f ≤ a) (h2 : a < t) : v1.ldE a = 0 := by
  have hp := h.page
  have hF : needF v f t = unmL v ((f : Int) / v.pl.pg).toNat (pgsN v f t) := by unfold needF; rw [if_pos ⟨hE, by omega⟩]
  rw [hG.ldE h (by omega), hF]
  by_cases h0 : v.pt.getD (a / v.pl.pg) 0 = 0
  · rw [if_pos]
    rw [unmL_mem]
    refine ⟨?_, h0⟩
    have e1 : ((f : Int) / (v.pl.pg : Int)).toNat = f / v.pl.pg := by rw [← Int.natCast_ediv]; exact Int.toNat_natCast _
    have e2 : pgsN v f t = (t - 1) / v.pl.pg + 1 - f / v.pl.pg := by
      unfold pgsN
      rw [show (t : Int) - 1 = ((t - 1 : Nat) : Int) by omega, ← Int.natCast_ediv, ← Int.natCast_ediv]
      have : f / v.pl.pg ≤ (t - 1) / v.pl.pg := Nat.div_le_div_right (by omega)
      omega
    have g1 : f / v.pl.pg ≤ a / v.pl.pg := Nat.div_le_div_right h1
    have g2 : a / v.pl.pg ≤ (t - 1) / v.pl.pg := Nat.div_le_div_right (by omega)
    rw [e1, e2]
    omega
  · split
    · rfl
    · rw [h.ldE_of (by omega), if_neg h0]
theorem need_none {v : Vm} {f : Nat} (hf : f ≤ v.n) : needE v f f = 0 ∧ needF v f f = [] := by
  have hE : needE v f f = 0 := by unfold needE; rw [if_neg (by omega), if_pos (Int.le_refl _)]
  refine ⟨hE, ?_⟩
  unfold needF
  rw [if_neg (fun h => by have := h.2; omega)]
/-- What copying finds once the pages are there. -/
theorem cp_ctx {v v1 : Vm} (h : VmOk v) {rs : List Int} {c : Cf} (hc : CpOk v rs c) {L : List Ob} (hM : Marks v rs v.n L) (hE : needE v c.to ((c.to + sizes L : Nat) : Int) = 0) (hG : Grown v v1 (needF v c.to ((c.to + sizes L : Nat) : Int)))
    (hm : ∀ a : Nat, c.fr ≤ a → a < c.tp → v.ldE a = 0) : CopyCtx v1 rs L c.to ∧ FullOb v1 L := by
  obtain ⟨hin, htot⟩ := hc.inn L hM
  have hw := hG.wider h
  have hp := h.page
  have hcf := hc.cf
  have hln := hcf.ln
  have hto := hcf.to
  refine ⟨⟨hG.ok, ?_, by omega, fun o ho => ?_, fun a h1 h2 => need_map h (by omega) hE hG h1 h2, by rw [hG.n]; omega⟩, fun o ho m hmo => ?_⟩
  · rw [hG.n]; exact hw.marks hM
  · have hi := hin o ho
    have hs : 1 ≤ o.2 := (hM.mkd.good.sz o ho).1
    have hsz : 1 ≤ sizes L := by
      have : ∀ l : List Ob, o ∈ l → o.2 ≤ sizes l := fun l => by
        induction l with
        | nil => intro h; cases h
        | cons b r ih =>
          intro h
          simp only [sizes]
          rcases List.mem_cons.1 h with rfl | h
          · omega
          · have := ih h; omega
      have := this L ho
      omega
    have hup : c.tp ≤ upN c.tp v.pl.pg := by
      unfold upN
      have h1 := Nat.div_add_mod (c.tp + v.pl.pg - 1) v.pl.pg
      have h2 := Nat.mod_lt (c.tp + v.pl.pg - 1) (show 0 < v.pl.pg by omega)
      rw [Nat.mul_comm] at h1
      omega
    have hap := hcf.ap
    by_cases h1 : c.fr < c.lm
    · left
      have : ¬ c.to < upN c.tp v.pl.pg := fun h2 => hap ⟨by omega, by omega, h1, h2⟩
      omega
    · right; omega
  · have hi := hin o ho
    have := hm (o.1 + m) (by omega) (by omega)
    exact (hw.le _ (by rw [show (o.1 : Int) + m = ((o.1 + m : Nat) : Int) by omega]; exact this)).1
/-- Where copying comes to. -/
structure CpDone (v : Vm) (rs : List Int) (c : Cf) (L : List Ob) (v1 v2 : Vm) (k kq : Nat) : Prop where
  gr : Grown v v1 (needF v c.to ((c.to + sizes L : Nat) : Int))
  cx : CopyCtx v1 rs L c.to
  fo : FullOb v1 L
  ke : k = (ordC v1 rs k).length
  st : CpS v1 rs L c.to (ordC v1 rs k) k 0 v2
  q1 : ∀ j, j < kq → (c.fr / v.pl.pg + j) * v.pl.pg < c.tp
  q2 : c.tp ≤ (c.fr / v.pl.pg + kq) * v.pl.pg
theorem ord_take (v : Vm) (rs : List Int) (k : Nat) {j : Nat} (h : j ≤ (ordC v rs k).length) : (ordC v rs (k + 1)).take j = (ordC v rs k).take j := by
  obtain ⟨X, hX⟩ := ordC_ext v rs k
  rw [hX, List.take_append_of_le_length h]
theorem ord_next {v : Vm} {rs : List Int} {k : Nat} (h : k < (ordC v rs k).length) : ordC v rs (k + 1) = addsC (ordC v rs k) (ptsC v ((ordC v rs k).getD k 0)) := by
  show (if _ then _ else _) = _
  rw [if_pos h]
theorem wentC_all {v : Vm} {rs : List Int} {L : List Ob} {to : Nat} (c : CopyCtx v rs L to) {O X : List Int} (hR : ∀ a ∈ O ++ X, Rch v rs a) {l : List Int} (hl : ∀ a ∈ l, a = 0 ∨ a ∈ O) : l.map (fun a => wentC v (O ++ X) to a) = l.map (fun a => wentC v O to a) := by
  apply List.map_congr_left
  intro a ha
  exact wentC_ext v X to (fun h => by have := (osz_pos (c.mks.sound.rd _ (hR 0 h))).1; omega) (hl a ha)
end Go.Proofs.YtbmidhlilafgeaaGreatDoor
