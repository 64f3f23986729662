/- Package object: Read, place, get, Pointer over a paged memory. -/
import Derived.Test.YtlkifhoedfjlaaaGreatDoorVmN
import Derived.Test.YtlkifhoedfjlaaaGreatDoorHdrB
namespace Go.Proofs.YtlkifhoedfjlaaaGreatDoor
open Go.RowKit Word

/-- A paged memory as a trap.Space. -/
def spV (q : Nat) : Value := .iface 29 (.pointer (some ⟨q, 0, none⟩))
theorem nil_load (n : Nat) (a : Addr) (w : World) : (nilAhead (n + 1) 29 (.pointer (some a)) "Load").run Tryz.prog w = .ok (some false) w := by kernel_rfl
theorem method_load (n : Nat) (a : Addr) (w : World) : (method (n + 1) 29 (.pointer (some a)) "Load").run Tryz.prog w = .ok (20, .pointer (some a)) w := by kernel_rfl
def Vm.rdH (v : Vm) (a : Int) : Hdr := if 0 < a ∧ v.ldE a = 0 then tkH (v.ldV a) else ⟨0, 0, 0⟩
def Vm.rdE (v : Vm) (a : Int) : Int := if a = 0 then 18 else if a < 0 then 5 else if v.ldE a = 0 then tkE (v.ldV a) else v.ldE a
theorem VmOk.ldV_lt {v : Vm} (h : VmOk v) (a : Int) : v.ldV a < 18446744073709551616 := by
  unfold Vm.ldV
  split
  · rw [List.getD_eq_getElem?_getD]
    rcases Nat.lt_or_ge (v.at a) v.pl.wd.length with hl | hl
    · rw [List.getElem?_eq_getElem hl]; exact h.pl.w64 _ (List.getElem_mem hl)
    · rw [List.getElem?_eq_none hl]; decide
  · decide
theorem rd_gr {w w1 : World} (hg : Gr w w1) {x y z : Value} : Gr w (((w1.setCell ⟨w.heap.size, 0, none⟩ x).setCell ⟨w.heap.size, 1, none⟩ y).setCell ⟨w.heap.size, 2, none⟩ z) := by
  have h1 : Touch (fun k => w.heap.size ≤ k) w w1 := hg.touch _
  have h2 := ((h1.setCell (a := ⟨w.heap.size, 0, none⟩) (fun _ => Nat.le_refl _) x).setCell (a := ⟨w.heap.size, 1, none⟩) (fun _ => Nat.le_refl _) y).setCell (a := ⟨w.heap.size, 2, none⟩) (fun _ => Nat.le_refl _) z
  exact (h2.mono (fun k hk h => by omega)).gr
section
variable {w : World} {S : Nat → Prop} {q : Nat} {v : Vm}
set_option maxRecDepth 100000 in
set_option maxHeartbeats 1600000 in
theorem obj_read (hV : VmAt w S q v) (a : Int) : Calls Tryz.prog 87 #[spV q, .int .i64 a] w fun e w' => e = .returned (.tuple #[hdrV (v.rdH a), .int .i64 (v.rdE a)]) ∧ Gr w w' := by
  have HV := hid hV
  have hx := hV.ok.ldV_lt a
  unfold spV
  have n1 := nil_load
  have n2 := method_load
  clear hV
  have KL := hid (fun (W : World) (blk : Nat) (p q r : Value) => load_hdr W blk p q r)
  rcases (by omega : a = 0 ∨ a < 0 ∨ 0 < a) with h0 | h0 | h0
  · subst h0
    go_enter Tryz.func87, Tryz.ntmps87
    go_wp2
    refine bodyPost_ret (v := .tuple #[hdrV ⟨0, 0, 0⟩, .int .i64 18]) ?_ rfl ?_
    · rw [results_cell_tmp rfl]
      simp [asAddr, Result.andThen, go_sem]
      rfl
    · exact ⟨rfl, (Gr.refl w).alloc _⟩
  · have d0 : (a == 0) = false := by simp; omega
    have d1 : decide (a < 0) = true := decide_eq_true h0
    have HE : Hid (v.rdH a = ⟨0, 0, 0⟩ ∧ v.rdE a = 5) := ⟨⟨if_neg (by omega), by unfold Vm.rdE; rw [if_neg (by omega), if_pos h0]⟩⟩
    go_enter Tryz.func87, Tryz.ntmps87
    go_wp2
    refine bodyPost_ret (v := .tuple #[hdrV ⟨0, 0, 0⟩, .int .i64 5]) ?_ rfl ?_
    · rw [results_cell_tmp rfl]
      simp [asAddr, Result.andThen, go_sem]
      rfl
    · exact ⟨by rw [HE.out.1, HE.out.2], (Gr.refl w).alloc _⟩
  · have d0 : (a == 0) = false := by simp; omega
    have d1 : decide (a < 0) = false := decide_eq_false (by omega)
    by_cases hE : v.ldE a = 0
    · have HE : Hid (v.rdH a = tkH (v.ldV a) ∧ v.rdE a = tkE (v.ldV a)) := ⟨⟨if_pos ⟨h0, hE⟩, by unfold Vm.rdE; rw [if_neg (by omega), if_neg (by omega), if_pos hE]⟩⟩
      have HL := hid hE
      have HT := hid (fun W => hdr_take hx W)
      have hh : hdrV (tkH (v.ldV a)) = .agg #[.int .i64 (tkH (v.ldV a)).p, .int .i64 (tkH (v.ldV a)).f, .int .i64 (tkH (v.ldV a)).k] := rfl
      rw [hh] at HT
      generalize tkH (v.ldV a) = h at HT HE
      generalize tkE (v.ldV a) = er at HT HE
      obtain ⟨p, f, k⟩ := h
      clear hE hh
      go_enter Tryz.func87, Tryz.ntmps87
      go_wp2_with (first
        | (go_at_call 20; refine (vm_load (HV.out.gr ((Gr.refl w).alloc _)) a).mono ?_; rintro e w1 ⟨rfl, hg1⟩; rw [HL.out]; have HG1 := hid (((Gr.refl w).alloc _).trans hg1); have HR1 := hid ((Rec.new w 52 [.int .i64 0, .int .i64 0, .int .i64 0]).gr hg1); clear hg1)
        | (go_at_call 105; refine (HT.out _).mono ?_; rintro e w2 ⟨rfl, hg2⟩; have r2 := HR1.out.gr hg2; have k0 := r2.cell (j := 0) rfl; have k1 := r2.cell (j := 1) rfl; have k2 := r2.cell (j := 2) rfl; have kf := r2.free; have HR2 := hid r2; have HG2 := hid hg2; clear hg2 r2))
      have R3 := Rec.set (Rec.set (Rec.set HR2.out 0 (.int .i64 p)) 1 (.int .i64 f)) 2 (.int .i64 k)
      refine bodyPost_ret (v := .tuple #[hdrV ⟨p, f, k⟩, .int .i64 er]) ?_ rfl ?_
      · rw [results_cell_tmp rfl]
        have hl := KL.out _ w.heap.size _ _ _ (R3.cell (j := 0) rfl) (R3.cell (j := 1) rfl) (R3.cell (j := 2) rfl)
        simp [asAddr, Result.andThen, hl, hdrV]
      · exact ⟨by rw [HE.out.1, HE.out.2], rd_gr (HG1.out.trans HG2.out)⟩
    · have HE : Hid (v.rdH a = ⟨0, 0, 0⟩ ∧ v.rdE a = v.ldE a) := ⟨⟨if_neg (fun h => hE h.2), by unfold Vm.rdE; rw [if_neg (by omega), if_neg (by omega), if_neg hE]⟩⟩
      obtain ⟨y, hy⟩ : ∃ y, y = v.ldE a := ⟨_, rfl⟩
      have d2 : (y == 0) = false := by rw [hy]; simpa using hE
      have HY := hid hy
      clear hE hy
      go_enter Tryz.func87, Tryz.ntmps87
      go_wp2_with (go_at_call 20; refine (vm_load (HV.out.gr ((Gr.refl w).alloc _)) a).mono ?_; rintro e w1 ⟨rfl, hg1⟩; rw [← HY.out]; have r2 := (Rec.new w 52 [.int .i64 0, .int .i64 0, .int .i64 0]).gr hg1; have k0 := r2.cell (j := 0) rfl; have k1 := r2.cell (j := 1) rfl; have k2 := r2.cell (j := 2) rfl; have kf := r2.free; have HR1 := hid r2; have HG1 := hid (((Gr.refl w).alloc _).trans hg1); clear hg1 r2)
      have R3 := Rec.set (Rec.set (Rec.set HR1.out 0 (.int .i64 0)) 1 (.int .i64 0)) 2 (.int .i64 0)
      refine bodyPost_ret (v := .tuple #[hdrV ⟨0, 0, 0⟩, .int .i64 y]) ?_ rfl ?_
      · rw [results_cell_tmp rfl]
        have hl := KL.out _ w.heap.size _ _ _ (R3.cell (j := 0) rfl) (R3.cell (j := 1) rfl) (R3.cell (j := 2) rfl)
        simp [asAddr, Result.andThen, hl, hdrV]
      · exact ⟨by rw [HE.out.1, HE.out.2, HY.out], rd_gr HG1.out⟩
end
end Go.Proofs.YtlkifhoedfjlaaaGreatDoor
