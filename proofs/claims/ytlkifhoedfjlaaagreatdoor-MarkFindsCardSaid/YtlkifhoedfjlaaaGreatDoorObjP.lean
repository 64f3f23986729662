/- Package object: place, get, Pointer over a paged memory. -/
import Derived.Test.YtlkifhoedfjlaaaGreatDoorObjR
namespace Go.Proofs.YtlkifhoedfjlaaaGreatDoor
open Go.RowKit Word

def Vm.plE (v : Vm) (a i kd : Int) : Int := if v.rdE a ≠ 0 then v.rdE a else if kindOf (v.rdH a) i = kd then 0 else if kindOf (v.rdH a) i = 0 then 19 else 20
def Vm.plA (v : Vm) (a i kd : Int) : Int := if v.plE a i kd = 0 then a + 1 + i else 0
def Vm.gtE (v : Vm) (a i kd : Int) : Int := if v.plE a i kd ≠ 0 then v.plE a i kd else v.ldE (a + 1 + i)
def Vm.gtV (v : Vm) (a i kd : Int) : Nat := if v.plE a i kd ≠ 0 then 0 else v.ldV (a + 1 + i)
def Vm.ptE (v : Vm) (a i : Int) : Int := if v.gtE a i 1 ≠ 0 then v.gtE a i 1 else if 2147483647 < v.gtV a i 1 then 25 else 0
def Vm.ptV (v : Vm) (a i : Int) : Nat := if v.ptE a i = 0 then v.gtV a i 1 else 0
theorem tkE_zero {x : Nat} (h : tkE x = 0) : ∃ p f k : Nat, tkH x = ⟨p, f, k⟩ ∧ p + f + k ≤ 255 := by
  unfold tkE at h
  split at h
  · rename_i ho
    refine ⟨x % 256, x / 256 % 256, x / 65536 % 256, if_pos ho, ?_⟩
    unfold tkOk at ho
    simp only [Bool.and_eq_true, decide_eq_true_eq] at ho
    exact ho.2
  · cases h
theorem tkE_range (x : Nat) : tkE x = 0 ∨ tkE x = 16 := by unfold tkE; split <;> simp
theorem ldE_range (v : Vm) (a : Int) : v.ldE a = 0 ∨ v.ldE a = 11 ∨ v.ldE a = 12 := by
  unfold Vm.ldE
  split
  · rcases pgE_of (pt := v.pt) (p := a / v.pl.pg) with h | h | h <;> rw [h] <;> simp
  · simp
theorem rdE_zero {v : Vm} {a : Int} (h : v.rdE a = 0) : 0 < a ∧ v.ldE a = 0 ∧ ∃ p f k : Nat, v.rdH a = ⟨p, f, k⟩ ∧ p + f + k ≤ 255 := by
  unfold Vm.rdE at h
  split at h
  · cases h
  · split at h
    · cases h
    · split at h
      · rename_i h0
        have ha : 0 < a := by omega
        refine ⟨ha, h0, ?_⟩
        obtain ⟨p, f, k, e1, e2⟩ := tkE_zero h
        exact ⟨p, f, k, by unfold Vm.rdH; rw [if_pos ⟨ha, h0⟩]; exact e1, e2⟩
      · rename_i h0
        exact absurd h h0
theorem ldE_in {v : Vm} {a : Int} (h : v.ldE a = 0) : 0 ≤ a ∧ a < v.n := by
  obtain ⟨j, rfl, hj, -⟩ := VmOk.hit h
  omega
section
variable {w : World} {S : Nat → Prop} {q : Nat} {v : Vm}
set_option maxRecDepth 100000 in
set_option maxHeartbeats 1600000 in
theorem obj_place (hV : VmAt w S q v) (a i kd : Int) (hk : kd ≠ 0) : Calls Tryz.prog 110 #[spV q, .int .i64 a, .int .i64 i, .int .i64 kd] w fun e w' => e = .returned (.tuple #[.int .i64 (v.plA a i kd), .int .i64 (v.plE a i kd)]) ∧ Gr w w' := by
  have HV := hid hV
  have hn := hV.ok.n2
  have HRD := hid (fun (w' : World) (g : Gr w w') => obj_read (hV.gr g) a)
  by_cases hE : v.rdE a = 0
  · obtain ⟨ha, hl, p, f, k, hh, hs⟩ := rdE_zero hE
    have hr := ldE_in hl
    rw [hh] at HRD
    have HP : Hid (v.plE a i kd = if kindOf ⟨p, f, k⟩ i = kd then 0 else if kindOf ⟨p, f, k⟩ i = 0 then 19 else 20) := ⟨by unfold Vm.plE; rw [if_neg (fun h => h hE), hh]⟩
    have HA : Hid (v.plA a i kd = if v.plE a i kd = 0 then a + 1 + i else 0) := ⟨rfl⟩
    have HK := hid (fun W => hdr_kind hs i W)
    have hN : hdrN ⟨p, f, k⟩ = 1 + (p : Int) + f + k := if_pos (hdrE_of hs)
    have hki : kindOf ⟨p, f, k⟩ i ≠ 0 → 0 ≤ i ∧ i < 255 := fun h => by
      unfold kindOf at h
      split at h
      · rename_i h'
        rw [hN] at h'
        omega
      · exact absurd rfl h
    generalize kindOf ⟨(p : Int), (f : Int), (k : Int)⟩ i = kk at HP HK hki
    have HE := hid hE
    clear hE hl hh hs hN hV
    unfold hdrV at HRD HK
    by_cases h1 : kk = kd
    · have e0 : v.plE a i kd = 0 := by rw [HP.out, if_pos h1]
      have HE0 : Hid (v.plE a i kd = 0 ∧ v.plA a i kd = a + 1 + i) := ⟨⟨e0, by rw [HA.out, if_pos e0]⟩⟩
      have hii := hki (by rw [h1]; exact hk)
      have d0 : (kk == kd) = true := by simpa using h1
      clear h1 hki HP HA e0
      go_enter Tryz.func110, Tryz.ntmps110
      go_wp2_with (first
        | (go_at_call 87; refine (HRD.out _ (Gr.refl w)).mono ?_; rintro e w1 ⟨rfl, hg1⟩; rw [HE.out]; have HG1 := hid hg1; clear hg1)
        | (go_at_call 111; refine (HK.out _).mono ?_; rintro e w2 ⟨rfl, hg2⟩; have HG2 := hid hg2; clear hg2))
      go_ret2
      exact ⟨ret2 (vint (by rw [HE0.out.2])) (vint (by rw [HE0.out.1])), (HG1.out.alloc _).trans HG2.out⟩
    · have d0 : (kk == kd) = false := by simpa using h1
      by_cases h2 : kk = 0
      · have e0 : v.plE a i kd = 19 := by rw [HP.out, if_neg h1, if_pos h2]
        have HE0 : Hid (v.plE a i kd = 19 ∧ v.plA a i kd = 0) := ⟨⟨e0, by rw [HA.out, if_neg (by rw [e0]; decide)]⟩⟩
        have d1 : (kk == 0) = true := by simpa using h2
        clear h1 h2 hki HP HA e0
        go_enter Tryz.func110, Tryz.ntmps110
        go_wp2_with (first
          | (go_at_call 87; refine (HRD.out _ (Gr.refl w)).mono ?_; rintro e w1 ⟨rfl, hg1⟩; rw [HE.out]; have HG1 := hid hg1; clear hg1)
          | (go_at_call 111; refine (HK.out _).mono ?_; rintro e w2 ⟨rfl, hg2⟩; have HG2 := hid hg2; clear hg2))
        go_ret2
        exact ⟨ret2 (vint (by rw [HE0.out.2])) (vint (by rw [HE0.out.1])), (HG1.out.alloc _).trans HG2.out⟩
      · have e0 : v.plE a i kd = 20 := by rw [HP.out, if_neg h1, if_neg h2]
        have HE0 : Hid (v.plE a i kd = 20 ∧ v.plA a i kd = 0) := ⟨⟨e0, by rw [HA.out, if_neg (by rw [e0]; decide)]⟩⟩
        have d1 : (kk == 0) = false := by simpa using h2
        clear h1 h2 hki HP HA e0
        go_enter Tryz.func110, Tryz.ntmps110
        go_wp2_with (first
          | (go_at_call 87; refine (HRD.out _ (Gr.refl w)).mono ?_; rintro e w1 ⟨rfl, hg1⟩; rw [HE.out]; have HG1 := hid hg1; clear hg1)
          | (go_at_call 111; refine (HK.out _).mono ?_; rintro e w2 ⟨rfl, hg2⟩; have HG2 := hid hg2; clear hg2))
        go_ret2
        exact ⟨ret2 (vint (by rw [HE0.out.2])) (vint (by rw [HE0.out.1])), (HG1.out.alloc _).trans HG2.out⟩
  · have e1 : v.plE a i kd = v.rdE a := by unfold Vm.plE; rw [if_pos hE]
    have HE0 : Hid (v.plE a i kd = v.rdE a ∧ v.plA a i kd = 0) := ⟨⟨e1, by unfold Vm.plA; rw [if_neg (by rw [e1]; exact hE)]⟩⟩
    obtain ⟨y, hy⟩ : ∃ y, y = v.rdE a := ⟨_, rfl⟩
    have d2 : (y == 0) = false := by rw [hy]; simpa using hE
    rw [← hy] at HE0 HRD
    clear hE hy e1 hV
    unfold hdrV at HRD
    go_enter Tryz.func110, Tryz.ntmps110
    go_wp2_with (go_at_call 87; refine (HRD.out _ (Gr.refl w)).mono ?_; rintro e w1 ⟨rfl, hg1⟩; have HG1 := hid hg1; clear hg1)
    go_ret2
    exact ⟨ret2 (vint (by rw [HE0.out.2])) (vint (by rw [HE0.out.1])), HG1.out.alloc _⟩
set_option maxRecDepth 100000 in
set_option maxHeartbeats 1600000 in
theorem obj_get (hV : VmAt w S q v) (a i kd : Int) (hk : kd ≠ 0) : Calls Tryz.prog 107 #[spV q, .int .i64 a, .int .i64 i, .int .i64 kd] w fun e w' => e = .returned (.tuple #[.int .u64 (v.gtV a i kd : Nat), .int .i64 (v.gtE a i kd)]) ∧ Gr w w' := by
  have HV := hid hV
  have HRD := hid (fun (w' : World) (g : Gr w w') => obj_place (hV.gr g) a i kd hk)
  have n1 := nil_load
  have n2 := method_load
  unfold spV at HRD ⊢
  by_cases hE : v.plE a i kd = 0
  · have HE : Hid (v.gtE a i kd = v.ldE (a + 1 + i) ∧ v.gtV a i kd = v.ldV (a + 1 + i)) := ⟨⟨if_neg (fun h => h hE), if_neg (fun h => h hE)⟩⟩
    have HA : Hid (v.plA a i kd = a + 1 + i) := ⟨if_pos hE⟩
    rw [hE, HA.out] at HRD
    have HL := hid (fun (w' : World) (g : Gr w w') => vm_load (hV.gr g) (a + 1 + i))
    generalize a + 1 + i = at' at HE HRD HL
    clear hE hV HA
    go_enter Tryz.func107, Tryz.ntmps107
    go_wp2_with (first
      | (go_at_call 110; refine (HRD.out _ (Gr.refl w)).mono ?_; rintro e w1 ⟨rfl, hg1⟩; have HG1 := hid hg1; clear hg1)
      | (go_at_call 20; refine (HL.out _ HG1.out).mono ?_; rintro e w2 ⟨rfl, hg2⟩; have HG2 := hid hg2; clear hg2))
    go_ret2
    exact ⟨ret2 (congrArg (fun n : Nat => Value.int .u64 (n : Int)) HE.out.2.symm) (vint HE.out.1.symm), HG1.out.trans HG2.out⟩
  · have HE : Hid (v.gtE a i kd = v.plE a i kd ∧ v.gtV a i kd = 0) := ⟨⟨if_pos hE, if_pos hE⟩⟩
    obtain ⟨y, hy⟩ : ∃ y, y = v.plE a i kd := ⟨_, rfl⟩
    have d2 : (y == 0) = false := by rw [hy]; simpa using hE
    rw [← hy] at HE HRD
    clear hE hy hV
    go_enter Tryz.func107, Tryz.ntmps107
    go_wp2_with (go_at_call 110; refine (HRD.out _ (Gr.refl w)).mono ?_; rintro e w1 ⟨rfl, hg1⟩; have HG1 := hid hg1; clear hg1)
    go_ret2
    exact ⟨ret2 (congrArg (fun n : Nat => Value.int .u64 (n : Int)) HE.out.2.symm) (vint HE.out.1.symm), HG1.out⟩
theorem gtV_lt (hok : VmOk v) (a i kd : Int) : v.gtV a i kd < 18446744073709551616 := by
  unfold Vm.gtV
  split
  · decide
  · exact hok.ldV_lt _
set_option maxRecDepth 100000 in
set_option maxHeartbeats 1600000 in
theorem obj_pointer (hV : VmAt w S q v) (a i : Int) : Calls Tryz.prog 91 #[spV q, .int .i64 a, .int .i64 i] w fun e w' => e = .returned (.tuple #[.int .i64 (v.ptV a i : Nat), .int .i64 (v.ptE a i)]) ∧ Gr w w' := by
  have HRD := hid (fun (w' : World) (g : Gr w w') => obj_get (hV.gr g) a i 1 (by decide))
  have hx := gtV_lt hV.ok a i 1
  unfold spV at HRD ⊢
  by_cases hE : v.gtE a i 1 = 0
  · by_cases hb : 2147483647 < v.gtV a i 1
    · have e1 : v.ptE a i = 25 := by unfold Vm.ptE; rw [if_neg (fun h => h hE), if_pos hb]
      have HE : Hid (v.ptE a i = 25 ∧ v.ptV a i = 0) := ⟨⟨e1, by unfold Vm.ptV; rw [if_neg (by rw [e1]; decide)]⟩⟩
      rw [hE] at HRD
      generalize v.gtV a i 1 = x at HRD hb hx
      have d0 : decide (2147483647 < (x : Int)) = true := decide_eq_true (by omega)
      clear hE hV e1
      go_enter Tryz.func91, Tryz.ntmps91
      go_wp2_with (go_at_call 107; refine (HRD.out _ (Gr.refl w)).mono ?_; rintro e w1 ⟨rfl, hg1⟩; have HG1 := hid hg1; clear hg1)
      go_ret2
      exact ⟨ret2 (congrArg (fun n : Nat => Value.int .i64 (n : Int)) HE.out.2.symm) (vint HE.out.1.symm), HG1.out⟩
    · have e1 : v.ptE a i = 0 := by unfold Vm.ptE; rw [if_neg (fun h => h hE), if_neg hb]
      have HE : Hid (v.ptE a i = 0 ∧ v.ptV a i = v.gtV a i 1) := ⟨⟨e1, by unfold Vm.ptV; rw [if_pos e1]⟩⟩
      rw [hE] at HRD
      generalize v.gtV a i 1 = x at HRD hb hx HE
      have d0 : decide (2147483647 < (x : Int)) = false := decide_eq_false (by omega)
      clear hE hV e1
      go_enter Tryz.func91, Tryz.ntmps91
      go_wp2_with (go_at_call 107; refine (HRD.out _ (Gr.refl w)).mono ?_; rintro e w1 ⟨rfl, hg1⟩; have HG1 := hid hg1; clear hg1)
      go_ret2
      exact ⟨ret2 (congrArg (fun n : Nat => Value.int .i64 (n : Int)) HE.out.2.symm) (vint HE.out.1.symm), HG1.out⟩
  · have e1 : v.ptE a i = v.gtE a i 1 := by unfold Vm.ptE; rw [if_pos hE]
    have HE : Hid (v.ptE a i = v.gtE a i 1 ∧ v.ptV a i = 0) := ⟨⟨e1, by unfold Vm.ptV; rw [if_neg (by rw [e1]; exact hE)]⟩⟩
    obtain ⟨y, hy⟩ : ∃ y, y = v.gtE a i 1 := ⟨_, rfl⟩
    have d2 : (y == 0) = false := by rw [hy]; simpa using hE
    rw [← hy] at HE HRD
    clear hE hy hV e1
    go_enter Tryz.func91, Tryz.ntmps91
    go_wp2_with (go_at_call 107; refine (HRD.out _ (Gr.refl w)).mono ?_; rintro e w1 ⟨rfl, hg1⟩; have HG1 := hid hg1; clear hg1)
    go_ret2
    exact ⟨ret2 (congrArg (fun n : Nat => Value.int .i64 (n : Int)) HE.out.2.symm) (vint HE.out.1.symm), HG1.out⟩
end
end Go.Proofs.YtlkifhoedfjlaaaGreatDoor
