/- extent's New, Add, Drop, Wipe. -/
import Derived.Test.YtlbbkpjfoabobaaDoorExtB
import Derived.Test.YtlbbkpjfoabobaaDoorVecF
namespace Go.Proofs.YtlbbkpjfoabobaaDoor
open Go.RowKit Word

/-- The blocks that a map's own methods may write. -/
def mine (m b1 b2 : Nat) (k : Nat) : Prop := k = m ∨ k = b1 ∨ k = b2
section
variable {w : World} {m p1 b1 p2 b2 n : Nat} {L : List Ob}
theorem Ext.changed (hE : Ext w m p1 b1 p2 b2 n L) {w1 w2 : World} {L' : List Ob} (hg : Good n L') (t1 : Touch (fun k => k = b1) w w1) (v1 : Vec w1 p1 b1 (startsL n L')) (t2 : Touch (fun k => k = b2) w1 w2) (v2 : Vec w2 p2 b2 (endsL n L')) {z : Int} (hz : z = L'.length) :
    Ext (w2.setCell ⟨m, 2, none⟩ (.int .i64 z)) m p1 b1 p2 b2 n L' ∧ Touch (mine m b1 b2) w (w2.setCell ⟨m, 2, none⟩ (.int .i64 z)) := by
  have t3 : Touch (fun k => k = m) w2 (w2.setCell ⟨m, 2, none⟩ (.int .i64 z)) := (Touch.refl (fun k => k = m) w2).setCell (a := ⟨m, 2, none⟩) (fun _ => rfl) _
  obtain ⟨a1, a2, a3, a4⟩ := hE.am
  obtain ⟨a5, a6, a7⟩ := hE.ab
  have hm1 : m < w1.heap.size := Nat.lt_of_lt_of_le hE.hm t1.size
  have hm2 : m < w2.heap.size := Nat.lt_of_lt_of_le hm1 t2.size
  have e : ∀ o, w2.cell? ⟨m, o, none⟩ = w.cell? ⟨m, o, none⟩ := fun o => (t2.cell hm1 (by omega) o).trans (t1.cell hE.hm (by omega) o)
  have o : ∀ o, o ≠ 2 → (w2.setCell ⟨m, 2, none⟩ (.int .i64 z)).cell? ⟨m, o, none⟩ = w.cell? ⟨m, o, none⟩ := fun o ho => by
    rw [World.cell?_setCell_other (h := by intro e2; injection e2 with _ e3; omega), e o]
  refine ⟨⟨hg, (v1.touch t2 (by omega) (by omega)).touch t3 (by omega) (by omega), v2.touch t3 (by omega) (by omega), by simpa [World.setCell] using hm2, (o 0 (by omega)).trans hE.c0, (o 1 (by omega)).trans hE.c1, ?_, ?_, hE.am, hE.ab⟩, ?_⟩
  · rw [hz]; exact World.cell?_setCell_same (h := (e 2).trans hE.c2) ..
  · rw [World.frozen?_setCell, t2.frozen hm1 (by omega), t1.frozen hE.hm (by omega)]; exact hE.fr
  · exact ((t1.mono (fun k _ h => .inr (.inl h))).trans (t2.mono (fun k _ h => .inr (.inr h)))).trans (t3.mono (fun k _ h => .inl h))
/-- Behind Add. -/
def AddEnd (w : World) (m p1 b1 p2 b2 n : Nat) (L : List Ob) (s z : Int) (e : Ending) (w' : World) : Prop :=
  e = .returned (.int .i64 (addE L n s z)) ∧ Touch (mine m b1 b2) w w' ∧ Ext w' m p1 b1 p2 b2 n (addL L n s z)
theorem addEnd_no (hE : Ext w m p1 b1 p2 b2 n L) {s z c : Int} (h : addE L n s z = c) (hc : c ≠ 0) : AddEnd w m p1 b1 p2 b2 n L s z (.returned (.int .i64 c)) w := by
  refine ⟨by rw [h], Touch.refl _ _, ?_⟩
  unfold addL
  rw [if_neg (by rw [h]; exact hc)]
  exact hE
theorem ext_add_nil (s z : Int) (w : World) : Calls Tryd.prog 42 #[.pointer none, .int .i64 s, .int .i64 z] w fun e w' => e = .returned (.int .i64 9) ∧ w = w' := by
  go_enter Tryd.func42, Tryd.ntmps42
  go_wp2_with (go_at_call 90; refine (ext_none_nil _).mono ?_; rintro e w' ⟨rfl, rfl⟩)
  go_ret
  exact ⟨rfl, rfl⟩
set_option maxRecDepth 100000 in
set_option maxHeartbeats 3200000 in
theorem ext_add (hE : Ext w m p1 b1 p2 b2 n L) (hT : TabAt w) (s z : Int) :
    Calls Tryd.prog 42 #[.pointer (some ⟨m, 0, none⟩), .int .i64 s, .int .i64 z] w (AddEnd w m p1 b1 p2 b2 n L s z) := by
  have hb := hE.nb
  have HE := hid hE
  have HT := hid hT
  by_cases h0 : z < 1
  · have d0 : decide (z < 1) = true := by simp [h0]
    have HR := hid (addEnd_no hE (s := s) (z := z) (c := 15) (by unfold addE; rw [if_pos h0]) (by decide))
    clear hE hT
    go_enter Tryd.func42, Tryd.ntmps42
    go_wp2_with (go_at_call 90; refine (ext_none HE.out).mono ?_; rintro e w' ⟨rfl, rfl⟩)
    go_ret
    exact HR.out
  · have d0 : decide (z < 1) = false := by simp; omega
    by_cases h1 : s < 0
    · have d1 : decide (s < 0) = true := by simp [h1]
      have HR := hid (addEnd_no hE (s := s) (z := z) (c := 11) (by unfold addE; rw [if_neg h0, if_pos (.inl h1)]) (by decide))
      clear hE hT
      go_enter Tryd.func42, Tryd.ntmps42
      go_wp2_with (go_at_call 90; refine (ext_none HE.out).mono ?_; rintro e w' ⟨rfl, rfl⟩)
      go_ret
      exact HR.out
    · have d1 : decide (s < 0) = false := by simp; omega
      by_cases h2 : (n : Int) ≤ s
      · have d2 : decide ((n : Int) ≤ s) = true := by simp [h2]
        have HR := hid (addEnd_no hE (s := s) (z := z) (c := 11) (by unfold addE; rw [if_neg h0, if_pos (.inr (.inl h2))]) (by decide))
        clear hE hT
        go_enter Tryd.func42, Tryd.ntmps42
        go_wp2_with (first
          | (go_at_call 90; refine (ext_none HE.out).mono ?_; rintro e w' ⟨rfl, rfl⟩)
          | (go_at_call 65; refine (ext_words HE.out).mono ?_; rintro e w' ⟨rfl, rfl⟩))
        go_ret
        exact HR.out
      · have d2 : decide ((n : Int) ≤ s) = false := by simp; omega
        obtain ⟨sn, rfl⟩ : ∃ k : Nat, s = k := ⟨s.toNat, by omega⟩
        by_cases h3 : (n : Int) - sn < z
        · have d3 : decide ((n : Int) - (sn : Int) < z) = true := by simp; omega
          have HR := hid (addEnd_no hE (s := sn) (z := z) (c := 11) (by unfold addE; rw [if_neg h0, if_pos (.inr (.inr h3))]) (by decide))
          clear hE hT
          go_enter Tryd.func42, Tryd.ntmps42
          go_wp2_with (first
            | (go_at_call 90; refine (ext_none HE.out).mono ?_; rintro e w' ⟨rfl, rfl⟩)
            | (go_at_call 65; refine (ext_words HE.out).mono ?_; rintro e w' ⟨rfl, rfl⟩))
          go_ret
          exact HR.out
        · have d3 : decide ((n : Int) - (sn : Int) < z) = false := by simp; omega
          obtain ⟨zn, rfl⟩ : ∃ k : Nat, z = k := ⟨z.toNat, by omega⟩
          have hcl := clash_find hE.good (s := (sn : Int)) (z := (zn : Int)) (by omega)
          have hbn := obS_bd hE.good hb.2 (nextO L (sn : Int))
          have hsn : ((L[nextO L (sn : Int)]?.getD (0, 0)).1 : Int) = obS L (nextO L (sn : Int)) := rfl
          rw [hsn] at hcl
          obtain ⟨s1, hs1⟩ : ∃ v, v = obS L (findO L (sn : Int)) := ⟨_, rfl⟩
          obtain ⟨z1, hz1⟩ : ∃ v, v = obZ L (findO L (sn : Int)) := ⟨_, rfl⟩
          obtain ⟨f1, hf1⟩ : ∃ v, v = decide (findO L (sn : Int) < L.length) := ⟨_, rfl⟩
          obtain ⟨s2, hs2⟩ : ∃ v, v = obS L (nextO L (sn : Int)) := ⟨_, rfl⟩
          obtain ⟨z2, hz2⟩ : ∃ v, v = obZ L (nextO L (sn : Int)) := ⟨_, rfl⟩
          obtain ⟨f2, hf2⟩ : ∃ v, v = decide (nextO L (sn : Int) < L.length) := ⟨_, rfl⟩
          have HF : Hid (tellO L (findO L (sn : Int)) = .tuple #[.int .i64 s1, .int .i64 z1, .bool f1]) := ⟨by rw [hs1, hz1, hf1]; rfl⟩
          have HN : Hid (tellO L (nextO L (sn : Int)) = .tuple #[.int .i64 s2, .int .i64 z2, .bool f2]) := ⟨by rw [hs2, hz2, hf2]; rfl⟩
          rw [← hf1, ← hf2, ← hs2] at hcl
          rw [← hs2, ← hz2] at hbn
          have hzb : zn ≤ 1048576 ∧ sn ≤ 1048576 ∧ sn + zn ≤ n := by omega
          have hadd : ∀ c, clashB L (sn : Int) (zn : Int) = c → addE L n (sn : Int) (zn : Int) = if c then 7 else 0 := fun c hc => by
            unfold addE; rw [if_neg h0, if_neg (by omega), hc]
          clear hs1 hz1 hf1 hs2 hz2 hf2 hsn
          cases hc : clashB L (sn : Int) (zn : Int) with
          | true =>
            have HR := hid (addEnd_no hE (s := (sn : Int)) (z := (zn : Int)) (c := 7) (hadd true hc) (by decide))
            rw [hc] at hcl
            clear hE hT hadd hc
            cases f1 with
            | true =>
              clear hcl
              go_enter Tryd.func42, Tryd.ntmps42
              go_wp2_with (first
                | (go_at_call 90; refine (ext_none HE.out).mono ?_; rintro e w' ⟨rfl, rfl⟩)
                | (go_at_call 65; refine (ext_words HE.out).mono ?_; rintro e w' ⟨rfl, rfl⟩)
                | (go_at_call 58; refine (ext_find HE.out HT.out _).mono ?_; rintro e w' ⟨rfl, rfl⟩; rw [HF.out])
                | (go_at_call 61; refine (ext_next HE.out HT.out _).mono ?_; rintro e w' ⟨rfl, rfl⟩; rw [HN.out]))
              go_ret
              exact HR.out
            | false =>
              have hf2 : f2 = true ∧ s2 < (sn : Int) + zn := by simpa using hcl.symm
              obtain ⟨rfl, hlt⟩ := hf2
              have d4 : decide (s2 < (sn : Int) + (zn : Int)) = true := by simp [hlt]
              clear hcl
              go_enter Tryd.func42, Tryd.ntmps42
              go_wp2_with (first
                | (go_at_call 90; refine (ext_none HE.out).mono ?_; rintro e w' ⟨rfl, rfl⟩)
                | (go_at_call 65; refine (ext_words HE.out).mono ?_; rintro e w' ⟨rfl, rfl⟩)
                | (go_at_call 58; refine (ext_find HE.out HT.out _).mono ?_; rintro e w' ⟨rfl, rfl⟩; rw [HF.out])
                | (go_at_call 61; refine (ext_next HE.out HT.out _).mono ?_; rintro e w' ⟨rfl, rfl⟩; rw [HN.out]))
              go_ret
              exact HR.out
          | false =>
            have hap := add_apart (L := L) (s := (sn : Int)) (z := (zn : Int)) (by omega) (by omega) hc
            simp only [Int.toNat_natCast] at hap
            have hz1 : 1 ≤ zn := by omega
            have hgood := insO_good hE.good (o := (sn, zn)) hz1 hzb.2.2 hap
            have hst := starts_ins hE.good (o := (sn, zn)) hz1 hzb.2.2 hap
            have hen := ends_ins hE.good (o := (sn, zn)) hz1 hzb.2.2 hap
            have hlen := insO_len L (sn, zn)
            have hadd0 : addE L n (sn : Int) (zn : Int) = 0 := hadd false hc
            have hL : addL L n (sn : Int) (zn : Int) = insO L (sn, zn) := by unfold addL; rw [if_pos hadd0]; rfl
            rw [hc] at hcl
            obtain ⟨rfl, hor⟩ : f1 = false ∧ (f2 = false ∨ (f2 = true ∧ (sn : Int) + zn ≤ s2)) := by
              cases f1 with
              | true => rw [Bool.true_or] at hcl; cases hcl
              | false =>
                refine ⟨rfl, ?_⟩
                cases f2 with
                | false => exact .inl rfl
                | true =>
                  right
                  rw [Bool.false_or, Bool.true_and] at hcl
                  have := of_decide_eq_false hcl.symm
                  exact ⟨rfl, by omega⟩
            obtain ⟨e, he⟩ : ∃ e, e = sn + zn - 1 := ⟨_, rfl⟩
            have HIE : Hid ((sn : Int) + (zn : Int) - 1 = (e : Int)) := ⟨by omega⟩
            have hen' : endsL n (insO L (sn, zn)) = (endsL n L).set e true := by rw [he]; exact hen
            have hst' : startsL n (insO L (sn, zn)) = (startsL n L).set sn true := hst
            have K1 : Hid (sn < (startsL n L).length) := ⟨by rw [startsL_len]; omega⟩
            have K2 : Hid (e < (endsL n L).length) := ⟨by rw [endsL_len]; omega⟩
            have KG := hid hgood
            have KS := hid hst'
            have KE := hid hen'
            have KL := hid (And.intro hlen (And.intro hadd0 hL))
            obtain ⟨a1, a2, a3, a4⟩ := hE.am
            obtain ⟨a5, a6, a7⟩ := hE.ab
            have hmw := hE.hm
            have cc1 := hE.c1
            have cc2 := hE.c2
            have cfr := hE.fr
            have cc0 := hE.c0
            have HA : Hid (m ≠ b1 ∧ m ≠ b2 ∧ p2 ≠ b1 ∧ b2 ≠ b1) := ⟨⟨a2, a4, a6, fun h => a7 h.symm⟩⟩
            have hLn := hE.good.len
            clear hE hT hadd hc hcl hap hgood hst hen hen' hst' hlen hadd0 hL he a1 a2 a3 a4 a5 a6 a7
            rcases hor with rfl | ⟨rfl, hge⟩
            all_goals try have d4 : decide (s2 < (sn : Int) + (zn : Int)) = false := by simp; omega
            all_goals
              go_enter Tryd.func42, Tryd.ntmps42
              go_wp2_with (first
                | (go_at_call 90; refine (ext_none HE.out).mono ?_; rintro e w' ⟨rfl, rfl⟩)
                | (go_at_call 65; refine (ext_words HE.out).mono ?_; rintro e w' ⟨rfl, rfl⟩)
                | (go_at_call 58; refine (ext_find HE.out HT.out _).mono ?_; rintro e w' ⟨rfl, rfl⟩; rw [HF.out])
                | (go_at_call 61; refine (ext_next HE.out HT.out _).mono ?_; rintro e w' ⟨rfl, rfl⟩; rw [HN.out])
                | (go_at_call 52; rw [HIE.out]; refine (set_in (HE.out.v2.touch HT1.out HA.out.2.2.1 HA.out.2.2.2) e K2.out).mono ?_; rintro e' w2 ⟨rfl, ht2, hv2⟩; rw [← KE.out] at hv2; have e2 := (ht2.cell HM1.out HA.out.2.1 2).trans e12; have ef := (ht2.frozen HM1.out HA.out.2.1 2).trans ef1; have HT2 := hid ht2; have HV2 := hid hv2; clear ht2 hv2)
                | (go_at_call 52; refine (set_in HE.out.v1 sn K1.out).mono ?_; rintro e' w1 ⟨rfl, ht1, hv1⟩; rw [← KS.out] at hv1; have e11 := (ht1.cell hmw HA.out.1 1).trans cc1; have e12 := (ht1.cell hmw HA.out.1 2).trans cc2; have ef1 := (ht1.frozen hmw HA.out.1 2).trans cfr; have HT1 := hid ht1; have HV1 := hid hv1; have HM1 := hid (Nat.lt_of_lt_of_le hmw ht1.size); clear ht1 hv1))
              go_ret
              have hch := HE.out.changed KG.out HT1.out HV1.out HT2.out HV2.out (z := ((L.length : Int) + 1)) (by rw [KL.out.1]; push_cast; rfl)
              exact ⟨by rw [KL.out.2.1]; rfl, hch.2, by rw [KL.out.2.2]; exact hch.1⟩

/-! Drop -/
theorem ext_drop_nil (s : Int) (w : World) : Calls Tryd.prog 54 #[.pointer none, .int .i64 s] w fun e w' => e = .returned (.tuple #[.int .i64 0, .bool false]) ∧ w = w' := by
  go_enter Tryd.func54, Tryd.ntmps54
  go_wp2_with (go_at_call 90; refine (ext_none_nil _).mono ?_; rintro e w' ⟨rfl, rfl⟩)
  go_ret2
  exact ⟨ret2 rfl rfl, rfl⟩
def DropEnd (w : World) (m p1 b1 p2 b2 n : Nat) (L : List Ob) (s : Int) (e : Ending) (w' : World) : Prop :=
  e = .returned (.tuple #[.int .i64 (dropV L s), .bool (decide (startO L s < L.length))]) ∧ Touch (mine m b1 b2) w w' ∧ Ext w' m p1 b1 p2 b2 n (dropL L s)
theorem test_start {n : Nat} {L : List Ob} (h : Good n L) (s : Int) : (decide (0 ≤ s) && at_ (startsL n L) s.toNat) = decide (startO L s < L.length) := by
  refine bool_ext ?_
  simp only [Bool.and_eq_true, decide_eq_true_eq]
  rw [at_starts h]
  constructor
  · rintro ⟨h0, o, ho, e⟩
    by_cases hs : startO L s < L.length
    · exact hs
    · exact absurd (by omega) (startO_no hs o ho)
  · intro hs
    have := startO_yes hs
    exact ⟨by omega, _, List.getElem_mem hs, by omega⟩
set_option maxRecDepth 100000 in
set_option maxHeartbeats 1600000 in
theorem ext_drop (hE : Ext w m p1 b1 p2 b2 n L) (hT : TabAt w) (s : Int) :
    Calls Tryd.prog 54 #[.pointer (some ⟨m, 0, none⟩), .int .i64 s] w (DropEnd w m p1 b1 p2 b2 n L s) := by
  have hb := hE.nb
  have HE := hid hE
  have HT := hid hT
  have HTS := hid (test_start hE.good s)
  have cc0 := hE.c0
  by_cases hs : startO L s < L.length
  · have hy := startO_yes hs
    obtain ⟨sn, rfl⟩ : ∃ k : Nat, s = k := ⟨_, hy.symm⟩
    have hZ := ext_size hE hT hs
    have hsz := hE.good.sz _ (List.getElem_mem hs)
    have hst := starts_drop hE.good hs
    have hen := ends_drop hE.good hs
    have hln := dropL_len hE.good hs
    have hdv : dropV L (sn : Int) = (L[startO L (sn : Int)].2 : Nat) := by unfold dropV; rw [dif_pos hs]
    have hyn : L[startO L (sn : Int)].1 = sn := by omega
    rw [hyn] at hZ hsz hst hen
    obtain ⟨zn, hzn⟩ : ∃ z, z = L[startO L (sn : Int)].2 := ⟨_, rfl⟩
    rw [← hzn] at hZ hsz hen hdv
    obtain ⟨e, he⟩ : ∃ e, e = sn + zn - 1 := ⟨_, rfl⟩
    rw [← he] at hen
    have HIE : Hid ((sn : Int) + (zn : Int) - 1 = (e : Int)) := ⟨by omega⟩
    have K1 : Hid (sn < (startsL n L).length) := ⟨by rw [startsL_len]; omega⟩
    have K2 : Hid (e < (endsL n L).length) := ⟨by rw [endsL_len]; omega⟩
    have KG := hid (dropL_good hE.good (sn : Int))
    have KS := hid hst
    have KE := hid hen
    have KD := hid (And.intro hdv hln)
    have HZ := hid hZ
    have HD : Hid (decide (startO L (sn : Int) < L.length) = true) := ⟨decide_eq_true hs⟩
    obtain ⟨a1, a2, a3, a4⟩ := hE.am
    obtain ⟨a5, a6, a7⟩ := hE.ab
    have hmw := hE.hm
    have cc1 := hE.c1
    have cc2 := hE.c2
    have cfr := hE.fr
    have HA : Hid (m ≠ b1 ∧ m ≠ b2 ∧ p2 ≠ b1 ∧ b2 ≠ b1) := ⟨⟨a2, a4, a6, fun h => a7 h.symm⟩⟩
    have hLn := hE.good.len
    have hL1 : 1 ≤ L.length := by omega
    clear hE hT hy hZ hst hen hln hdv hyn hzn he hs a1 a2 a3 a4 a5 a6 a7
    go_enter Tryd.func54, Tryd.ntmps54
    go_wp2_with (first
      | (go_at_call 90; refine (ext_none HE.out).mono ?_; rintro e w' ⟨rfl, rfl⟩)
      | (go_at_call 21; refine (test_any HE.out.v1 _).mono ?_; rintro e w' ⟨rfl, rfl⟩; rw [HTS.out, HD.out])
      | (go_at_call 92; refine HZ.out.mono ?_; rintro e w' ⟨rfl, rfl⟩)
      | (go_at_call 18; rw [HIE.out]; refine (clear_in (HE.out.v2.touch HT1.out HA.out.2.2.1 HA.out.2.2.2) e K2.out).mono ?_; rintro e' w2 ⟨rfl, ht2, hv2⟩; rw [← KE.out] at hv2; have e2 := (ht2.cell HM1.out HA.out.2.1 2).trans e12; have ef := (ht2.frozen HM1.out HA.out.2.1 2).trans ef1; have HT2 := hid ht2; have HV2 := hid hv2; clear ht2 hv2)
      | (go_at_call 18; refine (clear_in HE.out.v1 sn K1.out).mono ?_; rintro e' w1 ⟨rfl, ht1, hv1⟩; rw [← KS.out] at hv1; have e11 := (ht1.cell hmw HA.out.1 1).trans cc1; have e12 := (ht1.cell hmw HA.out.1 2).trans cc2; have ef1 := (ht1.frozen hmw HA.out.1 2).trans cfr; have HT1 := hid ht1; have HV1 := hid hv1; have HM1 := hid (Nat.lt_of_lt_of_le hmw ht1.size); clear ht1 hv1))
    go_ret2
    have hch := HE.out.changed KG.out HT1.out HV1.out HT2.out HV2.out (z := ((L.length : Int) - 1)) (by have := KD.out.2; omega)
    exact ⟨ret2 (by rw [KD.out.1]; rfl) (by rw [HD.out]; rfl), hch.2, hch.1⟩
  · have HD : Hid (decide (startO L s < L.length) = false) := ⟨decide_eq_false hs⟩
    have KD : Hid (dropV L s = 0 ∧ dropL L s = L) := ⟨by unfold dropV; rw [dif_neg hs], dropL_none hs⟩
    clear hE hT hs
    go_enter Tryd.func54, Tryd.ntmps54
    go_wp2_with (first
      | (go_at_call 90; refine (ext_none HE.out).mono ?_; rintro e w' ⟨rfl, rfl⟩)
      | (go_at_call 21; refine (test_any HE.out.v1 _).mono ?_; rintro e w' ⟨rfl, rfl⟩; rw [HTS.out, HD.out]))
    go_ret2
    exact ⟨ret2 (by rw [KD.out.1]; rfl) (by rw [HD.out]; rfl), Touch.refl _ _, by rw [KD.out.2]; exact HE.out⟩

theorem none_raw {w : World} {m p : Nat} (c0 : w.cell? ⟨m, 0, none⟩ = some (.pointer (some ⟨p, 0, none⟩))) : Calls Tryd.prog 90 #[.pointer (some ⟨m, 0, none⟩)] w fun e w' => e = .returned (.bool false) ∧ w = w' := by
  go_enter Tryd.func90, Tryd.ntmps90
  go_wp2
  go_ret
  exact ⟨rfl, rfl⟩
theorem words_raw {w : World} {m p b n : Nat} {l : List Bool} (c0 : w.cell? ⟨m, 0, none⟩ = some (.pointer (some ⟨p, 0, none⟩))) (hV : Vec w p b l) (hl : l.length = n) :
    Calls Tryd.prog 65 #[.pointer (some ⟨m, 0, none⟩)] w fun e w' => e = .returned (.int .i64 n) ∧ w = w' := by
  have HL := hid hl
  have HV := hid hV
  clear hl hV
  go_enter Tryd.func65, Tryd.ntmps65
  go_wp2_with (first
    | (go_at_call 90; refine (none_raw c0).mono ?_; rintro e w' ⟨rfl, rfl⟩)
    | (go_at_call 32; refine (len_vec HV.out).mono ?_; rintro e w' ⟨rfl, rfl⟩; rw [HL.out]))
  go_ret
  exact ⟨rfl, rfl⟩
/-! Wipe -/
theorem lay_all_off (l : List Bool) (n : Nat) (h : l.length = n) : layL l 0 n false = List.replicate n false :=
  ext_at (by rw [layL_length, h]; simp) (fun i hi => by
    rw [layL_length] at hi
    rw [layL_at _ _ _ _ _ hi, if_pos (by omega)]
    simp [at_, List.getD_eq_getElem?_getD, List.getElem?_replicate]; split <;> rfl)
theorem ext_wipe_nil (w : World) : Calls Tryd.prog 56 #[.pointer none] w fun e w' => e = .returned (.tuple #[]) ∧ w = w' := by
  go_enter Tryd.func56, Tryd.ntmps56
  go_wp2_with (go_at_call 90; refine (ext_none_nil _).mono ?_; rintro e w' ⟨rfl, rfl⟩)
  refine bodyPost_ret (results_none rfl _ _ _) rfl ?_
  exact ⟨rfl, rfl⟩
def WipeEnd (w : World) (m p1 b1 p2 b2 n : Nat) (e : Ending) (w' : World) : Prop := e = .returned (.tuple #[]) ∧ Touch (mine m b1 b2) w w' ∧ Ext w' m p1 b1 p2 b2 n []
set_option maxRecDepth 100000 in
set_option maxHeartbeats 1600000 in
theorem ext_wipe (hE : Ext w m p1 b1 p2 b2 n L) :
    Calls Tryd.prog 56 #[.pointer (some ⟨m, 0, none⟩)] w (WipeEnd w m p1 b1 p2 b2 n) := by
  have hb := hE.nb
  have HE := hid hE
  have cc0 := hE.c0
  have cc1 := hE.c1
  have cc2 := hE.c2
  have cfr := hE.fr
  obtain ⟨a1, a2, a3, a4⟩ := hE.am
  obtain ⟨a5, a6, a7⟩ := hE.ab
  have hmw := hE.hm
  have HA : Hid (m ≠ b1 ∧ m ≠ b2 ∧ p2 ≠ b1 ∧ b2 ≠ b1) := ⟨⟨a2, a4, a6, fun h => a7 h.symm⟩⟩
  have KS : Hid (layL (startsL n L) 0 (n : Int) false = startsL n []) := ⟨by rw [lay_all_off _ n (startsL_len ..), starts_nil]⟩
  have KE : Hid (layL (endsL n L) 0 (n : Int) false = endsL n []) := ⟨by rw [lay_all_off _ n (endsL_len ..), ends_nil]⟩
  clear hE a1 a2 a3 a4 a5 a6 a7
  go_enter Tryd.func56, Tryd.ntmps56
  go_upto_region 1 with (go_at_call 90; refine (ext_none HE.out).mono ?_; rintro e w' ⟨rfl, rfl⟩)
  obtain ⟨S, hS⟩ : ∃ S : World → Prop, S = fun W' => W'.cell? ⟨m, 0, none⟩ = some (.pointer (some ⟨p1, 0, none⟩)) := ⟨_, rfl⟩
  have x0 : ∀ p : Held S, p.w.cell? ⟨m, 0, none⟩ = some (.pointer (some ⟨p1, 0, none⟩)) := fun p => Held.get hS p
  have hS0 : S w.drew := by rw [hS]; exact cc0
  have inst : Inhabited (Held S) := ⟨⟨_, hS0⟩⟩
  clear hS
  refine wp_region_mixS S 6 [([0, 1, 2, 3, 4], 5), ([], 6)] [] (by kernel_rfl) (by kernel_rfl) hS0 ?_
  refine segs_step ?_
  simp only [opsAt, List.getElem?_cons_zero, List.getElem?_cons_succ]
  repeat (go_big_quiet_step (fail))
  refine wpQuiet_nil ?_
  go_wp2_with (go_at_call 65; refine (ext_words (HE.out.gr (Gr.refl w).drew)).mono ?_; rintro e w' ⟨rfl, rfl⟩)
  refine ⟨.inr (Held.of hS0), ?_⟩
  refine segs_step ?_
  simp only [opsAt, List.getElem?_cons_zero, List.getElem?_cons_succ]
  refine wpQuiet_nil ?_
  go_wp2_with (go_at_call 53; refine (wipe_vec (HE.out.v1.gr (Gr.refl w).drew) 0 (n : Int) (by decide)).mono ?_; rintro e' w1 ⟨rfl, ht1, hv1⟩; rw [KS.out] at hv1; have hg0 := ((Gr.refl w).drew.touch (fun k => k = b1)).trans ht1; have e11 := (hg0.cell hmw HA.out.1 1).trans cc1; have e12 := (hg0.cell hmw HA.out.1 2).trans cc2; have e10 := (hg0.cell hmw HA.out.1 0).trans cc0; have ef1 := (hg0.frozen hmw HA.out.1 2).trans cfr; have HT1 := hid hg0; have HV1 := hid hv1; have HM1 := hid (Nat.lt_of_lt_of_le hmw hg0.size); clear ht1 hv1 hg0)
  refine ⟨.inl trivial, ?_⟩
  refine segs_end ?_
  refine wpQuiet_nil ?_
  refine NoPanic.normal ?_
  clear x0 hS0 inst
  clear S
  go_upto_region 2 with (fail)
  obtain ⟨S, hS⟩ : ∃ S : World → Prop, S = fun W' => W'.cell? ⟨m, 1, none⟩ = some (.pointer (some ⟨p2, 0, none⟩)) := ⟨_, rfl⟩
  have x0 : ∀ p : Held S, p.w.cell? ⟨m, 1, none⟩ = some (.pointer (some ⟨p2, 0, none⟩)) := fun p => Held.get hS p
  have hS0 : S w1.drew := by rw [hS]; exact e11
  have inst : Inhabited (Held S) := ⟨⟨_, hS0⟩⟩
  clear hS
  refine wp_region_mixS S 6 [([0, 1, 2, 3, 4], 5), ([], 6)] [] (by kernel_rfl) (by kernel_rfl) hS0 ?_
  refine segs_step ?_
  simp only [opsAt, List.getElem?_cons_zero, List.getElem?_cons_succ]
  repeat (go_big_quiet_step (fail))
  refine wpQuiet_nil ?_
  go_wp2_with (go_at_call 65; refine (words_raw (w := w1.drew) e10 (HV1.out.gr (Gr.refl w1).drew) (startsL_len n [])).mono ?_; rintro e w' ⟨rfl, rfl⟩)
  refine ⟨.inr (Held.of hS0), ?_⟩
  refine segs_step ?_
  simp only [opsAt, List.getElem?_cons_zero, List.getElem?_cons_succ]
  refine wpQuiet_nil ?_
  go_wp2_with (go_at_call 53; refine (wipe_vec ((HE.out.v2.touch HT1.out HA.out.2.2.1 HA.out.2.2.2).gr (Gr.refl w1).drew) 0 (n : Int) (by decide)).mono ?_; rintro e' w2 ⟨rfl, ht2, hv2⟩; rw [KE.out] at hv2; have hg0 := ((Gr.refl w1).drew.touch (fun k => k = b2)).trans ht2; have e2 := (hg0.cell HM1.out HA.out.2.1 2).trans e12; have ef := (hg0.frozen HM1.out HA.out.2.1 2).trans ef1; have HT2 := hid hg0; have HV2 := hid hv2; clear ht2 hv2 hg0)
  refine ⟨.inl trivial, ?_⟩
  refine segs_end ?_
  refine wpQuiet_nil ?_
  refine NoPanic.normal ?_
  clear x0 hS0 inst
  clear S
  go_wp2
  refine bodyPost_end (results_none rfl _ _ _) rfl ?_
  have hch := HE.out.changed (Good.nil n) HT1.out HV1.out HT2.out HV2.out (z := 0) rfl
  exact ⟨rfl, hch.2, hch.1⟩

/-! New -/
def NewExt (w : World) (n : Nat) (e : Ending) (w' : World) : Prop :=
  ∃ m p1 b1 p2 b2, e = .returned (.tuple #[.pointer (some ⟨m, 0, none⟩), .int .i64 0]) ∧ Gr w w' ∧ Ext w' m p1 b1 p2 b2 n [] ∧ w.heap.size ≤ m ∧ w.heap.size ≤ p1 ∧ w.heap.size ≤ b1 ∧ w.heap.size ≤ p2 ∧ w.heap.size ≤ b2
set_option maxRecDepth 100000 in
set_option maxHeartbeats 800000 in
theorem ext_new_bad (n : Int) (hn : n < 1 ∨ 1048576 < n) (w : World) : Calls Tryd.prog 41 #[.int .i64 n] w fun e w' => e = .returned (.tuple #[.pointer none, .int .i64 5]) ∧ w = w' := by
  have HN := hid hn
  clear hn
  go_enter Tryd.func41, Tryd.ntmps41
  go_wp2_with (go_at_call 16; refine (new_none n HN.out _).mono ?_; rintro e w' ⟨rfl, rfl⟩)
  go_ret2
  exact ⟨ret2 rfl rfl, rfl⟩
set_option maxRecDepth 100000 in
set_option maxHeartbeats 800000 in
theorem ext_new (n : Nat) (h1 : 1 ≤ n) (h2 : n ≤ 1048576) (w : World) : Calls Tryd.prog 41 #[.int .i64 n] w (NewExt w n) := by
  have HN := hid (And.intro h1 h2)
  clear h1 h2
  go_enter Tryd.func41, Tryd.ntmps41
  go_wp2_with (first
    | (go_at_call 16; refine (new_vec n HN.out.1 HN.out.2 w1).mono ?_; rintro e w2 ⟨p2, b2, rfl, hg2, hV2, hp2, hb2⟩)
    | (go_at_call 16; refine (new_vec n HN.out.1 HN.out.2 _).mono ?_; rintro e w1 ⟨p1, b1, rfl, hg1, hV1, hp1, hb1⟩))
  go_ret2
  have hV1' := hV1.gr hg2
  have s1 := hV1.hp
  have s2 := hV1.hb
  have s3 := hV2.hp
  have s4 := hV2.hb
  have sg1 := hg1.size
  have sg2 := hg2.size
  refine ⟨_, p1, b1, p2, b2, ret2 rfl rfl, (hg1.trans hg2).alloc _, ⟨Good.nil n, ?_, ?_, by simp, World.cell?_alloc_new .., World.cell?_alloc_new .., World.cell?_alloc_new .., World.frozen?_alloc_new .., by omega, by omega⟩, by omega, by omega, by omega, by omega, by omega⟩
  · rw [starts_nil]; exact hV1'.gr ((Gr.refl _).alloc _)
  · rw [ends_nil]; exact hV2.gr ((Gr.refl _).alloc _)
end
end Go.Proofs.YtlbbkpjfoabobaaDoor
