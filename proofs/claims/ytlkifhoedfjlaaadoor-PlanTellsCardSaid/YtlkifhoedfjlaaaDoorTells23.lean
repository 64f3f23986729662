/- PlanTells: the walk. -/
import Derived.Test.YtlkifhoedfjlaaaDoorRef23
import Derived.Test.YtlkifhoedfjlaaaDoorLive23
import Derived.Test.YtlkifhoedfjlaaaDoorTells12
import Derived.Test.YtlkifhoedfjlaaaDoorTells22
namespace Go.Proofs.YtlkifhoedfjlaaaDoor
open Go.RowKit Word

set_option maxRecDepth 100000 in
set_option maxHeartbeats 1600000 in
theorem tells23_far {W : World} (hT : TabAt W) (A : Option Addr) (len cap : Nat) (h : 60 < len) (n x y z : Int) :
    Gets Tryd.prog 9 #[.slice A len cap, .int .i64 n, .agg #[.int .i64 x, .int .i64 y, .int .i64 z]] W (.bool true) := by
  have HT := hid hT
  clear hT
  obtain ⟨hg, -, -, -⟩ := q_box (w := W) x y z 47
  have HG := hid hg
  clear hg
  unfold Gets
  have d1 : decide ((60 : Int) < (len : Int)) = true := by simp; omega
  clear h
  go_enter Tryd.func9, Tryd.ntmps9
  go_wp2_with (go_at_call 39; refine (lives23 (HG.out.tab HT.out.lt HT.out)).mono ?_; rintro e w4 ⟨rfl, hg4⟩)
  go_ret
  exact ⟨rfl, HG.out.trans hg4⟩
set_option maxRecDepth 100000 in
set_option maxHeartbeats 1600000 in
theorem tells23_no {W : World} (hT : TabAt W) (A : Option Addr) (cap : Nat) (l : List Nat) (hB : BytesAt W A l) (hl : l.length ≤ 60) (n : Int) (hn : n ≤ 9223372036854775807) (x y z : Int) (hno : (blockOk n && baseOk x) = false) :
    Gets Tryd.prog 9 #[.slice A l.length cap, .int .i64 n, .agg #[.int .i64 x, .int .i64 y, .int .i64 z]] W (.bool true) := by
  have HT := hid hT
  have HN := hid hno
  obtain ⟨hg, c0, -, -⟩ := q_box (w := W) x y z 47
  have HB := hid (hB.gr hg)
  have HG := hid hg
  clear hT hB hg
  have d1 : decide ((60 : Int) < (l.length : Int)) = false := by simp; omega
  have hbo : baseOk x = (decide (0 ≤ x) && decide (x < 2147483648)) := rfl
  unfold Gets
  obtain ⟨Wa, hWa⟩ : ∃ Wa, Wa = W.alloc (.cells #[.int .i64 x, .int .i64 y, .int .i64 z] 47) := ⟨_, rfl⟩
  rw [← hWa] at HG HB c0
  obtain ⟨bk, hbk⟩ : ∃ bk, bk = blockOk n := ⟨_, rfl⟩
  have HK := hid hbk.symm
  have hpart : bk = false ∨ (bk = true ∧ decide (x < 0) = true) ∨ (bk = true ∧ decide (x < 0) = false ∧ decide (2147483648 ≤ x) = true) := by
    cases bk with
    | false => exact .inl rfl
    | true =>
      rw [← hbk, Bool.true_and, hbo] at hno
      by_cases hx0 : x < 0
      · exact .inr (.inl ⟨rfl, decide_eq_true hx0⟩)
      · rw [decide_eq_true (by omega), Bool.true_and] at hno
        have := of_decide_eq_false hno
        exact .inr (.inr ⟨rfl, decide_eq_false hx0, decide_eq_true (by omega)⟩)
  clear hno hbo hbk
  rcases hpart with rfl | ⟨rfl, d3⟩ | ⟨rfl, d3, d4⟩
  all_goals
    go_enter Tryd.func9, Tryd.ntmps9
    go_upto_region 1 with (fail)
    rw [← hWa]
    clear hWa
    go_wp2_with (first
      | (go_at_call 21; refine (lay_walk (HG.out.tab HT.out.lt HT.out) 600 (by decide) (by decide) _ _ l HB.out (by omega)).mono ?_; rintro e w1 ⟨m, p1, b1, p2, b2, A', c', rfl, hg1, hE1, -, -, -⟩; have HG1 := hid (HG.out.trans hg1); have u0 := (hg1.cell (lt_cell c0) 0).trans c0; have HE1 := hid hE1; clear hg1 hE1)
      | (go_at_call 40; refine (pln_new HE1.out (HG1.out.tab HT.out.lt HT.out) n x hn).mono ?_; rintro e w2 ⟨hg2, ⟨-, rfl⟩ | ⟨hb, -⟩⟩; rotate_left; (rw [HN.out] at hb; cases hb); have HG2 := hid (HG1.out.trans hg2); have v0 := (hg2.cell (lt_cell u0) 0).trans u0; clear hg2)
      | (go_at_call 26; refine (ref_may12 n _).mono ?_; rintro e w3 ⟨rfl, rfl⟩; rw [HK.out])
      | (go_at_call 39; refine (lives23 (HG2.out.tab HT.out.lt HT.out)).mono ?_; rintro e w4 ⟨rfl, hg4⟩))
    go_ret
    exact ⟨rfl, HG2.out.trans hg4⟩
set_option maxRecDepth 100000 in
set_option maxHeartbeats 3200000 in
theorem tells23_in {W : World} (hT : TabAt W) (A : Option Addr) (cap : Nat) (l : List Nat) (hB : BytesAt W A l) (hl : l.length ≤ 60) (B : Nat) (base : Nat) (hok : (blockOk B && baseOk base) = true) (hB1 : 1 ≤ B) (hB2 : B ≤ 1024) (y z : Int) (hz : z ≤ 9223372036854775807) :
    Gets Tryd.prog 9 #[.slice A l.length cap, .int .i64 B, .agg #[.int .i64 base, .int .i64 y, .int .i64 z]] W (.bool true) := by
  have HT := hid hT
  have HN := hid hok
  obtain ⟨hbk, hbo⟩ := Bool.and_eq_true_iff.1 hok
  have hbs : base < 2147483648 := by unfold baseOk at hbo; simp at hbo; omega
  have HK := hid hbk
  obtain ⟨hg, c0, c1, c2⟩ := q_box (w := W) base y z 47
  have HB := hid (hB.gr hg)
  have HG := hid hg
  clear hT hB hok hg hbk hbo
  have d1 : decide ((60 : Int) < (l.length : Int)) = false := by simp; omega
  have d3 : decide ((base : Int) < 0) = false := decide_eq_false (by omega)
  have d4 : decide (2147483648 ≤ (base : Int)) = false := decide_eq_false (by omega)
  obtain ⟨L, hL⟩ : ∃ L, L = layL2 600 l := ⟨_, rfl⟩
  have HL := hid hL.symm
  clear hL
  obtain ⟨ra, hra⟩ : ∃ v, v = rngA L B base y := ⟨_, rfl⟩
  obtain ⟨rz, hrz⟩ : ∃ v, v = rngZ L B base y := ⟨_, rfl⟩
  obtain ⟨re, hre⟩ : ∃ v, v = rngE L B y := ⟨_, rfl⟩
  obtain ⟨P, hP⟩ : ∃ P, P = pcsOf L B base y := ⟨_, rfl⟩
  have EA := hid (And.intro hra.symm (And.intro hrz.symm hre.symm))
  have EP := hid hP.symm
  clear hra hrz hre hP
  unfold Gets
  go_enter Tryd.func9, Tryd.ntmps9
  go_upto_region 1 with (fail)
  obtain ⟨Wa, hWa⟩ : ∃ Wa, Wa = W.alloc (.cells #[.int .i64 base, .int .i64 y, .int .i64 z] 47) := ⟨_, rfl⟩
  rw [← hWa] at HG HB c0 c1 c2 ⊢
  clear hWa
  go_wp2_with (first
    | (go_at_call 21; refine (lay_walk (HG.out.tab HT.out.lt HT.out) 600 (by decide) (by decide) _ _ l HB.out (by omega)).mono ?_; rw [HL.out]; rintro e w1 ⟨m, p1, b1, p2, b2, A', c', rfl, hg1, hE1, hO1, -, -⟩; have HG1 := hid (HG.out.trans hg1); have HE1 := hid hE1; have HO1 := hid hO1; have HGD := hid hE1.good; have s0 := (hg1.cell (lt_cell c0) 0).trans c0; have s1 := (hg1.cell (lt_cell c1) 1).trans c1; have s2 := (hg1.cell (lt_cell c2) 2).trans c2; clear hg1 hE1 hO1)
    | (go_at_call 40; refine (pln_new HE1.out (HG1.out.tab HT.out.lt HT.out) B base (by omega)).mono ?_; rintro e w2 ⟨hg2, ⟨hb, -⟩ | ⟨-, p, B', base', hB', hbs', rfl, hO⟩⟩; (rw [HN.out] at hb; cases hb); (obtain rfl : B = B' := (by omega)); (obtain rfl : base = base' := (by omega)); have HO2 := hid hO; have HG2 := hid (HG1.out.trans hg2); have HL2 := hid (HO1.out.gr hg2); have r0 := (hg2.cell (lt_cell s0) 0).trans s0; have r1 := (hg2.cell (lt_cell s1) 1).trans s1; have r2 := (hg2.cell (lt_cell s2) 2).trans s2; clear hO hg2 hB' hbs')
    | (go_at_call 26; refine (ref_may12 B _).mono ?_; rintro e w3 ⟨rfl, rfl⟩; rw [HK.out])
    | (go_at_call 42; refine (pln_range HO2.out y).mono ?_; rintro e w3 ⟨rfl, hg3⟩; rw [EA.out.1, EA.out.2.1, EA.out.2.2]; have HG3 := hid (HG2.out.trans hg3); have HO3 := hid (HO2.out.gr hg3); have HL3 := hid (HL2.out.gr hg3); have u0 := (hg3.cell (lt_cell r0) 0).trans r0; have u1 := (hg3.cell (lt_cell r1) 1).trans r1; have u2 := (hg3.cell (lt_cell r2) 2).trans r2; clear hg3)
    | (go_at_call 45; refine (ref23_range HL3.out HGD.out (by decide) B hB1 hB2 base hbs y).mono ?_; rintro e w4 ⟨rfl, rfl⟩; rw [EA.out.1, EA.out.2.1, EA.out.2.2])
    | (go_at_call 43; refine (pln_pieces HO3.out (HG3.out.tab HT.out.lt HT.out) y).mono ?_; rw [EP.out, EA.out.2.2]; rintro e w5 ⟨A5, c5, rfl, hg5, hp5⟩; have HG5 := hid (HG3.out.trans hg5); have HO5 := hid (HO3.out.gr hg5); have HL5 := hid (HL3.out.gr hg5); have HP5 := hid hp5; have v0 := (hg5.cell (lt_cell u0) 0).trans u0; have v1 := (hg5.cell (lt_cell u1) 1).trans u1; have v2 := (hg5.cell (lt_cell u2) 2).trans u2; clear hg5 hp5)
    | (go_at_call 46; refine (ref23_pieces HL5.out HGD.out (by decide) B hB1 hB2 base hbs y).mono ?_; rw [EP.out, EA.out.2.2]; rintro e w6 ⟨A6, c6, rfl, hg6, hp6⟩; have HG6 := hid (HG5.out.trans hg6); have HO6 := hid (HO5.out.gr hg6); have HL6 := hid (HL5.out.gr hg6); have HP6 := hid hp6; have HP56 := hid (HP5.out.gr hg6); have y0 := (hg6.cell (lt_cell v0) 0).trans v0; have y2 := (hg6.cell (lt_cell v2) 2).trans v2; clear hg6 hp6))
  have hPl : P.length ≤ 1024 := by rw [← EP.out]; exact Nat.le_trans (pcsOf_len HGD.out (by decide) hB1 hbs y) hB2
  go_loopw [134] (fun i wr => ∃ k : Nat, k ≤ P.length ∧ Hid (Gr w6 wr) ∧ i = .int .i64 k) (fun i _ => P.length - (intOf i).toNat)
  case atStart => exact ⟨0, Nat.zero_le _, ⟨Gr.refl _⟩, rfl⟩
  case round =>
    rename World => wr
    obtain ⟨k, hk, hgr, rfl⟩ := hrel
    by_cases hkl : k < P.length
    · obtain ⟨g5, rfl, hl5, x0, x1, x2⟩ := (HP56.out.gr hgr.out) k hkl
      obtain ⟨g6, rfl, hl6, t0, t1, t2⟩ := (HP6.out.gr hgr.out) k hkl
      generalize P[k].f = pf at *
      generalize P[k].t = pt at *
      generalize P[k].s = ps at *
      have X0 : ∀ m, (wr.drewN m).cell? ⟨g5, k * 3, none⟩ = some (.int .i64 pf) := fun m => ((Gr.refl wr).drewN m |>.cell hl5 _).trans x0
      have X1 : ∀ m, (wr.drewN m).cell? ⟨g5, k * 3 + 1, none⟩ = some (.int .i64 pt) := fun m => ((Gr.refl wr).drewN m |>.cell hl5 _).trans x1
      have X2 : ∀ m, (wr.drewN m).cell? ⟨g5, k * 3 + 2, none⟩ = some (.int .i64 (ps : Nat)) := fun m => ((Gr.refl wr).drewN m |>.cell hl5 _).trans x2
      have T0 : ∀ m, (wr.drewN m).cell? ⟨g6, k * 3, none⟩ = some (.int .i64 pf) := fun m => ((Gr.refl wr).drewN m |>.cell hl6 _).trans t0
      have T1 : ∀ m, (wr.drewN m).cell? ⟨g6, k * 3 + 1, none⟩ = some (.int .i64 pt) := fun m => ((Gr.refl wr).drewN m |>.cell hl6 _).trans t1
      have T2 : ∀ m, (wr.drewN m).cell? ⟨g6, k * 3 + 2, none⟩ = some (.int .i64 (ps : Nat)) := fun m => ((Gr.refl wr).drewN m |>.cell hl6 _).trans t2
      have hk0 : (0 : Int) ≤ (k : Int) := by omega
      have hkI : (k : Int) < (P.length : Int) := by omega
      go_wp2
      go_quiet (fail)
      go_wp2
      go_roundw
      case rel => exact ⟨k + 1, by omega, ⟨hgr.out.drewN _⟩, by go_num⟩
      case measure => simp [intOf]; omega
    · have HGr := hid (HG6.out.trans hgr.out)
      have HOr := hid (HO6.out.gr hgr.out)
      have HLr := hid (HL6.out.gr hgr.out)
      have k0 := (hgr.out.cell (lt_cell y0) 0).trans y0
      have k2 := (hgr.out.cell (lt_cell y2) 2).trans y2
      obtain ⟨N, hN⟩ : ∃ N, N = nbl (sizes L) B := ⟨_, rfl⟩
      have HNN := hid hN.symm
      obtain ⟨bv, hbv⟩ : ∃ v, v = blkV L base B z := ⟨_, rfl⟩
      obtain ⟨fv, hfv⟩ : ∃ v, v = fromV L base z := ⟨_, rfl⟩
      obtain ⟨fe, hfe⟩ : ∃ v, v = fromE L base z := ⟨_, rfl⟩
      have EV := hid (And.intro hbv.symm (And.intro hfv.symm hfe.symm))
      have hs := sizes_le HGD.out
      have hpart : (fe = 11 ∧ bv = 0) ∨ (fe = 0 ∧ 0 ≤ z - (base : Int) ∧ (1 : Int) ≤ (B : Int) ∧ ((B : Int) == 0) = false ∧ IntKind.i64.wrap (z - (base : Int)) = z - (base : Int) ∧ (z - (base : Int)).tdiv (B : Int) = (z - (base : Int)) / (B : Int) ∧ IntKind.i64.wrap ((z - (base : Int)) / (B : Int)) = (z - (base : Int)) / (B : Int) ∧ bv = (z - (base : Int)) / (B : Int)) := by
        cases hin : inF L base z with
        | false => exact .inl ⟨by rw [hfe]; exact (from_no hin).2.2, by rw [hbv]; unfold blkV; rw [hin]; rfl⟩
        | true =>
          obtain ⟨i1, i2⟩ := inF_iff.1 hin
          have hq0 : (0 : Int) ≤ z - (base : Int) := by omega
          have hdl : (z - (base : Int)) / (B : Int) ≤ z - (base : Int) := Int.ediv_le_self _ hq0
          have hd0 : 0 ≤ (z - (base : Int)) / (B : Int) := Int.ediv_nonneg hq0 (by omega)
          exact .inr ⟨by rw [hfe]; unfold fromE; rw [hin]; rfl, hq0, by omega, beq_eq_false_iff_ne.2 (by omega), IntWalk.i64_in _ (by omega), Int.tdiv_eq_ediv_of_nonneg hq0, IntWalk.i64_in _ (by omega), by rw [hbv]; unfold blkV; rw [hin]; rfl⟩
      clear hN hbv hfv hfe
      rcases hpart with ⟨rfl, rfl⟩ | ⟨rfl, hq0, hb1, hB0, hw1, hdiv, hw2, rfl⟩
      all_goals
        go_wp2_with (first
          | (go_at_call 47; refine (pln_block HOr.out (HGr.out.tab HT.out.lt HT.out) z hz).mono ?_; rintro e w7 ⟨rfl, hg7⟩; rw [EV.out.1, EV.out.2.2]; have HG7 := hid (HGr.out.trans hg7); have HO7 := hid (HOr.out.gr hg7); have HL7 := hid (HLr.out.gr hg7); have m0 := (hg7.cell (lt_cell k0) 0).trans k0; have m2 := (hg7.cell (lt_cell k2) 2).trans k2; clear hg7)
          | (go_at_call 38; refine (ref22_from HL7.out HGD.out (by decide) base hbs z).mono ?_; rintro e w8 ⟨rfl, rfl⟩; rw [EV.out.2.1, EV.out.2.2]))
        rename World => w7
        have z0 : ∀ xs m, (grow w7 xs m).cell? ⟨W.heap.size, 0, none⟩ = some (.int .i64 base) := fun xs m => (((grown w7 xs m)).cell (lt_cell m0) 0).trans m0
        obtain ⟨_, _, _, fo, o0, -, hFo⟩ := HO7.out
        have HFO := hid hFo
        have HO0 := hid o0
        clear k0 k2 y0 y2 m0 m2 hFo o0
        refine wp_region_by (by kernel_rfl) (by kernel_rfl) ?_
        repeat (go_big_quiet_step (first
          | (go_at_call 41; have hc := fun xs m => pln_blocks (HO7.out.gr (grown w7 xs m)); simp only [HNN.out] at hc; exact Gets.grown (hc _ _))
          | (go_at_call 48; have hc := fun xs m => ref23_blocks (c := c') (HL7.out.gr (grown w7 xs m)) HGD.out (by decide) B hB1 hB2; simp only [HNN.out] at hc; exact Gets.grown_same (hc _ _))
          | (go_at_call 44; have hc := fun xs m => pln_forward (w := grow w7 xs m) (((grown w7 xs m).cell (lt_cell HO0.out) 0).trans HO0.out); exact Gets.grown_same (hc _ _))
          | (go_at_call 35; have hc := fun xs m => fwd_base (HFO.out.gr (grown w7 xs m)); exact Gets.grown_same (hc _ _))
          | (go_at_call 39; have hc := fun xs m => lives23 ((HG7.out.trans (grown w7 xs m)).tab HT.out.lt HT.out); exact Gets.grown (hc _ _))))
        refine wpQuiet_nil ?_
        intro _ hw'
        obtain ⟨⟨xs, nq⟩, hw''⟩ := hw'
        subst hw''
        go_wp2
        go_ret
        exact ⟨rfl, HG7.out.trans (grown w7 _ _)⟩
theorem tells23_walk {W : World} (hT : TabAt W) (A : Option Addr) (cap : Nat) (l : List Nat) (hB : BytesAt W A l) (n : Int) (hn : n ≤ 9223372036854775807) (x y z : Int) (hb : x ≤ 9223372036854775807 ∧ y ≤ 9223372036854775807 ∧ z ≤ 9223372036854775807) :
    Gets Tryd.prog 9 #[.slice A l.length cap, .int .i64 n, .agg #[.int .i64 x, .int .i64 y, .int .i64 z]] W (.bool true) := by
  by_cases h : 60 < l.length
  · exact tells23_far hT A l.length cap h n x y z
  · cases hok : (blockOk n && baseOk x) with
    | false => exact tells23_no hT A cap l hB (by omega) n hn x y z hok
    | true =>
      obtain ⟨hbk, hbo⟩ := Bool.and_eq_true_iff.1 hok
      have hbp := blockOk_pos hbk
      have hbs : 0 ≤ x := by unfold baseOk at hbo; simp at hbo; omega
      obtain ⟨B, rfl⟩ : ∃ B : Nat, n = B := ⟨n.toNat, by omega⟩
      obtain ⟨base, rfl⟩ : ∃ b : Nat, x = b := ⟨x.toNat, by omega⟩
      exact tells23_in hT A cap l hB (by omega) B base hok (by omega) (by omega) y z hb.2.2
end Go.Proofs.YtlkifhoedfjlaaaDoor
