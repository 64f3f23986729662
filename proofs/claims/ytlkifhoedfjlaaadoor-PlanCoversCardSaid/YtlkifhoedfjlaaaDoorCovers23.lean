/- PlanCovers: the walk. -/
import Derived.Test.YtlkifhoedfjlaaaDoorRef23
import Derived.Test.YtlkifhoedfjlaaaDoorLive23
import Derived.Test.YtlkifhoedfjlaaaDoorSums22
namespace Go.Proofs.YtlkifhoedfjlaaaDoor
open Go.RowKit Word

/-- Where block k begins: behind the last one, the top. -/
def blkA (base S B k : Nat) : Nat := base + min (k * B) S
set_option maxRecDepth 100000 in
set_option maxHeartbeats 3200000 in
theorem covers23_in {W : World} (hT : TabAt W) (A : Option Addr) (cap : Nat) (l : List Nat) (hB : BytesAt W A l) (hl : l.length ≤ 60) (blk : Nat) (hblk : blk ≤ 255) (base : Nat) (hbase : base ≤ 65535) :
    Gets Tryd.prog 8 #[.slice A l.length cap, .int .u8 blk, .int .u16 base] W (.bool true) := by
  have HT := hid hT
  have HB := hid hB
  have htl := hT.lt
  have d2 : decide ((60 : Int) < (l.length : Int)) = false := by simp; omega
  obtain ⟨B, hsh, hbk, hb1, hb2⟩ := shl_block blk
  have HSH := hid hsh
  have HBK : Hid ((blockOk B && baseOk base) = true) := ⟨by rw [hbk]; unfold baseOk; rw [decide_eq_true (by omega), decide_eq_true (by omega)]; rfl⟩
  clear hT hB hbk hsh
  unfold Gets
  go_enter Tryd.func8, Tryd.ntmps8
  go_upto_region 8 with (first
    | (go_at_call 21; refine (lay_walk HT.out 600 (by decide) (by decide) _ _ l HB.out (by omega)).mono ?_; rintro e w1 ⟨m, p1, b1, p2, b2, A', c', rfl, hg1, hE1, hO1, -, -⟩; have HG1 := hid hg1; have HE1 := hid hE1; have HO1 := hid hO1; clear hg1 hE1 hO1)
    | (go_at_call 40; rw [HSH.out]; refine (pln_new HE1.out (HG1.out.tab htl HT.out) B base (by omega)).mono ?_; rintro e w2 ⟨hg2, ⟨hb, -⟩ | ⟨-, p, B', base', hB', hbs', rfl, hO⟩⟩; (rw [HBK.out] at hb; cases hb); (obtain rfl : B = B' := (by omega)); (obtain rfl : base = base' := (by omega)); have HO2 := hid hO; have HG2 := hid (HG1.out.trans hg2); have HL2 := hid (HO1.out.gr hg2); clear hO hg2 hB' hbs'))
  have hgood := HE1.out.good
  have HGD := hid hgood
  obtain ⟨L, hL⟩ : ∃ L, L = layL2 600 l := ⟨_, rfl⟩
  rw [← hL] at HO2 HL2 HGD hgood ⊢
  have hsl := sizes_le hgood
  obtain ⟨S, hS⟩ : ∃ S, S = sizes L := ⟨_, rfl⟩
  have HS := hid hS.symm
  rw [← hS] at hsl
  obtain ⟨N, hN⟩ : ∃ N, N = nbl (sizes L) B := ⟨_, rfl⟩
  have HN := hid hN.symm
  have hNl : N ≤ 600 := by rw [hN]; exact Nat.le_trans (nbl_le hb1) (by omega)
  have HBD := hid (fun b => frm_bd hgood (by decide) base b)
  have HNB := hid (fun j => nbl_lt (n := S) (B := B) (j := j) hb1)
  rw [hS, ← hN, ← hS] at HNB
  clear HE1 HO1 hL hgood hS hN
  go_wp2_with (go_at_call 41; refine (pln_blocks HO2.out).mono ?_; rintro e w3 ⟨rfl, hg3⟩; rw [HN.out]; have HG3 := hid (HG2.out.trans hg3); have HO3 := hid (HO2.out.gr hg3); have HL3 := hid (HL2.out.gr hg3); clear hg3)
  go_loopw [12, 51] (fun s12 i wr => ∃ k at' : Nat, k ≤ N ∧ Hid (at' = blkA base S B k) ∧ at' ≤ 66135 ∧ Hid (Gr w3 wr) ∧ s12 = .int .i64 at' ∧ i = .int .i64 k) (fun _ i _ => N - (intOf i).toNat)
  case atStart => exact ⟨0, base, Nat.zero_le _, ⟨by unfold blkA; omega⟩, by omega, ⟨Gr.refl _⟩, rfl, rfl⟩
  case round =>
    obtain ⟨k, at', hk, hat, hatb, hgr, rfl, rfl⟩ := hrel
    have HGr := hid (HG3.out.trans hgr.out)
    have HOr := hid (HO3.out.gr hgr.out)
    have HLr := hid (HL3.out.gr hgr.out)
    by_cases hkN : k < N
    · have hkS : k * B < S := (HNB.out k).1 hkN
      have hin : rngIn L B k = true := by unfold rngIn; rw [HN.out]; simp; exact hkN
      obtain ⟨e1, e2, e3⟩ := rng_yes (base := base) hin
      obtain ⟨t, ht⟩ : ∃ t, t = k * B := ⟨_, rfl⟩
      have hmul : (k : Int) * (B : Int) = (t : Int) := by rw [ht]; push_cast; rfl
      rw [← ht] at hkS
      obtain ⟨z, hz⟩ : ∃ z, z = base + min (t + B) S := ⟨_, rfl⟩
      have ha0 : at' = base + t := by rw [hat.out]; unfold blkA; rw [← ht]; omega
      have E1 : rngA L B base k = (at' : Int) := by rw [e1, hmul, ha0]; push_cast; rfl
      have E2 : rngZ L B base k = (z : Int) := by rw [e2, hmul, hz, HS.out]; omega
      have hzb : at' < z ∧ z ≤ at' + B ∧ z ≤ base + S ∧ base ≤ at' := by omega
      have hzn : Hid (z = blkA base S B (k + 1)) := ⟨by unfold blkA; rw [Nat.succ_mul, ← ht, hz]⟩
      have hkk : decide ((k : Int) < (N : Int) - 1) = false ∨ (decide ((k : Int) < (N : Int) - 1) = true ∧ ((z : Int) - (at' : Int) != (B : Int)) = false) := by
        by_cases h1 : k + 1 < N
        · have h2 := (HNB.out (k + 1)).1 h1
          rw [Nat.succ_mul, ← ht] at h2
          have h3 : (z : Int) - (at' : Int) = (B : Int) := by omega
          exact .inr ⟨decide_eq_true (by omega), by rw [h3]; simp⟩
        · exact .inl (decide_eq_false (by omega))
      obtain ⟨P, hP⟩ : ∃ P, P = pcsOf L B base k := ⟨_, rfl⟩
      have hR : Runs (fromV L base) at' (z - at') P := by
        rw [hP]; unfold pcsOf
        rw [E1, E2, show ((z : Int) - (at' : Int)).toNat = z - at' by omega]
        exact pcs_runs _ _ _
      have hPl : P.length ≤ 1024 := by rw [hP]; exact Nat.le_trans (pcsOf_len HGD.out (by decide) hb1 (by omega) k) hb2
      have hze : (at' : Int) + ((z - at' : Nat) : Int) = (z : Int) := by omega
      have HT0 : Hid (toAt P z 0 = at') := ⟨by have := toAt_zero hR (by omega); rw [hze] at this; exact this⟩
      have HTN : Hid (∀ i (hi : i < P.length), toAt P z (i + 1) = P[i].t + P[i].s) := ⟨fun i hi => by have := toAt_next hR hi; rw [hze] at this; exact this⟩
      have HEN : Hid (∀ i (hi : i < P.length), P[i].t + P[i].s ≤ z ∧ (at' : Int) ≤ P[i].t) := ⟨fun i hi => by have := hR.ends _ i hi rfl; rw [hze] at this; exact this⟩
      have HR := hid hR
      have EA := hid (And.intro E1 (And.intro E2 e3))
      have EP := hid hP.symm
      have d3 : decide (z ≤ at') = false := decide_eq_false (by omega)
      have d4 : decide ((B : Int) < (z : Int) - (at' : Int)) = false := decide_eq_false (by omega)
      obtain ⟨z1, z2, z3, z4⟩ := hzb
      clear hin e1 e2 e3 E1 E2 hP hR hze ht hmul hz ha0 hat
      rcases hkk with hk1 | ⟨hk1, hk2⟩
      all_goals
        go_wp2_with (first
          | (go_at_call 42; refine (pln_range HOr.out k).mono ?_; rintro e w4 ⟨rfl, hg4⟩; rw [EA.out.1, EA.out.2.1, EA.out.2.2]; have HG4 := hid (hgr.out.trans hg4); have HO4 := hid (HOr.out.gr hg4); have HL4 := hid (HLr.out.gr hg4); have HT4 := hid ((HGr.out.trans hg4).tab htl HT.out); clear hg4)
          | (go_at_call 43; refine (pln_pieces HO4.out HT4.out k).mono ?_; rw [EP.out, EA.out.2.2]; rintro e w5 ⟨A5, c5, rfl, hg5, hp5⟩; have HG5 := hid (HG4.out.trans hg5); have HO5 := hid (HO4.out.gr hg5); have HL5 := hid (HL4.out.gr hg5); have HP5 := hid hp5; clear hg5 hp5)
          | (go_at_call 41; refine (pln_blocks HO5.out).mono ?_; rintro e w6 ⟨rfl, hg6⟩; rw [HN.out]; have HG6 := hid (HG5.out.trans hg6); have HL6 := hid (HL5.out.gr hg6); have HP6 := hid (HP5.out.gr hg6); clear hg6))
        go_loopw [12, 106] (fun s12 i wx => ∃ i' tt : Nat, i' ≤ P.length ∧ Hid (toAt P z i' = tt) ∧ tt ≤ z ∧ at' ≤ tt ∧ Hid (Gr w6 wx) ∧ s12 = .int .i64 tt ∧ i = .int .i64 i') (fun _ i _ => P.length - (intOf i).toNat)
        case atStart => exact ⟨0, at', Nat.zero_le _, HT0, by omega, Nat.le_refl _, ⟨Gr.refl _⟩, rfl, rfl⟩
        case round =>
          rename World => wx
          obtain ⟨i, tt, hi, htt, htz, hta, hgx, rfl, rfl⟩ := hrel
          by_cases hil : i < P.length
          · obtain ⟨g5, rfl, hl5, x0, x1, x2⟩ := (HP6.out.gr hgx.out) i hil
            have hnx := HTN.out i hil
            have hen := HEN.out i hil
            have hps := HR.out.pos _ (List.getElem_mem hil)
            have hwd := HR.out.word _ (List.getElem_mem hil)
            have hti : P[i].t = (tt : Int) := by rw [← htt.out, toAt_in hil]
            rw [hti] at x1 hnx hen hwd
            have hpb : 0 ≤ P[i].f ∧ P[i].f ≤ 1048576 := by
              have h0 := hwd 0 hps
              rw [Int.natCast_zero, Int.add_zero, Int.add_zero] at h0
              rw [← h0]
              exact HBD.out _
            have hprev : (decide (0 < i) = false ∧ decide ((0 : Int) < (i : Int)) = false) ∨ ∃ (j : Nat) (qf : Int) (qs : Nat), decide (0 < i) = true ∧ decide ((0 : Int) < (i : Int)) = true ∧ (1 : Int) ≤ (i : Int) ∧ ((i : Int) - 1).toNat = j ∧ (0 : Int) ≤ (i : Int) - 1 ∧ (i : Int) - 1 < (P.length : Int) ∧
                (∀ w', Gr wx w' → w'.cell? ⟨g5, j * 3, none⟩ = some (.int .i64 qf) ∧ w'.cell? ⟨g5, j * 3 + 2, none⟩ = some (.int .i64 (qs : Nat))) ∧ (qf + (qs : Int) == P[i].f) = false ∧ 0 ≤ qf ∧ qf ≤ 1048576 ∧ qs ≤ 1048576 := by
              rcases Nat.eq_zero_or_pos i with h0 | h0
              · exact .inl ⟨decide_eq_false (by omega), decide_eq_false (by omega)⟩
              · obtain ⟨j, rfl⟩ : ∃ j, i = j + 1 := ⟨i - 1, by omega⟩
                obtain ⟨gj, hgj, hlj, y0, y1, y2⟩ := (HP6.out.gr hgx.out) j (by omega)
                cases hgj
                have hw2 := HR.out.word _ (List.getElem_mem (l := P) (n := j) (by omega)) 0 (HR.out.pos _ (List.getElem_mem (by omega)))
                rw [Int.natCast_zero, Int.add_zero, Int.add_zero] at hw2
                have hb := HBD.out (P[j]'(by omega)).t
                rw [hw2] at hb
                have hne := (HR.out.next j hil).2
                have he2 := HEN.out j (by omega)
                exact .inr ⟨j, (P[j]'(by omega)).f, (P[j]'(by omega)).s, decide_eq_true (by omega), decide_eq_true (by omega), by omega, by omega, by omega, by omega, fun w' hg => ⟨(hg.cell hlj _).trans y0, (hg.cell hlj _).trans y2⟩, beq_eq_false_iff_ne.2 hne, hb.1, hb.2, by omega⟩
            have HNXT := hid (show toAt P z (i + 1) = ((tt + P[i].s : Nat) : Int) from by rw [hnx]; push_cast; rfl)
            have HWD := hid (show ∀ r : Nat, r < P[i].s → fromV L base ((tt : Int) + (r : Int)) = P[i].f + (r : Int) from hwd)
            clear hnx hwd htt hti
            generalize P[i].f = pf at *
            generalize P[i].s = ps at *
            obtain ⟨he1, he2⟩ := hen
            obtain ⟨wb, hwb⟩ : ∃ wb, wb = wx.alloc (.cells #[.int .i64 pf, .int .i64 tt, .int .i64 ps] 69) := ⟨_, rfl⟩
            have hgb : Gr wx wb := by rw [hwb]; exact (Gr.refl wx).alloc _
            have v0 : wb.cell? ⟨wx.heap.size, 0, none⟩ = some (.int .i64 pf) := by rw [hwb]; exact World.cell?_alloc_new ..
            have v1 : wb.cell? ⟨wx.heap.size, 1, none⟩ = some (.int .i64 tt) := by rw [hwb]; exact World.cell?_alloc_new ..
            have v2 : wb.cell? ⟨wx.heap.size, 2, none⟩ = some (.int .i64 ps) := by rw [hwb]; exact World.cell?_alloc_new ..
            have hvl := lt_cell v0
            have HWB := hid hwb
            have HGB := hid hgb
            have V0 : ∀ m, (wb.drewN m).cell? ⟨wx.heap.size, 0, none⟩ = some (.int .i64 pf) := fun m => ((Gr.refl wb).drewN m |>.cell hvl _).trans v0
            have V1 : ∀ m, (wb.drewN m).cell? ⟨wx.heap.size, 1, none⟩ = some (.int .i64 tt) := fun m => ((Gr.refl wb).drewN m |>.cell hvl _).trans v1
            have V2 : ∀ m, (wb.drewN m).cell? ⟨wx.heap.size, 2, none⟩ = some (.int .i64 ps) := fun m => ((Gr.refl wb).drewN m |>.cell hvl _).trans v2
            clear hwb hgb
            have d5 : decide ((ps : Int) < 1) = false := decide_eq_false (by omega)
            have d6 : decide (ps < 1) = false := decide_eq_false (by omega)
            have d7 : decide ((z : Int) < (tt : Int) + (ps : Int)) = false := decide_eq_false (by omega)
            have hii : (i : Int) < (P.length : Int) := by omega
            go_upto_region 19 with (fail)
            rw [← HWB.out]
            rcases hprev with ⟨d8, d9⟩ | ⟨j, qf, qs, d8, d9, i1, i2, i3, i4, hq, hne, hqf0, hqf1, hqs⟩
            · go_quiet (fail)
              go_wp2
              go_loopw [153] (fun r wy => ∃ r' : Nat, r' ≤ ps ∧ Hid (Gr wb wy) ∧ r = .int .i64 r') (fun r _ => ps - (intOf r).toNat)
              case atStart => exact ⟨0, Nat.zero_le _, ⟨(Gr.refl wb).drewN _⟩, rfl⟩
              case round =>
                rename World => wy
                obtain ⟨r, hr, hgy, rfl⟩ := hrel
                have t0 := (hgy.out.cell hvl _).trans v0
                have t2 := (hgy.out.cell hvl _).trans v2
                have HLY := hid (HL6.out.gr (hgx.out.trans (HGB.out.trans hgy.out)))
                by_cases hrp : r < ps
                · have E3 := hid (HWD.out r hrp)
                  have E4 : Hid (fromE L base ((tt : Int) + (r : Int)) = 0) := ⟨by unfold fromE; rw [inF_iff.2 ⟨by omega, by rw [HS.out]; omega⟩]; rfl⟩
                  go_wp2_with (go_at_call 38; refine (ref22_from HLY.out HGD.out (by decide) base (by omega) _).mono ?_; rintro e w8 ⟨rfl, rfl⟩; rw [E3.out, E4.out])
                  go_roundw
                  case rel => exact ⟨r + 1, by omega, hgy, by go_num⟩
                  case measure => simp [intOf]; omega
                · obtain rfl : r = ps := by omega
                  go_wp2
                  go_roundw
                  case rel => exact ⟨i + 1, tt + r, by omega, HNXT, by omega, by omega, ⟨hgx.out.trans (HGB.out.trans hgy.out)⟩, by go_num, by go_num⟩
                  case measure => simp [intOf]; omega
            · have Q0 : ∀ m, (wb.drewN m).cell? ⟨g5, j * 3, none⟩ = some (.int .i64 qf) := fun m => (hq _ (HGB.out.drewN m)).1
              have Q2 : ∀ m, (wb.drewN m).cell? ⟨g5, j * 3 + 2, none⟩ = some (.int .i64 (qs : Nat)) := fun m => (hq _ (HGB.out.drewN m)).2
              clear hq
              go_quiet (fail)
              go_wp2
              go_loopw [153] (fun r wy => ∃ r' : Nat, r' ≤ ps ∧ Hid (Gr wb wy) ∧ r = .int .i64 r') (fun r _ => ps - (intOf r).toNat)
              case atStart => exact ⟨0, Nat.zero_le _, ⟨(Gr.refl wb).drewN _⟩, rfl⟩
              case round =>
                rename World => wy
                obtain ⟨r, hr, hgy, rfl⟩ := hrel
                have t0 := (hgy.out.cell hvl _).trans v0
                have t2 := (hgy.out.cell hvl _).trans v2
                have HLY := hid (HL6.out.gr (hgx.out.trans (HGB.out.trans hgy.out)))
                by_cases hrp : r < ps
                · have E3 := hid (HWD.out r hrp)
                  have E4 : Hid (fromE L base ((tt : Int) + (r : Int)) = 0) := ⟨by unfold fromE; rw [inF_iff.2 ⟨by omega, by rw [HS.out]; omega⟩]; rfl⟩
                  go_wp2_with (go_at_call 38; refine (ref22_from HLY.out HGD.out (by decide) base (by omega) _).mono ?_; rintro e w8 ⟨rfl, rfl⟩; rw [E3.out, E4.out])
                  go_roundw
                  case rel => exact ⟨r + 1, by omega, hgy, by go_num⟩
                  case measure => simp [intOf]; omega
                · obtain rfl : r = ps := by omega
                  go_wp2
                  go_roundw
                  case rel => exact ⟨i + 1, tt + r, by omega, HNXT, by omega, by omega, ⟨hgx.out.trans (HGB.out.trans hgy.out)⟩, by go_num, by go_num⟩
                  case measure => simp [intOf]; omega
          · obtain rfl : i = P.length := by omega
            obtain rfl : tt = z := by have := htt.out; rw [toAt_end] at this; omega
            go_wp2
            go_roundw
            case rel => exact ⟨k + 1, tt, by omega, hzn, by omega, ⟨HG6.out.trans hgx.out⟩, rfl, by go_num⟩
            case measure => simp [intOf]; omega
    · obtain rfl : k = N := by omega
      have hNS := HNB.out k
      have ha0 : at' = base + S := by rw [hat.out]; unfold blkA; omega
      have HAL : Hid ((base : Int) + (sizes L : Nat) = (at' : Int)) := ⟨by rw [ha0, HS.out]; push_cast; rfl⟩
      obtain ⟨_, _, _, fo, o0, -, hFo⟩ := HOr.out
      have HFO := hid hFo
      clear hat ha0 hFo hNS
      go_wp2_with (first
        | (go_at_call 44; refine (pln_forward o0).mono ?_; rintro e w4 ⟨rfl, rfl⟩)
        | (go_at_call 25; refine (fwd_top HFO.out).mono ?_; rintro e w5 ⟨rfl, hg5⟩; rw [HAL.out]; have HG5 := hid (HGr.out.trans hg5); clear hg5)
        | (go_at_call 39; refine (lives23 (HG5.out.tab htl HT.out)).mono ?_; rintro e w6 ⟨rfl, hg6⟩; have HG6 := hid (HG5.out.trans hg6); clear hg6))
      go_ret
      exact ⟨rfl, HG6.out⟩
set_option maxRecDepth 100000 in
theorem covers23_walk {W : World} (hT : TabAt W) (A : Option Addr) (cap : Nat) (l : List Nat) (hB : BytesAt W A l) (blk : Nat) (hblk : blk ≤ 255) (c : Int) (hc : 0 ≤ c ∧ c ≤ 65535) :
    Gets Tryd.prog 8 #[.slice A l.length cap, .int .u8 blk, .int .u16 c] W (.bool true) := by
  obtain ⟨base, rfl⟩ : ∃ base : Nat, c = base := ⟨c.toNat, by omega⟩
  by_cases h : 60 < l.length
  · have d2 : decide ((60 : Int) < (l.length : Int)) = true := by simp; omega
    have HT := hid hT
    clear hT hB h
    unfold Gets
    go_enter Tryd.func8, Tryd.ntmps8
    go_wp2_with (go_at_call 39; refine (lives23 HT.out).mono ?_; rintro e w6 ⟨rfl, hg6⟩)
    go_ret
    exact ⟨rfl, hg6⟩
  · exact covers23_in hT A cap l hB (by omega) blk hblk base (by omega)
end Go.Proofs.YtlkifhoedfjlaaaDoor
