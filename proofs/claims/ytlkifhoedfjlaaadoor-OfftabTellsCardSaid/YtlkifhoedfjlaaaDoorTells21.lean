/- OfftabTells: the walk. -/
import Derived.Test.YtlkifhoedfjlaaaDoorRef22
import Derived.Test.YtlkifhoedfjlaaaDoorRisesA
import Derived.Test.YtlkifhoedfjlaaaDoorTells12
namespace Go.Proofs.YtlkifhoedfjlaaaDoor
open Go.RowKit Word

set_option maxRecDepth 100000 in
set_option maxHeartbeats 1600000 in
theorem tells21_far {W : World} (hT : TabAt W) (A : Option Addr) (len cap : Nat) (h : 100 < len) (n x y z : Int) :
    Gets Tryd.prog 5 #[.slice A len cap, .int .i64 n, .agg #[.int .i64 x, .int .i64 y, .int .i64 z]] W (.bool true) := by
  have HT := hid hT
  clear hT
  obtain ⟨hg, -, -, -⟩ := q_box (w := W) x y z 47
  have HG := hid hg
  clear hg
  unfold Gets
  have d1 : decide ((100 : Int) < (len : Int)) = true := by simp; omega
  clear h
  go_enter Tryd.func5, Tryd.ntmps5
  go_wp2_with (go_at_call 19; refine (lives21 (HG.out.tab HT.out.lt HT.out)).mono ?_; rintro e w4 ⟨rfl, hg4⟩)
  go_ret
  exact ⟨rfl, HG.out.trans hg4⟩
set_option maxRecDepth 100000 in
set_option maxHeartbeats 1600000 in
theorem tells21_no {W : World} (hT : TabAt W) (A : Option Addr) (cap : Nat) (l : List Nat) (hB : BytesAt W A l) (hl : l.length ≤ 100) (n : Int) (hn : n ≤ 9223372036854775807) (hno : blockOk n = false) (x y z : Int) :
    Gets Tryd.prog 5 #[.slice A l.length cap, .int .i64 n, .agg #[.int .i64 x, .int .i64 y, .int .i64 z]] W (.bool true) := by
  have HT := hid hT
  have HN := hid hno
  obtain ⟨hg, -, -, -⟩ := q_box (w := W) x y z 47
  have HG := hid hg
  have HB := hid (show BytesAt (W.alloc (.cells #[.int .i64 x, .int .i64 y, .int .i64 z] 47)) A l from fun i hi => by
    obtain ⟨h1, b, o, e, hb, hc⟩ := hB i hi
    exact ⟨h1, b, o, e, Nat.lt_of_lt_of_le hb hg.size, (hg.cell hb _).trans hc⟩)
  clear hT hB hno hg
  have d1 : decide ((100 : Int) < (l.length : Int)) = false := by simp; omega
  unfold Gets
  go_enter Tryd.func5, Tryd.ntmps5
  go_wp2_with (first
    | (go_at_call 21; refine (lay_walk (HG.out.tab HT.out.lt HT.out) 1500 (by decide) (by decide) _ _ l HB.out hl).mono ?_; rintro e w1 ⟨m, p1, b1, p2, b2, A', c', rfl, hg1, hE1, -, -, -⟩; have HG1 := hid (HG.out.trans hg1); have HE1 := hid hE1; clear hg1 hE1)
    | (go_at_call 12; refine (off_new HE1.out (HG1.out.tab HT.out.lt HT.out) n hn).mono ?_; rintro e w2 ⟨hg2, ⟨-, rfl⟩ | ⟨hb, -⟩⟩; rotate_left; (rw [HN.out] at hb; cases hb); have HG2 := hid (HG1.out.trans hg2); clear hg2)
    | (go_at_call 26; refine (ref_may12 n _).mono ?_; rintro e w3 ⟨rfl, rfl⟩; rw [HN.out])
    | (go_at_call 19; refine (lives21 (HG2.out.tab HT.out.lt HT.out)).mono ?_; rintro e w4 ⟨rfl, hg4⟩))
  go_ret
  exact ⟨rfl, HG2.out.trans hg4⟩
set_option maxRecDepth 100000 in
set_option maxHeartbeats 1600000 in
theorem tells21_in {W : World} (hT : TabAt W) (A : Option Addr) (cap : Nat) (l : List Nat) (hB : BytesAt W A l) (hl : l.length ≤ 100) (B : Nat) (hok : blockOk B = true) (x y z : Int) (hy : y ≤ 9223372036854775807) (hz : z ≤ 9223372036854775807) :
    Gets Tryd.prog 5 #[.slice A l.length cap, .int .i64 B, .agg #[.int .i64 x, .int .i64 y, .int .i64 z]] W (.bool true) := by
  have hb := blockOk_pos hok
  have HT := hid hT
  have HN := hid hok
  have HBB := hid (And.intro (show 1 ≤ B by omega) (show B ≤ 1024 by omega))
  obtain ⟨hg, c0, c1, c2⟩ := q_box (w := W) x y z 47
  have HB := hid (show BytesAt (W.alloc (.cells #[.int .i64 x, .int .i64 y, .int .i64 z] 47)) A l from fun i hi => by
    obtain ⟨h1, b, o, e, hb, hc⟩ := hB i hi
    exact ⟨h1, b, o, e, Nat.lt_of_lt_of_le hb hg.size, (hg.cell hb _).trans hc⟩)
  have HG := hid hg
  clear hT hB hok hb hg
  have d1 : decide ((100 : Int) < (l.length : Int)) = false := by simp; omega
  obtain ⟨L, hL⟩ : ∃ L, L = layL2 1500 l := ⟨_, rfl⟩
  have HL := hid hL.symm
  clear hL
  obtain ⟨av, hav⟩ : ∃ v, v = aheadV (liveL 1500 L) B x := ⟨_, rfl⟩
  obtain ⟨ae, hae⟩ : ∃ v, v = aheadE 1500 B x := ⟨_, rfl⟩
  obtain ⟨pv, hpv⟩ : ∃ v, v = wordV L y := ⟨_, rfl⟩
  obtain ⟨pb, hpb⟩ : ∃ v, v = wordY L y := ⟨_, rfl⟩
  obtain ⟨nb, hnb⟩ : ∃ v, v = nbl 1500 B := ⟨_, rfl⟩
  obtain ⟨on, hon⟩ : ∃ v, v = sizes L := ⟨_, rfl⟩
  obtain ⟨cx, hcx⟩ : ∃ v, v = overs L 0 z := ⟨_, rfl⟩
  have EA := hid (And.intro hav.symm hae.symm)
  have EP := hid (And.intro hpv.symm hpb.symm)
  have EN := hid hnb.symm
  have EO := hid hon.symm
  have EX := hid hcx.symm
  have EY : Hid (y < 0 → pv = 0 ∧ pb = false) := ⟨fun h => by rw [hpv, hpb]; unfold wordV wordY; rw [if_pos h, decide_eq_false (by omega)]; exact ⟨rfl, rfl⟩⟩
  clear hav hae hpv hpb hnb hon hcx
  unfold Gets
  go_enter Tryd.func5, Tryd.ntmps5
  go_upto_region 1 with (fail)
  obtain ⟨Wa, hWa⟩ : ∃ Wa, Wa = W.alloc (.cells #[.int .i64 x, .int .i64 y, .int .i64 z] 47) := ⟨_, rfl⟩
  rw [← hWa] at HG HB c0 c1 c2 ⊢
  clear hWa
  go_upto_if 86 with (first
    | (go_at_call 21; refine (lay_walk (HG.out.tab HT.out.lt HT.out) 1500 (by decide) (by decide) _ _ l HB.out hl).mono ?_; rw [HL.out]; rintro e w1 ⟨m, p1, b1, p2, b2, A', c', rfl, hg1, hE1, hO1, hx1, hx2⟩; have HG1 := hid (HG.out.trans hg1); have HW1 := hid hg1; have HE1 := hid hE1; have HO1 := hid hO1; have HX1 := hid (And.intro hx1 hx2); have HGD := hid hE1.good; clear hg1 hE1 hO1 hx1 hx2)
    | (go_at_call 12; refine (off_new HE1.out (HG1.out.tab HT.out.lt HT.out) B (by have := HBB.out; omega)).mono ?_; rintro e w2 ⟨hg2, ⟨hb, -⟩ | ⟨-, t, B', hB', rfl, hO⟩⟩; (rw [HN.out] at hb; cases hb); (obtain rfl : B = B' := (by omega)); have HO2 := hid hO; have HG2 := hid (HG1.out.trans hg2); have HW2 := hid (HW1.out.trans hg2); have HE2 := hid (HE1.out.gr hg2); have HL2 := hid (HO1.out.gr hg2); clear hO hg2 hB')
    | (go_at_call 26; refine (ref_may12 B _).mono ?_; rintro e w3 ⟨rfl, rfl⟩; rw [HN.out])
    | (go_at_call 27; refine (ext_wipe HE2.out).mono ?_; rintro e w3 ⟨rfl, ht3, -⟩; have HML := hid (show ∀ i, mine m b1 b2 i → Wa.heap.size ≤ i ∧ i < w1.heap.size from fun i h => by { have a1 := HE1.out.hm; have a2 := HE1.out.v1.hb; have a3 := HE1.out.v2.hb; have a4 := HX1.out.1; rcases h with rfl | rfl | rfl <;> omega }); have HG3 := hid ((HG2.out.touch (fun _ => False)).trans' ht3 (fun i hi h => by { have := HML.out i h; have := HG.out.size; omega })).gr; have HW3 := hid ((HW2.out.touch (fun _ => False)).trans' ht3 (fun i hi h => by { have := HML.out i h; omega })).gr; have HO3 := hid (HO2.out.touch ht3 (fun k h1 _ h => by { have := HML.out k h; omega })); have HL3 := hid (HL2.out.touch ht3 (fun a ha => (HX1.out.2 a ha).2)); have u0 := (HW3.out.cell (lt_cell c0) 0).trans c0; have u1 := (HW3.out.cell (lt_cell c1) 1).trans c1; have u2 := (HW3.out.cell (lt_cell c2) 2).trans c2; clear ht3)
    | (go_at_call 13; refine (off_ahead HO3.out x).mono ?_; rintro e w5 ⟨rfl, rfl⟩; rw [EA.out.1, EA.out.2])
    | (go_at_call 28; refine (ref21_ahead HL3.out HGD.out (by decide) B HBB.out.1 HBB.out.2 x).mono ?_; rintro e w5 ⟨rfl, hg5⟩; rw [EA.out.1, EA.out.2]; have HG5 := hid (HG3.out.trans hg5); have HW5 := hid (HW3.out.trans hg5); have HO5 := hid (HO3.out.gr hg5); have HL5 := hid (HL3.out.gr hg5); have v1 := (hg5.cell (lt_cell u1) 1).trans u1; have v2 := (hg5.cell (lt_cell u2) 2).trans u2; clear hg5)
    | (go_at_call 14; refine (off_word HO5.out (HG5.out.tab HT.out.lt HT.out) y).mono ?_; rintro e w6 ⟨rfl, hg6⟩; rw [EP.out.1, EP.out.2]; have HG6 := hid (HG5.out.trans hg6); have HW6 := hid (HW5.out.trans hg6); have HO6 := hid (HO5.out.gr hg6); have HL6 := hid (HL5.out.gr hg6); have y1 := (hg6.cell (lt_cell v1) 1).trans v1; have y2 := (hg6.cell (lt_cell v2) 2).trans v2; clear hg6))
  go_cut [18, 19] (fun s18 s19 wx => s18 = .int .i64 pv ∧ s19 = .bool pb ∧ wx = w6)
  case first =>
    by_cases hy0 : 0 ≤ y
    · go_wp2_with (go_at_call 29; refine (ref13_word HL6.out HGD.out (by decide) y hy0 hy).mono ?_; rintro e w7 ⟨rfl, rfl⟩; rw [EP.out.1, EP.out.2])
      go_meet
      case rel => exact ⟨rfl, rfl, rfl⟩
    · have e := hid (EY.out (by omega))
      go_wp2
      go_meet
      case rel => exact ⟨by rw [e.out.1], by rw [e.out.2], rfl⟩
  case rest =>
    obtain ⟨rfl, rfl, rfl⟩ := hcut
    obtain ⟨fb, hfb⟩ : ∃ fb, fb = decide (findO L z < L.length) := ⟨_, rfl⟩
    obtain ⟨fv, hfv⟩ : ∃ fv, fv = idxI L (findO L z) := ⟨_, rfl⟩
    have hd : decide (0 ≤ fv) = fb := by rw [hfv, hfb]; exact idxI_ge L _
    have EF := hid hfv.symm
    have EB : Hid ((decide (0 ≤ z) && liveB L z.toNat) = fb) := ⟨by rw [hfb]; exact live_find z⟩
    have EV : Hid (((liveN L 1500 0 z : Nat) : Int) = cx) := ⟨by rw [liveN_eq HGD.out, EX.out]⟩
    clear hfb hfv
    have z2 : ∀ xs m, (grow wc xs m).cell? ⟨W.heap.size, 2, none⟩ = some (.int .i64 z) := fun xs m => (((grown wc xs m)).cell (lt_cell y2) 2).trans y2
    go_wp2
    refine wp_region_by (by kernel_rfl) (by kernel_rfl) ?_
    repeat (go_big_quiet_step (first
      | (go_at_call 15; have hc := fun xs m => off_before (HO6.out.gr (grown wc xs m)) z; simp only [EX.out] at hc; exact Gets.grown (hc _ _))
      | (go_at_call 30; have hc := fun xs m => ref13_live (c := c') (HL6.out.gr (grown wc xs m)) HGD.out (by decide) 0 z; simp only [EV.out] at hc; exact Gets.grown (hc _ _))
      | (go_at_call 18; have hc := fun xs m => off_is (HO6.out.gr (grown wc xs m)) z; simp only [EB.out] at hc; exact Gets.grown_same (hc _ _))
      | (go_at_call 31; have hc := fun xs m => ref13_find (c := c') (HL6.out.gr (grown wc xs m)) HGD.out (by decide) z hz; simp only [EF.out] at hc; exact Gets.grown (hc _ _))
      | (go_at_call 16; have hc := fun xs m => off_blocks (HO6.out.gr (grown wc xs m)); simp only [EN.out] at hc; exact Gets.grown_same (hc _ _))
      | (go_at_call 32; have hc := fun xs m => ref21_blocks (len := 1500) (by decide) B HBB.out.1 HBB.out.2 (grow wc xs m); simp only [EN.out] at hc; exact Gets.grown_same (hc _ _))
      | (go_at_call 17; have hc := fun xs m => off_live (HO6.out.gr (grown wc xs m)); simp only [EO.out] at hc; exact Gets.grown_same (hc _ _))
      | (go_at_call 33; have hc := fun xs m => ref13_sizes (c := c') (HL6.out.gr (grown wc xs m)) HGD.out (by decide); simp only [EO.out] at hc; exact Gets.grown_same (hc _ _))
      | (go_at_call 19; have hc := fun xs m => lives21 ((HG6.out.trans (grown wc xs m)).tab HT.out.lt HT.out); exact Gets.grown (hc _ _))))
    refine wpQuiet_nil ?_
    intro _ hw'
    obtain ⟨⟨xs, nq⟩, hw''⟩ := hw'
    subst hw''
    go_wp2
    go_ret
    exact ⟨rfl, HG6.out.trans (grown wc _ _)⟩
theorem tells21_walk {W : World} (hT : TabAt W) (A : Option Addr) (cap : Nat) (l : List Nat) (hB : BytesAt W A l) (n : Int) (hn : n ≤ 9223372036854775807) (x y z : Int) (hb : x ≤ 9223372036854775807 ∧ y ≤ 9223372036854775807 ∧ z ≤ 9223372036854775807) :
    Gets Tryd.prog 5 #[.slice A l.length cap, .int .i64 n, .agg #[.int .i64 x, .int .i64 y, .int .i64 z]] W (.bool true) := by
  by_cases h : 100 < l.length
  · exact tells21_far hT A l.length cap h n x y z
  · cases hok : blockOk n with
    | false => exact tells21_no hT A cap l hB (by omega) n hn hok x y z
    | true =>
      have hbp := blockOk_pos hok
      obtain ⟨B, rfl⟩ : ∃ B : Nat, n = B := ⟨n.toNat, by omega⟩
      exact tells21_in hT A cap l hB (by omega) B hok x y z hb.2.1 hb.2.2
end Go.Proofs.YtlkifhoedfjlaaaDoor
