/- ForwardTells: the walk. -/
import Derived.Test.YtlkifhoedfjlaaaDoorRef22
import Derived.Test.YtlkifhoedfjlaaaDoorLive22
import Derived.Test.YtlkifhoedfjlaaaDoorTells12
namespace Go.Proofs.YtlkifhoedfjlaaaDoor
open Go.RowKit Word

set_option maxRecDepth 100000 in
set_option maxHeartbeats 1600000 in
theorem tells22_far {W : World} (hT : TabAt W) (A : Option Addr) (len cap : Nat) (h : 100 < len) (n x y z : Int) :
    Gets Tryd.prog 7 #[.slice A len cap, .int .i64 n, .agg #[.int .i64 x, .int .i64 y, .int .i64 z]] W (.bool true) := by
  have HT := hid hT
  clear hT
  obtain ⟨hg, -, -, -⟩ := q_box (w := W) x y z 47
  have HG := hid hg
  clear hg
  unfold Gets
  have d1 : decide ((100 : Int) < (len : Int)) = true := by simp; omega
  clear h
  go_enter Tryd.func7, Tryd.ntmps7
  go_wp2_with (go_at_call 20; refine (lives22 (HG.out.tab HT.out.lt HT.out)).mono ?_; rintro e w4 ⟨rfl, hg4⟩)
  go_ret
  exact ⟨rfl, HG.out.trans hg4⟩
theorem BytesAt.gr {w w' : World} {A : Option Addr} {l : List Nat} (h : BytesAt w A l) (hg : Gr w w') : BytesAt w' A l := fun i hi => by
  obtain ⟨h1, b, o, e, hb, hc⟩ := h i hi
  exact ⟨h1, b, o, e, Nat.lt_of_lt_of_le hb hg.size, (hg.cell hb _).trans hc⟩
set_option maxRecDepth 100000 in
set_option maxHeartbeats 1600000 in
theorem tells22_no {W : World} (hT : TabAt W) (A : Option Addr) (cap : Nat) (l : List Nat) (hB : BytesAt W A l) (hl : l.length ≤ 100) (n : Int) (hn : n ≤ 9223372036854775807) (x y z : Int) (hno : (blockOk n && baseOk x) = false) :
    Gets Tryd.prog 7 #[.slice A l.length cap, .int .i64 n, .agg #[.int .i64 x, .int .i64 y, .int .i64 z]] W (.bool true) := by
  have HT := hid hT
  have HN := hid hno
  obtain ⟨hg, c0, -, -⟩ := q_box (w := W) x y z 47
  have HB := hid (hB.gr hg)
  have HG := hid hg
  clear hT hB hg
  have d1 : decide ((100 : Int) < (l.length : Int)) = false := by simp; omega
  have hbo : baseOk x = (decide (0 ≤ x) && decide (x < 2147483648)) := rfl
  unfold Gets
  obtain ⟨Wa, hWa⟩ : ∃ Wa, Wa = W.alloc (.cells #[.int .i64 x, .int .i64 y, .int .i64 z] 47) := ⟨_, rfl⟩
  rw [← hWa] at HG HB c0
  cases hok : blockOk n with
  | false =>
    have HK := hid hok
    clear hno hbo hok
    go_enter Tryd.func7, Tryd.ntmps7
    go_upto_region 1 with (fail)
    rw [← hWa]
    clear hWa
    go_wp2_with (first
      | (go_at_call 21; refine (lay_walk (HG.out.tab HT.out.lt HT.out) 1500 (by decide) (by decide) _ _ l HB.out hl).mono ?_; rintro e w1 ⟨m, p1, b1, p2, b2, A', c', rfl, hg1, hE1, -, -, -⟩; have HG1 := hid (HG.out.trans hg1); have u0 := (hg1.cell (lt_cell c0) 0).trans c0; have HE1 := hid hE1; clear hg1 hE1)
      | (go_at_call 22; refine (fwd_new HE1.out (HG1.out.tab HT.out.lt HT.out) n x hn).mono ?_; rintro e w2 ⟨hg2, ⟨-, rfl⟩ | ⟨hb, -⟩⟩; rotate_left; (rw [HN.out] at hb; cases hb); have HG2 := hid (HG1.out.trans hg2); have v0 := (hg2.cell (lt_cell u0) 0).trans u0; clear hg2)
      | (go_at_call 26; refine (ref_may12 n _).mono ?_; rintro e w3 ⟨rfl, rfl⟩; rw [HK.out])
      | (go_at_call 20; refine (lives22 (HG2.out.tab HT.out.lt HT.out)).mono ?_; rintro e w4 ⟨rfl, hg4⟩))
    go_ret
    exact ⟨rfl, HG2.out.trans hg4⟩
  | true =>
    have HK := hid hok
    rw [hok, Bool.true_and, hbo] at hno
    clear hbo hok
    by_cases hx0 : x < 0
    · have d3 : decide (x < 0) = true := decide_eq_true hx0
      clear hno
      go_enter Tryd.func7, Tryd.ntmps7
      go_upto_region 1 with (fail)
      rw [← hWa]
      clear hWa
      go_wp2_with (first
        | (go_at_call 21; refine (lay_walk (HG.out.tab HT.out.lt HT.out) 1500 (by decide) (by decide) _ _ l HB.out hl).mono ?_; rintro e w1 ⟨m, p1, b1, p2, b2, A', c', rfl, hg1, hE1, -, -, -⟩; have HG1 := hid (HG.out.trans hg1); have u0 := (hg1.cell (lt_cell c0) 0).trans c0; have HE1 := hid hE1; clear hg1 hE1)
        | (go_at_call 22; refine (fwd_new HE1.out (HG1.out.tab HT.out.lt HT.out) n x hn).mono ?_; rintro e w2 ⟨hg2, ⟨-, rfl⟩ | ⟨hb, -⟩⟩; rotate_left; (rw [HN.out] at hb; cases hb); have HG2 := hid (HG1.out.trans hg2); have v0 := (hg2.cell (lt_cell u0) 0).trans u0; clear hg2)
        | (go_at_call 26; refine (ref_may12 n _).mono ?_; rintro e w3 ⟨rfl, rfl⟩; rw [HK.out])
        | (go_at_call 20; refine (lives22 (HG2.out.tab HT.out.lt HT.out)).mono ?_; rintro e w4 ⟨rfl, hg4⟩))
      go_ret
      exact ⟨rfl, HG2.out.trans hg4⟩
    · have hx1 : 2147483648 ≤ x := by
        rw [decide_eq_true (by omega), Bool.true_and] at hno
        have := of_decide_eq_false hno
        omega
      have d3 : decide (x < 0) = false := decide_eq_false hx0
      have d4 : decide (2147483648 ≤ x) = true := decide_eq_true hx1
      clear hno
      go_enter Tryd.func7, Tryd.ntmps7
      go_upto_region 1 with (fail)
      rw [← hWa]
      clear hWa
      go_wp2_with (first
        | (go_at_call 21; refine (lay_walk (HG.out.tab HT.out.lt HT.out) 1500 (by decide) (by decide) _ _ l HB.out hl).mono ?_; rintro e w1 ⟨m, p1, b1, p2, b2, A', c', rfl, hg1, hE1, -, -, -⟩; have HG1 := hid (HG.out.trans hg1); have u0 := (hg1.cell (lt_cell c0) 0).trans c0; have HE1 := hid hE1; clear hg1 hE1)
        | (go_at_call 22; refine (fwd_new HE1.out (HG1.out.tab HT.out.lt HT.out) n x hn).mono ?_; rintro e w2 ⟨hg2, ⟨-, rfl⟩ | ⟨hb, -⟩⟩; rotate_left; (rw [HN.out] at hb; cases hb); have HG2 := hid (HG1.out.trans hg2); have v0 := (hg2.cell (lt_cell u0) 0).trans u0; clear hg2)
        | (go_at_call 26; refine (ref_may12 n _).mono ?_; rintro e w3 ⟨rfl, rfl⟩; rw [HK.out])
        | (go_at_call 20; refine (lives22 (HG2.out.tab HT.out.lt HT.out)).mono ?_; rintro e w4 ⟨rfl, hg4⟩))
      go_ret
      exact ⟨rfl, HG2.out.trans hg4⟩
theorem toV_bd {n : Nat} {L : List Ob} (h : Good n L) (hn : n ≤ 1048576) {base : Nat} (hb : base < 2147483648) (a : Int) : toV L base a ≤ 9223372036854775807 := by
  have := overs_to h hn a
  unfold toV; split <;> omega
set_option maxRecDepth 100000 in
set_option maxHeartbeats 3200000 in
theorem tells22_in {W : World} (hT : TabAt W) (A : Option Addr) (cap : Nat) (l : List Nat) (hB : BytesAt W A l) (hl : l.length ≤ 100) (B : Nat) (base : Nat) (hok : (blockOk B && baseOk base) = true) (hBl : B ≤ 9223372036854775807) (y z : Int) (hz : z ≤ 9223372036854775807) :
    Gets Tryd.prog 7 #[.slice A l.length cap, .int .i64 B, .agg #[.int .i64 base, .int .i64 y, .int .i64 z]] W (.bool true) := by
  have HT := hid hT
  have HN := hid hok
  obtain ⟨hbk, hbo⟩ := Bool.and_eq_true_iff.1 hok
  have hbs : base < 2147483648 := by unfold baseOk at hbo; simp at hbo; omega
  have HK := hid hbk
  obtain ⟨hg, c0, c1, c2⟩ := q_box (w := W) base y z 47
  have HB := hid (hB.gr hg)
  have HG := hid hg
  clear hT hB hok hg hbk hbo
  have d1 : decide ((100 : Int) < (l.length : Int)) = false := by simp; omega
  have d3 : decide ((base : Int) < 0) = false := decide_eq_false (by omega)
  have d4 : decide (2147483648 ≤ (base : Int)) = false := decide_eq_false (by omega)
  obtain ⟨L, hL⟩ : ∃ L, L = layL2 1500 l := ⟨_, rfl⟩
  have HL := hid hL.symm
  clear hL
  obtain ⟨tv, htv⟩ : ∃ v, v = toV L base y := ⟨_, rfl⟩
  obtain ⟨te, hte⟩ : ∃ v, v = toE L y := ⟨_, rfl⟩
  have EA := hid (And.intro htv.symm hte.symm)
  clear htv hte
  unfold Gets
  go_enter Tryd.func7, Tryd.ntmps7
  go_upto_region 1 with (fail)
  obtain ⟨Wa, hWa⟩ : ∃ Wa, Wa = W.alloc (.cells #[.int .i64 base, .int .i64 y, .int .i64 z] 47) := ⟨_, rfl⟩
  rw [← hWa] at HG HB c0 c1 c2 ⊢
  clear hWa
  go_wp2_with (first
    | (go_at_call 21; refine (lay_walk (HG.out.tab HT.out.lt HT.out) 1500 (by decide) (by decide) _ _ l HB.out hl).mono ?_; rw [HL.out]; rintro e w1 ⟨m, p1, b1, p2, b2, A', c', rfl, hg1, hE1, hO1, hx1, hx2⟩; have HG1 := hid (HG.out.trans hg1); have HW1 := hid hg1; have HE1 := hid hE1; have HO1 := hid hO1; have HX1 := hid (And.intro hx1 hx2); have HGD := hid hE1.good; have s0 := (hg1.cell (lt_cell c0) 0).trans c0; clear hg1 hE1 hO1 hx1 hx2)
    | (go_at_call 22; refine (fwd_new HE1.out (HG1.out.tab HT.out.lt HT.out) B base (by omega)).mono ?_; rintro e w2 ⟨hg2, ⟨hb, -⟩ | ⟨-, f, B', base', hB', hbs', rfl, hO⟩⟩; (rw [HN.out] at hb; cases hb); (obtain rfl : B = B' := (by omega)); (obtain rfl : base = base' := (by omega)); have HO2 := hid hO; have HG2 := hid (HG1.out.trans hg2); have HW2 := hid (HW1.out.trans hg2); have HE2 := hid (HE1.out.gr hg2); have HL2 := hid (HO1.out.gr hg2); have r0 := (hg2.cell (lt_cell s0) 0).trans s0; clear hO hg2 hB' hbs')
    | (go_at_call 26; refine (ref_may12 B _).mono ?_; rintro e w3 ⟨rfl, rfl⟩; rw [HK.out])
    | (go_at_call 27; refine (ext_wipe HE2.out).mono ?_; rintro e w3 ⟨rfl, ht3, -⟩; have HML := hid (show ∀ i, mine m b1 b2 i → Wa.heap.size ≤ i ∧ i < w1.heap.size from fun i h => by { have a1 := HE1.out.hm; have a2 := HE1.out.v1.hb; have a3 := HE1.out.v2.hb; have a4 := HX1.out.1; rcases h with rfl | rfl | rfl <;> omega }); have HG3 := hid ((HG2.out.touch (fun _ => False)).trans' ht3 (fun i hi h => by { have := HML.out i h; have := HG.out.size; omega })).gr; have HW3 := hid ((HW2.out.touch (fun _ => False)).trans' ht3 (fun i hi h => by { have := HML.out i h; omega })).gr; have HO3 := hid (HO2.out.touch ht3 (fun k h1 _ h => by { have := HML.out k h; omega })); have HL3 := hid (HL2.out.touch ht3 (fun a ha => (HX1.out.2 a ha).2)); have u0 := (HW3.out.cell (lt_cell c0) 0).trans c0; have u1 := (HW3.out.cell (lt_cell c1) 1).trans c1; have u2 := (HW3.out.cell (lt_cell c2) 2).trans c2; clear ht3)
    | (go_at_call 23; refine (fwd_to HO3.out y).mono ?_; rintro e w5 ⟨rfl, hg5⟩; rw [EA.out.1, EA.out.2]; have HG5 := hid (HG3.out.trans hg5); have HW5 := hid (HW3.out.trans hg5); have HO5 := hid (HO3.out.gr hg5); have HL5 := hid (HL3.out.gr hg5); have v0 := (hg5.cell (lt_cell u0) 0).trans u0; have v1 := (hg5.cell (lt_cell u1) 1).trans u1; have v2 := (hg5.cell (lt_cell u2) 2).trans u2; clear hg5)
    | (go_at_call 37; refine (ref22_to HL5.out HGD.out (by decide) base hbs y).mono ?_; rintro e w6 ⟨rfl, hg6⟩; rw [EA.out.1, EA.out.2]; have HG6 := hid (HG5.out.trans hg6); have HW6 := hid (HW5.out.trans hg6); have HO6 := hid (HO5.out.gr hg6); have HL6 := hid (HL5.out.gr hg6); have y0 := (hg6.cell (lt_cell v0) 0).trans v0; have y2 := (hg6.cell (lt_cell v2) 2).trans v2; clear hg6))
  have htvb : tv ≤ 9223372036854775807 := by rw [← EA.out.1]; exact toV_bd HGD.out (by decide) hbs y
  have hs := sizes_le HGD.out
  obtain ⟨on, hon⟩ : ∃ v, v = sizes L := ⟨_, rfl⟩
  have EO := hid hon.symm
  rw [← hon] at hs
  clear hon
  go_loopw [91] (fun i wr => ∃ k : Nat, k ≤ 2 ∧ Hid (Gr w6 wr) ∧ i = .int .i64 k) (fun i _ => 2 - (intOf i).toNat)
  case atStart => exact ⟨0, by omega, ⟨Gr.refl _⟩, rfl⟩
  case round =>
    rename World => wr
    obtain ⟨k, hk, hgr, rfl⟩ := hrel
    have HGr := hid (HG6.out.trans hgr.out)
    have HOr := hid (HO6.out.gr hgr.out)
    have HLr := hid (HL6.out.gr hgr.out)
    have k0 := (hgr.out.cell (lt_cell y0) 0).trans y0
    have k2 := (hgr.out.cell (lt_cell y2) 2).trans y2
    by_cases hk2 : k < 2
    · obtain ⟨v, hidx, hvb⟩ : ∃ v : Int, (∀ w, (Instr.index 59 (.agg #[.int .i64 z, .int .i64 tv]) (.int .i64 (k : Int))).run Tryd.prog w = .ok (.int .i64 v) w) ∧ v ≤ 9223372036854775807 := by
        rcases (show k = 0 ∨ k = 1 by omega) with rfl | rfl
        · exact ⟨z, fun w => by kernel_rfl, hz⟩
        · exact ⟨tv, fun w => by kernel_rfl, htvb⟩
      cases hin : inF L base v with
      | false =>
        have E := hid (from_no hin)
        have E2 : Hid (objS L base v = 0 ∧ objZ L base v = 0) := ⟨by unfold objS objZ; rw [hin]; exact ⟨rfl, rfl⟩⟩
        clear hin
        go_wp2_with (first
          | (go_at_call 24; refine (fwd_from HOr.out (HGr.out.tab HT.out.lt HT.out) v hvb).mono ?_; rintro e w7 ⟨rfl, hg7⟩; rw [E.out.1, E.out.2.2]; have HG7 := hid (hgr.out.trans hg7); have HO7 := hid (HOr.out.gr hg7); have HL7 := hid (HLr.out.gr hg7); have l0 := (hg7.cell (lt_cell k0) 0).trans k0; clear hg7)
          | (go_at_call 38; refine (ref22_from HL7.out HGD.out (by decide) base hbs v).mono ?_; rintro e w8 ⟨rfl, rfl⟩; rw [E.out.1, E.out.2.1, E.out.2.2])
          | (go_at_call 34; refine (fwd_object HO7.out ((HG6.out.trans HG7.out).tab HT.out.lt HT.out) v hvb).mono ?_; rintro e w9 ⟨rfl, hg9⟩; rw [E.out.2.2, E2.out.1, E2.out.2]; have HG9 := hid (HG7.out.trans hg9); clear hg9))
        go_roundw
        case rel => exact ⟨k + 1, by omega, HG9, by go_num⟩
        case measure => simp [intOf]; omega
      | true =>
        obtain ⟨j, hj, e1, e2, e3, e4, e5⟩ := from_in HGD.out hin
        have E1 := hid e1
        have E5 := hid e5
        have E2 : Hid (objS L base v = (L[j].1 : Nat) ∧ objZ L base v = (L[j].2 : Nat)) := ⟨by
          unfold fromI at e1; rw [hin, if_pos rfl] at e1
          unfold objS objZ; rw [hin, if_pos rfl, if_pos rfl, Int.ofNat.inj e1]
          exact obS_in hj⟩
        obtain ⟨fv, hfv⟩ : ∃ fv, fv = fromV L base v := ⟨_, rfl⟩
        have EF := hid hfv.symm
        have hsz := HGD.out.sz _ (List.getElem_mem hj)
        obtain ⟨g, hA', hgl, q0, q1⟩ := HLr.out j hj
        subst hA'
        have hjl : (j : Int) < (L.length : Int) := by omega
        have hj0 : (0 : Int) ≤ (j : Int) := by omega
        generalize L[j].1 = sj at *
        generalize L[j].2 = zj at *
        clear e1 e2 e3 e4 e5 hfv hin
        go_wp2_with (first
          | (go_at_call 24; refine (fwd_from HOr.out (HGr.out.tab HT.out.lt HT.out) v hvb).mono ?_; rintro e w7 ⟨rfl, hg7⟩; rw [EF.out, E5.out]; have HG7 := hid (hgr.out.trans hg7); have HO7 := hid (HOr.out.gr hg7); have HL7 := hid (HLr.out.gr hg7); have l0 := (hg7.cell (lt_cell k0) 0).trans k0; have x0 := (hg7.cell hgl _).trans q0; have x1 := (hg7.cell hgl _).trans q1; clear hg7)
          | (go_at_call 38; refine (ref22_from HL7.out HGD.out (by decide) base hbs v).mono ?_; rintro e w8 ⟨rfl, rfl⟩; rw [EF.out, E1.out, E5.out])
          | (go_at_call 34; refine (fwd_object HO7.out ((HG6.out.trans HG7.out).tab HT.out.lt HT.out) v hvb).mono ?_; rintro e w9 ⟨rfl, hg9⟩; rw [E5.out, E2.out.1, E2.out.2]; have HG9 := hid (HG7.out.trans hg9); have z0 := (hg9.cell (lt_cell x0) _).trans x0; have z1 := (hg9.cell (lt_cell x1) _).trans x1; clear hg9))
        go_roundw
        case rel => exact ⟨k + 1, by omega, HG9, by go_num⟩
        case measure => simp [intOf]; omega
    · obtain rfl : k = 2 := by omega
      have z0 : ∀ xs m, (grow wr xs m).cell? ⟨W.heap.size, 0, none⟩ = some (.int .i64 base) := fun xs m => (((grown wr xs m)).cell (lt_cell k0) 0).trans k0
      have hwr : IntKind.i64.wrap ((base : Int) + (on : Int)) = (base : Int) + (on : Int) := IntWalk.i64_in _ (by omega)
      clear k0 k2 y0 y2 hk2 hk
      go_wp2
      refine wp_region_by (by kernel_rfl) (by kernel_rfl) ?_
      repeat (go_big_quiet_step (first
        | (go_at_call 35; have hc := fun xs m => fwd_base (HOr.out.gr (grown wr xs m)); exact Gets.grown_same (hc _ _))
        | (go_at_call 36; have hc := fun xs m => fwd_words (HOr.out.gr (grown wr xs m)); simp only [EO.out] at hc; exact Gets.grown_same (hc _ _))
        | (go_at_call 25; have hc := fun xs m => fwd_top (HOr.out.gr (grown wr xs m)); simp only [EO.out] at hc; exact Gets.grown (hc _ _))
        | (go_at_call 33; have hc := fun xs m => ref13_sizes (c := c') (HLr.out.gr (grown wr xs m)) HGD.out (by decide); simp only [EO.out] at hc; exact Gets.grown_same (hc _ _))
        | (go_at_call 20; have hc := fun xs m => lives22 ((HGr.out.trans (grown wr xs m)).tab HT.out.lt HT.out); exact Gets.grown (hc _ _))))
      refine wpQuiet_nil ?_
      intro _ hw'
      obtain ⟨⟨xs, nq⟩, hw''⟩ := hw'
      subst hw''
      go_wp2
      go_ret
      exact ⟨rfl, HGr.out.trans (grown wr _ _)⟩
theorem tells22_walk {W : World} (hT : TabAt W) (A : Option Addr) (cap : Nat) (l : List Nat) (hB : BytesAt W A l) (n : Int) (hn : n ≤ 9223372036854775807) (x y z : Int) (hb : x ≤ 9223372036854775807 ∧ y ≤ 9223372036854775807 ∧ z ≤ 9223372036854775807) :
    Gets Tryd.prog 7 #[.slice A l.length cap, .int .i64 n, .agg #[.int .i64 x, .int .i64 y, .int .i64 z]] W (.bool true) := by
  by_cases h : 100 < l.length
  · exact tells22_far hT A l.length cap h n x y z
  · cases hok : (blockOk n && baseOk x) with
    | false => exact tells22_no hT A cap l hB (by omega) n hn x y z hok
    | true =>
      obtain ⟨hbk, hbo⟩ := Bool.and_eq_true_iff.1 hok
      have hbp := blockOk_pos hbk
      have hbs : 0 ≤ x := by unfold baseOk at hbo; simp at hbo; omega
      obtain ⟨B, rfl⟩ : ∃ B : Nat, n = B := ⟨n.toNat, by omega⟩
      obtain ⟨base, rfl⟩ : ∃ b : Nat, x = b := ⟨x.toNat, by omega⟩
      exact tells22_in hT A cap l hB (by omega) B base hok (by omega) y z hb.2.2
end Go.Proofs.YtlkifhoedfjlaaaDoor
