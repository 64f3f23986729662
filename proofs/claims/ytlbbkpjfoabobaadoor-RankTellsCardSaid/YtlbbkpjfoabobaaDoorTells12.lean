/- RankTells: the walk. -/
import Derived.Test.YtlbbkpjfoabobaaDoorLive12
namespace Go.Proofs.YtlbbkpjfoabobaaDoor
open Go.RowKit Word

/-- A row of bools among the arguments. -/
def RowAt (w : World) (A : Option Addr) (l : List Bool) : Prop :=
  ∀ i (_ : i < l.length), ∃ b o : Nat, A = some ⟨b, o, none⟩ ∧ b < w.heap.size ∧ w.cell? ⟨b, o + i, none⟩ = some (.bool (at_ l i))
theorem RowAt.row {w : World} {A : Option Addr} {l : List Bool} (h : RowAt w A l) (h1 : 1 ≤ l.length) (h2 : l.length ≤ 1048576) : ∃ g o, A = some ⟨g, o, none⟩ ∧ BoolsO w g o l := by
  obtain ⟨g, o, rfl, hg, _⟩ := h 0 (by omega)
  refine ⟨g, o, rfl, hg, h2, fun i hi => ?_⟩
  obtain ⟨g', o', e, _, hc⟩ := h i hi
  simp only [Option.some.injEq, Addr.mk.injEq, and_true] at e
  obtain ⟨rfl, rfl⟩ := e
  exact hc
theorem q_box {w : World} (x y z : Int) (T : TypeId) : Gr w (w.alloc (.cells #[.int .i64 x, .int .i64 y, .int .i64 z] T)) ∧ (w.alloc (.cells #[.int .i64 x, .int .i64 y, .int .i64 z] T)).cell? ⟨w.heap.size, 0, none⟩ = some (.int .i64 x) ∧
    (w.alloc (.cells #[.int .i64 x, .int .i64 y, .int .i64 z] T)).cell? ⟨w.heap.size, 1, none⟩ = some (.int .i64 y) ∧ (w.alloc (.cells #[.int .i64 x, .int .i64 y, .int .i64 z] T)).cell? ⟨w.heap.size, 2, none⟩ = some (.int .i64 z) :=
  ⟨(Gr.refl w).alloc _, World.cell?_alloc_new .., World.cell?_alloc_new .., World.cell?_alloc_new ..⟩
set_option maxRecDepth 100000 in
set_option maxHeartbeats 1600000 in
theorem tells12_far {W : World} (hT : TabAt W) (A : Option Addr) (len cap : Nat) (h : len = 0 ∨ 2000 < len) (n x y z : Int) :
    Gets Tryd.prog 9 #[.slice A len cap, .int .i64 n, .agg #[.int .i64 x, .int .i64 y, .int .i64 z]] W (.bool true) := by
  have HT := hid hT
  clear hT
  obtain ⟨hg, -, -, -⟩ := q_box (w := W) x y z 24
  have HG := hid hg
  clear hg
  unfold Gets
  rcases h with rfl | h
  · go_enter Tryd.func9, Tryd.ntmps9
    go_wp2_with (go_at_call 33; refine (lives12 (HG.out.tab HT.out.lt HT.out)).mono ?_; rintro e w4 ⟨rfl, hg4⟩)
    go_ret
    exact ⟨rfl, HG.out.trans hg4⟩
  · have d0 : ((len : Int) == 0) = false := beq_eq_false_iff_ne.2 (by omega)
    have d1 : decide ((2000 : Int) < (len : Int)) = true := by simp; omega
    clear h
    go_enter Tryd.func9, Tryd.ntmps9
    go_wp2_with (go_at_call 33; refine (lives12 (HG.out.tab HT.out.lt HT.out)).mono ?_; rintro e w4 ⟨rfl, hg4⟩)
    go_ret
    exact ⟨rfl, HG.out.trans hg4⟩
set_option maxRecDepth 100000 in
set_option maxHeartbeats 1600000 in
theorem tells12_no {W : World} (hT : TabAt W) {g o : Nat} (cap : Nat) {l : List Bool} (hB : BoolsO W g o l) (h1 : 1 ≤ l.length) (h2 : l.length ≤ 2000) (n : Int) (hn : n ≤ 9223372036854775807) (hno : blockOk n = false) (x y z : Int) :
    Gets Tryd.prog 9 #[.slice (some ⟨g, o, none⟩) l.length cap, .int .i64 n, .agg #[.int .i64 x, .int .i64 y, .int .i64 z]] W (.bool true) := by
  have HT := hid hT
  have HB := hid hB
  have HN := hid hno
  clear hT hB hno
  obtain ⟨hg, -, -, -⟩ := q_box (w := W) x y z 24
  have HG := hid hg
  clear hg
  have d0 : ((l.length : Int) == 0) = false := beq_eq_false_iff_ne.2 (by omega)
  have d1 : decide ((2000 : Int) < (l.length : Int)) = false := by simp; omega
  unfold Gets
  go_enter Tryd.func9, Tryd.ntmps9
  go_wp2_with (first
    | (go_at_call 35; refine (bits12 (HB.out.gr HG.out) h1).mono ?_; rintro e w1 ⟨p, b, rfl, hg1, hV1, -, -⟩; have HG1 := hid (HG.out.trans hg1); have HV1 := hid hV1; clear hg1 hV1)
    | (go_at_call 34; refine (rank_new_bad HV1.out n HN.out hn).mono ?_; rintro e w2 ⟨rfl, rfl⟩)
    | (go_at_call 47; refine (ref_may12 n _).mono ?_; rintro e w2 ⟨rfl, rfl⟩; rw [HN.out])
    | (go_at_call 33; refine (lives12 (HG1.out.tab HT.out.lt HT.out)).mono ?_; rintro e w4 ⟨rfl, hg4⟩))
  go_ret
  exact ⟨rfl, HG1.out.trans hg4⟩
set_option maxRecDepth 100000 in
set_option maxHeartbeats 800000 in
theorem tells12_in {W : World} (hT : TabAt W) {g o : Nat} (cap : Nat) {l : List Bool} (hB : BoolsO W g o l) (h1 : 1 ≤ l.length) (h2 : l.length ≤ 2000) (B : Nat) (hok : blockOk B = true) (x y z : Int) :
    Gets Tryd.prog 9 #[.slice (some ⟨g, o, none⟩) l.length cap, .int .i64 B, .agg #[.int .i64 x, .int .i64 y, .int .i64 z]] W (.bool true) := by
  have hb := blockOk_pos hok
  have HT := hid hT
  have HB := hid hB
  have HN := hid hok
  have HBB := hid (And.intro (show 1 ≤ B by omega) (show B ≤ 1024 by omega))
  have hgl := hB.lt
  clear hT hB hok hb
  obtain ⟨hg, c0, c1, c2⟩ := q_box (w := W) x y z 24
  have HG := hid hg
  clear hg
  have d0 : ((l.length : Int) == 0) = false := beq_eq_false_iff_ne.2 (by omega)
  have d1 : decide ((2000 : Int) < (l.length : Int)) = false := by simp; omega
  obtain ⟨av, hav⟩ : ∃ v, v = aheadV l B y := ⟨_, rfl⟩
  obtain ⟨ae, hae⟩ : ∃ v, v = aheadE l.length B y := ⟨_, rfl⟩
  obtain ⟨pv, hpv⟩ : ∃ v, v = pickV l z := ⟨_, rfl⟩
  obtain ⟨pb, hpb⟩ : ∃ v, v = pickB l z := ⟨_, rfl⟩
  obtain ⟨nb, hnb⟩ : ∃ v, v = nbl l.length B := ⟨_, rfl⟩
  obtain ⟨on, hon⟩ : ∃ v, v = cnt (at_ l) l.length := ⟨_, rfl⟩
  obtain ⟨cx, hcx⟩ : ∃ v, v = countL l 0 x := ⟨_, rfl⟩
  have EA := hid (And.intro hav.symm hae.symm)
  have EP := hid (And.intro hpv.symm hpb.symm)
  have EN := hid hnb.symm
  have EO := hid hon.symm
  have EX := hid hcx.symm
  have EL : Hid (countL l 0 (l.length : Int) = on) := ⟨by rw [countL_all l (by omega), hon]⟩
  clear hav hae hpv hpb hnb hon hcx
  unfold Gets
  go_enter Tryd.func9, Tryd.ntmps9
  go_upto_region 1 with (fail)
  obtain ⟨Wa, hWa⟩ : ∃ Wa, Wa = W.alloc (.cells #[.int .i64 x, .int .i64 y, .int .i64 z] 24) := ⟨_, rfl⟩
  rw [← hWa] at HG c0 c1 c2 ⊢
  clear hWa
  go_upto_region 17 with (first
    | (go_at_call 35; refine (bits12 (HB.out.gr HG.out) h1).mono ?_; rintro e w1 ⟨p, b, rfl, hg1, hV1, -, hb1⟩; have HG1 := hid (HG.out.trans hg1); have HW1 := hid hg1; have HV1 := hid hV1; have HB1 := hid hb1; clear hg1 hV1 hb1)
    | (go_at_call 34; refine (rank_new_in HV1.out B HN.out).mono ?_; rintro e w2 ⟨xx, p2, b2, a2, rfl, hg2, hI2, i1, i2, i3, i4⟩; have HG2 := hid (HG1.out.trans hg2); have HW2 := hid (HW1.out.trans hg2); have HV2 := hid (HV1.out.gr hg2); have HI2 := hid hI2; have HP2 := hid (And.intro i1 (And.intro i2 (And.intro i3 i4))); clear hg2 hI2 i1 i2 i3 i4)
    | (go_at_call 47; refine (ref_may12 B _).mono ?_; rintro e w2 ⟨rfl, rfl⟩; rw [HN.out])
    | (go_at_call 17; refine (fill_vec HV2.out 0 _ (by decide)).mono ?_; rintro e w3 ⟨rfl, ht3, -⟩; have HBV := hid HV1.out.hb; have HG3 := hid ((HG2.out.touch (fun _ => False)).trans' ht3 (fun i hi (h : i = b) => by have := HB1.out; have := HG.out.size; omega)).gr; have HW3 := hid ((HW2.out.touch (fun _ => False)).trans' ht3 (fun i hi (h : i = b) => by have := HB1.out; omega)).gr; have HI3 := hid (HI2.out.touch ht3 (by have := HP2.out; have := HBV.out; omega) (by have := HP2.out; have := HBV.out; omega) (by have := HP2.out; have := HBV.out; omega) (by have := HP2.out; have := HBV.out; omega)); have u1 := (HW3.out.cell (lt_cell c1) 1).trans c1; have u2 := (HW3.out.cell (lt_cell c2) 2).trans c2; clear ht3)
    | (go_at_call 48; refine (rank_ahead HI3.out y).mono ?_; rintro e w5 ⟨rfl, rfl⟩; rw [EA.out.1, EA.out.2])
    | (go_at_call 49; refine (ref_aheadO (HB.out.gr HG3.out) B HBB.out.1 HBB.out.2 y).mono ?_; rintro e w5 ⟨rfl, rfl⟩; rw [EA.out.1, EA.out.2])
    | (go_at_call 37; refine (rank_pick HI3.out (HG3.out.tab HT.out.lt HT.out) z).mono ?_; rintro e w6 ⟨rfl, hg6⟩; rw [EP.out.1, EP.out.2]; have HG6 := hid (HG3.out.trans hg6); have HW6 := hid (HW3.out.trans hg6); have HI6 := hid (HI3.out.gr hg6); have v2 := (hg6.cell (lt_cell u2) 2).trans u2; clear hg6)
    | (go_at_call 29; refine (ref_pickO (HB.out.gr HG6.out) z).mono ?_; rintro e w7 ⟨rfl, rfl⟩; rw [EP.out.1, EP.out.2]))
  have hEL : countL l 0 (l.length : Int) = on := EL.out
  have z0 : ∀ xs m, (grow w6 xs m).cell? ⟨W.heap.size, 0, none⟩ = some (.int .i64 x) := fun xs m => ((HW6.out.trans (grown w6 xs m)).cell (lt_cell c0) 0).trans c0
  refine wp_region_by (by kernel_rfl) (by kernel_rfl) ?_
  repeat (go_big_quiet_step (first
    | (go_at_call 38; have hc := fun xs m => rank_before (HI6.out.gr (grown w6 xs m)) x; exact Gets.grown (hc _ _))
    | (go_at_call 30; have hc := fun xs m b => ref_countO (c := cap) (HB.out.gr (HG6.out.trans (grown w6 xs m))) 0 b; exact Gets.grown_same (hc _ _ _))
    | (go_at_call 50; have hc := fun xs m => rank_blocks (HI6.out.gr (grown w6 xs m)); simp only [EN.out] at hc; exact Gets.grown_same (hc _ _))
    | (go_at_call 51; have hc := fun xs m => ref_blocks (g := some ⟨g, o, none⟩) (c := cap) (Nat.le_trans h2 (by decide)) B HBB.out.1 HBB.out.2 (grow w6 xs m); simp only [EN.out] at hc; exact Gets.grown_same (hc _ _))
    | (go_at_call 36; have hc := fun xs m => rank_ones (HI6.out.gr (grown w6 xs m)); simp only [EO.out] at hc; exact Gets.grown_same (hc _ _))
    | (go_at_call 33; have hc := fun xs m => lives12 ((HG6.out.trans (grown w6 xs m)).tab HT.out.lt HT.out); exact Gets.grown (hc _ _))))
  refine wpQuiet_nil ?_
  intro _ hw'
  obtain ⟨⟨xs, nq⟩, hw''⟩ := hw'
  subst hw''
  go_wp2
  go_ret
  exact ⟨rfl, HG6.out.trans (grown w6 _ _)⟩
theorem tells12_walk {W : World} (hT : TabAt W) (A : Option Addr) (cap : Nat) (l : List Bool) (hA : RowAt W A l) (n : Int) (hn : n ≤ 9223372036854775807) (x y z : Int) :
    Gets Tryd.prog 9 #[.slice A l.length cap, .int .i64 n, .agg #[.int .i64 x, .int .i64 y, .int .i64 z]] W (.bool true) := by
  by_cases h : l.length = 0 ∨ 2000 < l.length
  · exact tells12_far hT A l.length cap h n x y z
  · obtain ⟨g, o, rfl, hB⟩ := hA.row (by omega) (by omega)
    cases hok : blockOk n with
    | false => exact tells12_no hT cap hB (by omega) (by omega) n hn hok x y z
    | true =>
      have hb := blockOk_pos hok
      obtain ⟨B, rfl⟩ : ∃ B : Nat, n = B := ⟨n.toNat, by omega⟩
      exact tells12_in hT cap hB (by omega) (by omega) B hok x y z
end Go.Proofs.YtlbbkpjfoabobaaDoor
