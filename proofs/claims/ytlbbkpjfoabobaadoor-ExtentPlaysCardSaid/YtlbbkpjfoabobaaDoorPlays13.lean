/- ExtentPlays: the walk. -/
import Derived.Test.YtlbbkpjfoabobaaDoorTold13
import Derived.Test.YtlbbkpjfoabobaaDoorQuiet
import Derived.Test.YtlbbkpjfoabobaaDoorRef11
import Derived.Deep.CutBlock
import Derived.Deep.DeepCutAuto
namespace Go.Proofs.YtlbbkpjfoabobaaDoor
open Go.RowKit Word

set_option maxRecDepth 100000 in
set_option maxHeartbeats 800000 in
theorem plays13_out {W : World} (hT : TabAt W) (n : Int) (hn : n < 1 ∨ 1048576 < n) (s : Value) :
    Gets Tryd.prog 12 #[.int .i64 n, s] W (.bool true) := by
  have HT := hid hT
  have HN := hid hn
  have HM : Hid ((decide (1 ≤ n) && decide (n ≤ 1048576)) = false) := ⟨by simp; omega⟩
  clear hT hn
  unfold Gets
  go_enter Tryd.func12, Tryd.ntmps12
  go_wp2_with (first
    | (go_at_call 41; refine (ext_new_bad n HN.out _).mono ?_; rintro e w1 ⟨rfl, rfl⟩)
    | (go_at_call 25; refine (ref_may n _).mono ?_; rintro e w1 ⟨rfl, rfl⟩; rw [HM.out])
    | (go_at_call 40; refine (lives13 HT.out).mono ?_; rintro e w1 ⟨rfl, hg⟩))
  go_ret
  exact ⟨rfl, hg⟩
set_option maxRecDepth 100000 in
set_option maxHeartbeats 800000 in
theorem plays13_far {W : World} (hT : TabAt W) (n : Nat) (h1 : 1 ≤ n) (h2 : n ≤ 1048576) (A : Option Addr) (len cap : Nat) (h : 600 < n ∨ 80 < len) :
    Gets Tryd.prog 12 #[.int .i64 n, .slice A len cap] W (.bool true) := by
  have HT := hid hT
  have HN := hid (And.intro h1 h2)
  have HM : Hid ((decide (1 ≤ (n : Int)) && decide ((n : Int) ≤ 1048576)) = true) := ⟨by simp; omega⟩
  clear hT h1 h2
  unfold Gets
  rcases Nat.lt_or_ge 600 n with h3 | h3
  · have d1 : decide ((600 : Int) < (n : Int)) = true := by simp; omega
    clear h h3
    go_enter Tryd.func12, Tryd.ntmps12
    go_wp2_with (first
      | (go_at_call 41; refine (ext_new n HN.out.1 HN.out.2 _).mono ?_; rintro e w1 ⟨m, p1, b1, p2, b2, rfl, hg1, -, -, -, -, -, -⟩; have HG1 := hid hg1; clear hg1)
      | (go_at_call 25; refine (ref_may n _).mono ?_; rintro e w1 ⟨rfl, rfl⟩; rw [HM.out])
      | (go_at_call 40; refine (lives13 (HG1.out.tab HT.out.lt HT.out)).mono ?_; rintro e w2 ⟨rfl, hg⟩))
    go_ret
    exact ⟨rfl, HG1.out.trans hg⟩
  · have d1 : decide ((600 : Int) < (n : Int)) = false := by simp; omega
    have d2 : decide ((80 : Int) < (len : Int)) = true := by simp; omega
    clear h h3
    go_enter Tryd.func12, Tryd.ntmps12
    go_wp2_with (first
      | (go_at_call 41; refine (ext_new n HN.out.1 HN.out.2 _).mono ?_; rintro e w1 ⟨m, p1, b1, p2, b2, rfl, hg1, -, -, -, -, -, -⟩; have HG1 := hid hg1; clear hg1)
      | (go_at_call 25; refine (ref_may n _).mono ?_; rintro e w1 ⟨rfl, rfl⟩; rw [HM.out])
      | (go_at_call 40; refine (lives13 (HG1.out.tab HT.out.lt HT.out)).mono ?_; rintro e w2 ⟨rfl, hg⟩))
    go_ret
    exact ⟨rfl, HG1.out.trans hg⟩

/-- Between two rounds. -/
structure PlayAt (w1 : World) (m p1 b1 p2 b2 n : Nat) (L : List Ob) (A : Option Addr) (wr : World) : Prop where
  ext : Ext wr m p1 b1 p2 b2 n L
  obs : ObjsAt wr A L
  ap : ∀ a, A = some a → ¬ mine m b1 b2 a.block
  t : Touch (mine m b1 b2) w1 wr
theorem PlayAt.gr {w1 : World} {m p1 b1 p2 b2 n : Nat} {L : List Ob} {A : Option Addr} {wr w' : World} (h : PlayAt w1 m p1 b1 p2 b2 n L A wr) (g : Gr wr w') : PlayAt w1 m p1 b1 p2 b2 n L A w' :=
  ⟨h.ext.gr g, h.obs.gr g, h.ap, h.t.trans (g.touch _)⟩
theorem Ext.mine_lt {w : World} {m p1 b1 p2 b2 n : Nat} {L : List Ob} (h : Ext w m p1 b1 p2 b2 n L) {k : Nat} (hk : mine m b1 b2 k) : k < w.heap.size := by
  rcases hk with rfl | rfl | rfl
  · exact h.hm
  · exact h.v1.hb
  · exact h.v2.hb
/-- The list is made anew, then the map is changed. -/
theorem PlayAt.list_first {w1 : World} {m p1 b1 p2 b2 n : Nat} {L L' : List Ob} {A : Option Addr} {wr wb wc : World} {v : Value} (h : PlayAt w1 m p1 b1 p2 b2 n L A wr) (hb : BackO wr A L' v wb) (ht : Touch (mine m b1 b2) wb wc) (he : Ext wc m p1 b1 p2 b2 n L') :
    ∃ A' c', v = .slice A' L'.length c' ∧ PlayAt w1 m p1 b1 p2 b2 n L' A' wc := by
  obtain ⟨hg, A', c', rfl, ho, ha⟩ := hb
  have hap : ∀ a, A' = some a → ¬ mine m b1 b2 a.block := fun a e hm => by
    rcases ha a e with h1 | h1
    · exact h.ap a h1 hm
    · have := h.ext.mine_lt hm; omega
  exact ⟨A', c', rfl, he, ho.touch ht hap, hap, (h.t.trans (hg.touch _)).trans ht⟩
/-- The map is changed, then the list is made anew. -/
theorem PlayAt.map_first {w1 : World} {m p1 b1 p2 b2 n : Nat} {L L' : List Ob} {A : Option Addr} {wr wb wc : World} {v : Value} (h : PlayAt w1 m p1 b1 p2 b2 n L A wr) (ht : Touch (mine m b1 b2) wr wb) (he : Ext wb m p1 b1 p2 b2 n L') (hb : BackO wb A L' v wc) :
    ∃ A' c', v = .slice A' L'.length c' ∧ PlayAt w1 m p1 b1 p2 b2 n L' A' wc := by
  obtain ⟨hg, A', c', rfl, ho, ha⟩ := hb
  have hap : ∀ a, A' = some a → ¬ mine m b1 b2 a.block := fun a e hm => by
    rcases ha a e with h1 | h1
    · exact h.ap a h1 hm
    · have := he.mine_lt hm; omega
  exact ⟨A', c', rfl, he.gr hg, ho, hap, (h.t.trans ht).trans (hg.touch _)⟩
set_option maxRecDepth 100000 in
set_option maxHeartbeats 16000000 in
theorem plays13_in {W : World} (hT : TabAt W) (n : Nat) (h1 : 1 ≤ n) (h2 : n ≤ 600) (A0 : Option Addr) (cap : Nat) (l : List ActD) (hA : ActsAt W A0 l) (h100 : l.length ≤ 80) :
    Gets Tryd.prog 12 #[.int .i64 n, .slice A0 l.length cap] W (.bool true) := by
  have HT := hid hT
  have HN := hid (And.intro h1 h2)
  have HA := hid hA
  have HM : Hid ((decide (1 ≤ (n : Int)) && decide ((n : Int) ≤ 1048576)) = true) := ⟨by simp; omega⟩
  have d1 : decide ((600 : Int) < (n : Int)) = false := by simp; omega
  have d2 : decide ((80 : Int) < (l.length : Int)) = false := by simp; omega
  have hn6 : n ≤ 1048576 := by omega
  clear hT hA
  unfold Gets
  go_enter Tryd.func12, Tryd.ntmps12
  go_wp2_with (first
    | (go_at_call 41; refine (ext_new n HN.out.1 (Nat.le_trans HN.out.2 (by decide)) _).mono ?_; rintro e w1 ⟨m, p1, b1, p2, b2, rfl, hg1, hE1, hx1, hx2, hx3, hx4, hx5⟩; have HG1 := hid hg1; have HE1 := hid hE1; have HX := hid (And.intro hx1 (And.intro hx3 hx5)); clear hg1 hE1 hx1 hx2 hx3 hx4 hx5)
    | (go_at_call 25; refine (ref_may n _).mono ?_; rintro e w2 ⟨rfl, rfl⟩; rw [HM.out]))
  go_loopw [8, 64] (fun s8 i wr => ∃ (k : Nat) (L : List Ob) (A : Option Addr) (c : Nat), k ≤ l.length ∧ Hid (PlayAt w1 m p1 b1 p2 b2 n L A wr) ∧ s8 = .slice A L.length c ∧ i = .int .i64 k) (fun _ i _ => l.length - (intOf i).toNat)
  case atStart => exact ⟨0, [], none, 0, by omega, ⟨⟨HE1.out, fun i h => absurd h (Nat.not_lt_zero _), (fun a e => by cases e), Touch.refl _ _⟩⟩, rfl, rfl⟩
  case round =>
    obtain ⟨k, L, A, c, hk, HP, rfl, rfl⟩ := hrel
    have HG := hid ((HG1.out.touch (fun _ => False)).trans' HP.out.t (fun i hi h => by have := HX.out; unfold mine at h; omega)).gr
    by_cases hlt : k < l.length
    · obtain ⟨hok, ab, ao, rfl, hab, c0, c1, c2⟩ := HA.out k hlt
      have q0 := (HG.out.cell hab _).trans c0
      have q1 := (HG.out.cell hab _).trans c1
      have q2 := (HG.out.cell hab _).trans c2
      have HOK := hid hok
      clear c0 c1 c2 hok
      generalize l[k] = act at *
      obtain ⟨ka, aa, bb⟩ := act
      simp only [] at q0 q1 q2
      obtain ⟨wa, hwa⟩ : ∃ wa, wa = wr.alloc (.cells #[.int .u8 ka, .int .i64 aa, .int .i64 bb] 64) := ⟨_, rfl⟩
      have hga : Gr wr wa := by rw [hwa]; exact (Gr.refl wr).alloc _
      have hsz : wa.heap.size = wr.heap.size + 1 := by rw [hwa]; simp
      have x0 : wa.cell? ⟨wr.heap.size, 0, none⟩ = some (.int .u8 ka) := by rw [hwa]; exact World.cell?_alloc_new ..
      have x1 : wa.cell? ⟨wr.heap.size, 1, none⟩ = some (.int .i64 aa) := by rw [hwa]; exact World.cell?_alloc_new ..
      have x2 : wa.cell? ⟨wr.heap.size, 2, none⟩ = some (.int .i64 bb) := by rw [hwa]; exact World.cell?_alloc_new ..
      have HW := hid hwa
      have HPA := hid (HP.out.gr hga)
      have HS : Hid (wr.heap.size < wa.heap.size ∧ ¬ mine m b1 b2 wr.heap.size) := ⟨by omega, fun h => by have := HP.out.ext.mine_lt h; omega⟩
      have HGA := hid (HG.out.trans hga)
      have HTA := hid ((HG.out.trans hga).tab HT.out.lt HT.out)
      clear hwa hga hsz
      go_upto_region 11 with (fail)
      rw [← HW.out]
      go_upto_block 2 with (fail)
      obtain ⟨r, hr2⟩ : ∃ r, r = (ka : Int) % 8 := ⟨_, rfl⟩
      rw [← hr2]
      have HR := hid hr2
      clear hr2
      go_cut [8] (fun s8 wx => ∃ (L' : List Ob) (A' : Option Addr) (c' : Nat), s8 = .slice A' L'.length c' ∧ Hid (PlayAt w1 m p1 b1 p2 b2 n L' A' wx) ∧ Hid (wr.heap.size < wx.heap.size) ∧ Hid (wx.cell? ⟨wr.heap.size, 1, none⟩ = some (.int .i64 aa) ∧ wx.cell? ⟨wr.heap.size, 2, none⟩ = some (.int .i64 bb)))
      case first =>
        have hr : (r = 5 ∨ r = 6) ∨ r = 7 ∨ (r ≠ 5 ∧ r ≠ 6 ∧ r ≠ 7) := by omega
        rcases hr with hr | hr7 | ⟨hr5, hr6, hr7⟩
        · obtain ⟨dv, hdv⟩ : ∃ d, d = dropV L aa := ⟨_, rfl⟩
          obtain ⟨db, hdb⟩ : ∃ d, d = decide (startO L aa < L.length) := ⟨_, rfl⟩
          have E1 := hid (And.intro hdv.symm hdb.symm)
          clear hdv hdb
          have hb : (r == 5) = true ∨ ((r == 5) = false ∧ (r == 6) = true) := by
            rcases hr with h | h
            · left; simp [h]
            · right; simp [h]
          clear hr
          rcases hb with b5 | ⟨b5, b6⟩
          all_goals
            go_wp2_with (first
              | (go_at_call 54; refine (ext_drop HPA.out.ext HTA.out aa).mono ?_; rintro e w3 ⟨rfl, ht3, hE3⟩; rw [E1.out.1, E1.out.2]; have y1 := (ht3.cell (b := wr.heap.size) (by have := HS.out; have := ht3.size; omega) HS.out.2 1).trans x1; have y2 := (ht3.cell (b := wr.heap.size) (by have := HS.out; have := ht3.size; omega) HS.out.2 2).trans x2; have HT3 := hid ht3; have HE3 := hid hE3; have HO3 := hid (HPA.out.obs.touch ht3 HPA.out.ap); clear ht3 hE3)
              | (go_at_call 55; refine (ref13_drop HO3.out HPA.out.ext.good hn6 aa).mono ?_; rintro e w4 ⟨v, rfl, hb4⟩; rw [E1.out.1, E1.out.2]; have hg4 := hb4.1; have u1 := (hg4.cell (lt_cell y1) 1).trans y1; have u2 := (hg4.cell (lt_cell y2) 2).trans y2; have HB4 := hid hb4; have HY := hid (And.intro u1 u2); clear hb4 hg4 u1 u2))
            go_meet
            case rel =>
              obtain ⟨A', c', rfl, hP⟩ := HPA.out.map_first HT3.out HE3.out HB4.out
              exact ⟨_, A', c', rfl, ⟨hP⟩, ⟨lt_cell HY.out.1⟩, HY⟩
        · have b5 : (r == 5) = false := beq_eq_false_iff_ne.2 (by omega)
          have b6 : (r == 6) = false := beq_eq_false_iff_ne.2 (by omega)
          have b7 : (r == 7) = true := by simp [hr7]
          clear hr7
          by_cases hb0 : bb = 0
          · have db : (bb == 0) = true := by simp [hb0]
            go_wp2_with (first
              | (go_at_call 56; refine (ext_wipe HPA.out.ext).mono ?_; rintro e w3 ⟨rfl, ht3, hE3⟩; have y1 := (ht3.cell (b := wr.heap.size) (by have := HS.out; have := ht3.size; omega) HS.out.2 1).trans x1; have y2 := (ht3.cell (b := wr.heap.size) (by have := HS.out; have := ht3.size; omega) HS.out.2 2).trans x2; have HT3 := hid ht3; have HE3 := hid hE3; have HY := hid (And.intro y1 y2); clear ht3 hE3 y1 y2))
            go_meet
            case rel => exact ⟨[], none, 0, rfl, ⟨⟨HE3.out, fun i h => absurd h (Nat.not_lt_zero _), (fun a e => by cases e), HPA.out.t.trans HT3.out⟩⟩, ⟨lt_cell HY.out.1⟩, HY⟩
          · have db : (bb == 0) = false := beq_eq_false_iff_ne.2 hb0
            have HY := hid (And.intro x1 x2)
            go_wp2
            go_meet
            case rel => exact ⟨L, A, c, rfl, HPA, ⟨lt_cell HY.out.1⟩, HY⟩
        · have b5 : (r == 5) = false := beq_eq_false_iff_ne.2 hr5
          have b6 : (r == 6) = false := beq_eq_false_iff_ne.2 hr6
          have b7 : (r == 7) = false := beq_eq_false_iff_ne.2 hr7
          obtain ⟨ev, hev⟩ : ∃ d, d = addE L n aa bb := ⟨_, rfl⟩
          have E1 := hid hev.symm
          clear hev hr5 hr6 hr7
          go_wp2_with (first
            | (go_at_call 57; refine (ref13_add HPA.out.obs HPA.out.ext.good hn6 aa bb).mono ?_; rintro e w3 ⟨v, rfl, hb3⟩; rw [E1.out]; have hg3 := hb3.1; have y1 := (hg3.cell (lt_cell x1) 1).trans x1; have y2 := (hg3.cell (lt_cell x2) 2).trans x2; have HB3 := hid hb3; have HZ3 := hid hg3.size; have HE3 := hid (HPA.out.ext.gr hg3); have HT3 := hid (hg3.tab HTA.out.lt HTA.out); clear hb3 hg3)
            | (go_at_call 42; refine (ext_add HE3.out HT3.out aa bb).mono ?_; rintro e w4 ⟨rfl, ht4, hE4⟩; rw [E1.out]; have u1 := (ht4.cell (b := wr.heap.size) (lt_cell y1) HS.out.2 1).trans y1; have u2 := (ht4.cell (b := wr.heap.size) (lt_cell y2) HS.out.2 2).trans y2; have HT4 := hid ht4; have HE4 := hid hE4; have HY := hid (And.intro u1 u2); clear ht4 hE4 u1 u2))
          go_meet
          case rel =>
            obtain ⟨A', c', rfl, hP⟩ := HPA.out.list_first HB3.out HT4.out HE4.out
            exact ⟨_, A', c', rfl, ⟨hP⟩, ⟨lt_cell HY.out.1⟩, HY⟩
      case rest =>
        obtain ⟨L', A', c', rfl, HPc, -, HY⟩ := hcut
        have y1 := HY.out.1
        have y2 := HY.out.2
        have HGC := hid ((HG1.out.touch (fun _ => False)).trans' HPc.out.t (fun i hi h => by have := HX.out; unfold mine at h; omega)).gr
        have HTC := hid (HGC.out.tab HT.out.lt HT.out)
        obtain ⟨s1, hs1⟩ : ∃ s, s = obS L' (findO L' aa) := ⟨_, rfl⟩
        obtain ⟨v1, hv1⟩ : ∃ s, s = obZ L' (findO L' aa) := ⟨_, rfl⟩
        obtain ⟨f1, hf1⟩ : ∃ f, f = decide (findO L' aa < L'.length) := ⟨_, rfl⟩
        obtain ⟨j1, hj1⟩ : ∃ j, j = idxI L' (findO L' aa) := ⟨_, rfl⟩
        obtain ⟨s2, hs2⟩ : ∃ s, s = obS L' (nextO L' bb) := ⟨_, rfl⟩
        obtain ⟨v2, hv2⟩ : ∃ s, s = obZ L' (nextO L' bb) := ⟨_, rfl⟩
        obtain ⟨f2, hf2⟩ : ∃ f, f = decide (nextO L' bb < L'.length) := ⟨_, rfl⟩
        obtain ⟨j2, hj2⟩ : ∃ j, j = idxI L' (nextO L' bb) := ⟨_, rfl⟩
        obtain ⟨cn, hcn⟩ : ∃ v, v = overs L' aa bb := ⟨_, rfl⟩
        have E1 : Hid (tellO L' (findO L' aa) = .tuple #[.int .i64 s1, .int .i64 v1, .bool f1]) := ⟨by rw [hs1, hv1, hf1]; rfl⟩
        have J1 := hid hj1.symm
        have E2 : Hid (tellO L' (nextO L' bb) = .tuple #[.int .i64 s2, .int .i64 v2, .bool f2]) := ⟨by rw [hs2, hv2, hf2]; rfl⟩
        have J2 := hid hj2.symm
        have E4 : Hid (overs L' aa bb = cn ∧ ((liveN L' n aa bb : Nat) : Int) = cn) := ⟨hcn.symm, by rw [hcn, liveN_eq HPc.out.ext.good]⟩
        clear hs1 hv1 hf1 hj1 hs2 hv2 hf2 hj2 hcn HY
        by_cases hb1 : bb < 0
        · have E3 := hid (wordV_neg (L := L') hb1)
          have d3 : decide ((100000 : Int) < bb) = false := by simp; omega
          have d4 : decide (bb < 0) = true := by simp [hb1]
          go_upto_region 37 with (first
            | (go_at_call 58; refine (ext_find HPc.out.ext HTC.out aa).mono ?_; rintro e w3 ⟨rfl, rfl⟩; rw [E1.out])
            | (go_at_call 60; refine (ref13_find HPc.out.obs HPc.out.ext.good hn6 aa HOK.out.2.2.1).mono ?_; rintro e w4 ⟨rfl, hg4⟩; rw [J1.out]; have y1 := (hg4.cell (lt_cell y1) 1).trans y1; have y2 := (hg4.cell (lt_cell y2) 2).trans y2; have HG4 := hid hg4; clear hg4)
            | (go_at_call 59; have hnx := HNX.out; clear hnx; refine (told_ok (HPc.out.obs.gr HG4.out) E2.out J2.out).mono ?_; rintro e w5 ⟨rfl, rfl⟩)
            | (go_at_call 59; refine (told_ok (HPc.out.obs.gr HG4.out) E1.out J1.out).mono ?_; rintro e w5 ⟨rfl, rfl⟩)
            | (go_at_call 61; refine (ext_next (HPc.out.ext.gr HG4.out) (HG4.out.tab HTC.out.lt HTC.out) bb).mono ?_; rintro e w5 ⟨rfl, rfl⟩; rw [E2.out]; have HNX := hid (Nat.le_refl 0))
            | (go_at_call 62; refine (ref13_next (HPc.out.obs.gr HG4.out) HPc.out.ext.good hn6 bb).mono ?_; rintro e w5 ⟨rfl, rfl⟩; rw [J2.out])
            | (go_at_call 44; refine (ext_word (HPc.out.ext.gr HG4.out) (HG4.out.tab HTC.out.lt HTC.out) bb HOK.out.2.2.2.2).mono ?_; rintro e w5 ⟨rfl, hg5⟩; rw [E3.out.1, E3.out.2]; have y1 := (hg5.cell (lt_cell y1) 1).trans y1; have y2 := (hg5.cell (lt_cell y2) 2).trans y2; have HG5 := hid (HG4.out.trans hg5); clear hg5)
            | (go_at_call 63; refine (ref13_word_any (HPc.out.obs.gr HG5.out) HPc.out.ext.good hn6 bb HOK.out.2.2.2.2).mono ?_; rintro e w6 ⟨⟨x, xb, rfl, hxb⟩, rfl⟩; clear hxb))
          have z1 : ∀ xs m, (grow w5 xs m).cell? ⟨wr.heap.size, 1, none⟩ = some (.int .i64 aa) := fun xs m => ((grown w5 xs m).cell (lt_cell y1) 1).trans y1
          have z2 : ∀ xs m, (grow w5 xs m).cell? ⟨wr.heap.size, 2, none⟩ = some (.int .i64 bb) := fun xs m => ((grown w5 xs m).cell (lt_cell y2) 2).trans y2
          refine wp_region_by (by kernel_rfl) (by kernel_rfl) ?_
          repeat (go_big_quiet_step (first
            | (go_at_call 45; have hc := fun xs m => ext_live (HPc.out.ext.gr (HG5.out.trans (grown w5 xs m))) ((HG5.out.trans (grown w5 xs m)).tab HTC.out.lt HTC.out) aa bb HOK.out.2.2.1 HOK.out.2.2.2.1; simp only [E4.out.1] at hc; exact Gets.grown_same (hc _ _))
            | (go_at_call 64; have hc := fun xs m => ref13_live (c := c') (HPc.out.obs.gr (HG5.out.trans (grown w5 xs m))) HPc.out.ext.good hn6 aa bb; simp only [E4.out.2] at hc; exact Gets.grown (hc _ _))
            | (go_at_call 46; have hc := fun xs m => ext_objects (HPc.out.ext.gr (HG5.out.trans (grown w5 xs m))); exact Gets.grown_same (hc _ _))
            | (go_at_call 65; have hc := fun xs m => ext_words (HPc.out.ext.gr (HG5.out.trans (grown w5 xs m))); exact Gets.grown_same (hc _ _))))
          refine wpQuiet_nil ?_
          intro _ hw'
          obtain ⟨⟨xs, nq⟩, hw''⟩ := hw'
          subst hw''
          go_wp2
          go_roundw
          case rel => exact ⟨k + 1, L', A', c', by omega, ⟨HPc.out.gr (HG5.out.trans (grown w5 _ _))⟩, rfl, by go_num⟩
          case measure => simp [intOf]; omega
        by_cases hb2 : 100000 < bb
        · have E3 := hid (wordV_far HPc.out.ext.good (k := bb) (by omega))
          have d3 : decide ((100000 : Int) < bb) = true := by simp [hb2]
          go_upto_region 37 with (first
            | (go_at_call 58; refine (ext_find HPc.out.ext HTC.out aa).mono ?_; rintro e w3 ⟨rfl, rfl⟩; rw [E1.out])
            | (go_at_call 60; refine (ref13_find HPc.out.obs HPc.out.ext.good hn6 aa HOK.out.2.2.1).mono ?_; rintro e w4 ⟨rfl, hg4⟩; rw [J1.out]; have y1 := (hg4.cell (lt_cell y1) 1).trans y1; have y2 := (hg4.cell (lt_cell y2) 2).trans y2; have HG4 := hid hg4; clear hg4)
            | (go_at_call 59; have hnx := HNX.out; clear hnx; refine (told_ok (HPc.out.obs.gr HG4.out) E2.out J2.out).mono ?_; rintro e w5 ⟨rfl, rfl⟩)
            | (go_at_call 59; refine (told_ok (HPc.out.obs.gr HG4.out) E1.out J1.out).mono ?_; rintro e w5 ⟨rfl, rfl⟩)
            | (go_at_call 61; refine (ext_next (HPc.out.ext.gr HG4.out) (HG4.out.tab HTC.out.lt HTC.out) bb).mono ?_; rintro e w5 ⟨rfl, rfl⟩; rw [E2.out]; have HNX := hid (Nat.le_refl 0))
            | (go_at_call 62; refine (ref13_next (HPc.out.obs.gr HG4.out) HPc.out.ext.good hn6 bb).mono ?_; rintro e w5 ⟨rfl, rfl⟩; rw [J2.out])
            | (go_at_call 44; refine (ext_word (HPc.out.ext.gr HG4.out) (HG4.out.tab HTC.out.lt HTC.out) bb HOK.out.2.2.2.2).mono ?_; rintro e w5 ⟨rfl, hg5⟩; rw [E3.out.1, E3.out.2]; have y1 := (hg5.cell (lt_cell y1) 1).trans y1; have y2 := (hg5.cell (lt_cell y2) 2).trans y2; have HG5 := hid (HG4.out.trans hg5); clear hg5)
            | (go_at_call 63; refine (ref13_word_any (HPc.out.obs.gr HG5.out) HPc.out.ext.good hn6 bb HOK.out.2.2.2.2).mono ?_; rintro e w6 ⟨⟨x, xb, rfl, hxb⟩, rfl⟩; clear hxb))
          have z1 : ∀ xs m, (grow w5 xs m).cell? ⟨wr.heap.size, 1, none⟩ = some (.int .i64 aa) := fun xs m => ((grown w5 xs m).cell (lt_cell y1) 1).trans y1
          have z2 : ∀ xs m, (grow w5 xs m).cell? ⟨wr.heap.size, 2, none⟩ = some (.int .i64 bb) := fun xs m => ((grown w5 xs m).cell (lt_cell y2) 2).trans y2
          refine wp_region_by (by kernel_rfl) (by kernel_rfl) ?_
          repeat (go_big_quiet_step (first
            | (go_at_call 45; have hc := fun xs m => ext_live (HPc.out.ext.gr (HG5.out.trans (grown w5 xs m))) ((HG5.out.trans (grown w5 xs m)).tab HTC.out.lt HTC.out) aa bb HOK.out.2.2.1 HOK.out.2.2.2.1; simp only [E4.out.1] at hc; exact Gets.grown_same (hc _ _))
            | (go_at_call 64; have hc := fun xs m => ref13_live (c := c') (HPc.out.obs.gr (HG5.out.trans (grown w5 xs m))) HPc.out.ext.good hn6 aa bb; simp only [E4.out.2] at hc; exact Gets.grown (hc _ _))
            | (go_at_call 46; have hc := fun xs m => ext_objects (HPc.out.ext.gr (HG5.out.trans (grown w5 xs m))); exact Gets.grown_same (hc _ _))
            | (go_at_call 65; have hc := fun xs m => ext_words (HPc.out.ext.gr (HG5.out.trans (grown w5 xs m))); exact Gets.grown_same (hc _ _))))
          refine wpQuiet_nil ?_
          intro _ hw'
          obtain ⟨⟨xs, nq⟩, hw''⟩ := hw'
          subst hw''
          go_wp2
          go_roundw
          case rel => exact ⟨k + 1, L', A', c', by omega, ⟨HPc.out.gr (HG5.out.trans (grown w5 _ _))⟩, rfl, by go_num⟩
          case measure => simp [intOf]; omega
        · obtain ⟨v3, hv3⟩ : ∃ v, v = wordV L' bb := ⟨_, rfl⟩
          obtain ⟨f3, hf3⟩ : ∃ v, v = wordY L' bb := ⟨_, rfl⟩
          have E3 := hid (And.intro hv3.symm hf3.symm)
          clear hv3 hf3
          have d3 : decide ((100000 : Int) < bb) = false := by simp; omega
          have d4 : decide (bb < 0) = false := by simp; omega
          go_upto_region 37 with (first
            | (go_at_call 58; refine (ext_find HPc.out.ext HTC.out aa).mono ?_; rintro e w3 ⟨rfl, rfl⟩; rw [E1.out])
            | (go_at_call 60; refine (ref13_find HPc.out.obs HPc.out.ext.good hn6 aa HOK.out.2.2.1).mono ?_; rintro e w4 ⟨rfl, hg4⟩; rw [J1.out]; have y1 := (hg4.cell (lt_cell y1) 1).trans y1; have y2 := (hg4.cell (lt_cell y2) 2).trans y2; have HG4 := hid hg4; clear hg4)
            | (go_at_call 59; have hnx := HNX.out; clear hnx; refine (told_ok (HPc.out.obs.gr HG4.out) E2.out J2.out).mono ?_; rintro e w5 ⟨rfl, rfl⟩)
            | (go_at_call 59; refine (told_ok (HPc.out.obs.gr HG4.out) E1.out J1.out).mono ?_; rintro e w5 ⟨rfl, rfl⟩)
            | (go_at_call 61; refine (ext_next (HPc.out.ext.gr HG4.out) (HG4.out.tab HTC.out.lt HTC.out) bb).mono ?_; rintro e w5 ⟨rfl, rfl⟩; rw [E2.out]; have HNX := hid (Nat.le_refl 0))
            | (go_at_call 62; refine (ref13_next (HPc.out.obs.gr HG4.out) HPc.out.ext.good hn6 bb).mono ?_; rintro e w5 ⟨rfl, rfl⟩; rw [J2.out])
            | (go_at_call 44; refine (ext_word (HPc.out.ext.gr HG4.out) (HG4.out.tab HTC.out.lt HTC.out) bb HOK.out.2.2.2.2).mono ?_; rintro e w5 ⟨rfl, hg5⟩; rw [E3.out.1, E3.out.2]; have y1 := (hg5.cell (lt_cell y1) 1).trans y1; have y2 := (hg5.cell (lt_cell y2) 2).trans y2; have HG5 := hid (HG4.out.trans hg5); clear hg5)
            | (go_at_call 63; refine (ref13_word_any (HPc.out.obs.gr HG5.out) HPc.out.ext.good hn6 bb HOK.out.2.2.2.2).mono ?_; rintro e w6 ⟨⟨x, xb, rfl, hxb⟩, rfl⟩; obtain ⟨hx, hb⟩ := hxb (by omega); rw [E3.out.1] at hx; rw [E3.out.2] at hb; subst hx hb))
          have z1 : ∀ xs m, (grow w5 xs m).cell? ⟨wr.heap.size, 1, none⟩ = some (.int .i64 aa) := fun xs m => ((grown w5 xs m).cell (lt_cell y1) 1).trans y1
          have z2 : ∀ xs m, (grow w5 xs m).cell? ⟨wr.heap.size, 2, none⟩ = some (.int .i64 bb) := fun xs m => ((grown w5 xs m).cell (lt_cell y2) 2).trans y2
          refine wp_region_by (by kernel_rfl) (by kernel_rfl) ?_
          repeat (go_big_quiet_step (first
            | (go_at_call 45; have hc := fun xs m => ext_live (HPc.out.ext.gr (HG5.out.trans (grown w5 xs m))) ((HG5.out.trans (grown w5 xs m)).tab HTC.out.lt HTC.out) aa bb HOK.out.2.2.1 HOK.out.2.2.2.1; simp only [E4.out.1] at hc; exact Gets.grown_same (hc _ _))
            | (go_at_call 64; have hc := fun xs m => ref13_live (c := c') (HPc.out.obs.gr (HG5.out.trans (grown w5 xs m))) HPc.out.ext.good hn6 aa bb; simp only [E4.out.2] at hc; exact Gets.grown (hc _ _))
            | (go_at_call 46; have hc := fun xs m => ext_objects (HPc.out.ext.gr (HG5.out.trans (grown w5 xs m))); exact Gets.grown_same (hc _ _))
            | (go_at_call 65; have hc := fun xs m => ext_words (HPc.out.ext.gr (HG5.out.trans (grown w5 xs m))); exact Gets.grown_same (hc _ _))))
          refine wpQuiet_nil ?_
          intro _ hw'
          obtain ⟨⟨xs, nq⟩, hw''⟩ := hw'
          subst hw''
          go_wp2
          go_roundw
          case rel => exact ⟨k + 1, L', A', c', by omega, ⟨HPc.out.gr (HG5.out.trans (grown w5 _ _))⟩, rfl, by go_num⟩
          case measure => simp [intOf]; omega
    · have HTB := hid (HG.out.tab HT.out.lt HT.out)
      go_wp2_with (first
        | (go_at_call 40; refine (lives13 HTB.out).mono ?_; rintro e w4 ⟨rfl, hg4⟩))
      go_ret
      exact ⟨rfl, HG.out.trans hg4⟩
theorem plays13_walk {W : World} (hT : TabAt W) (n : Int) (A : Option Addr) (cap : Nat) (l : List ActD) (hA : ActsAt W A l) :
    Gets Tryd.prog 12 #[.int .i64 n, .slice A l.length cap] W (.bool true) := by
  by_cases h : n < 1 ∨ 1048576 < n
  · exact plays13_out hT n h _
  · obtain ⟨m, rfl⟩ : ∃ m : Nat, n = m := ⟨n.toNat, by omega⟩
    by_cases h2 : 600 < m ∨ 80 < l.length
    · exact plays13_far hT m (by omega) (by omega) A l.length cap h2
    · exact plays13_in hT m (by omega) (by omega) A cap l hA (by omega)
end Go.Proofs.YtlbbkpjfoabobaaDoor
