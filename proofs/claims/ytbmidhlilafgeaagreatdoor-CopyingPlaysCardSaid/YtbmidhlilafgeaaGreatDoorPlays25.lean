/- Layer 25: CopyingPlays. -/
import Derived.Test.YtbmidhlilafgeaaGreatDoorPlays25A
namespace Go.Proofs.YtbmidhlilafgeaaGreatDoor
open Go.RowKit Word

section
variable {w : World}
set_option maxRecDepth 100000 in
set_option maxHeartbeats 12800000 in
theorem plays25_walk (hT : TabAt w) {A1 A2 A3 : Option Addr} {c1 c2 c3 : Nat} {x : LaidC} (hL : LaidCAt w A1 A2 A3 x) {more : Nat} (hm : more < 256) :
    Gets Tryz.prog 5 #[.agg (laidV x A1 A2 A3 c1 c2 c3).toArray, .int .u8 more] w (.bool true) := by
  have HT := hid hT
  have HGB := hid ((Gr.refl w).alloc (.cells (laidV x A1 A2 A3 c1 c2 c3).toArray 25))
  have hrb := Rec.new w 25 (laidV x A1 A2 A3 c1 c2 c3)
  obtain ⟨W1, hW1⟩ : ∃ W1, W1 = w.alloc (.cells (laidV x A1 A2 A3 c1 c2 c3).toArray 25) := ⟨_, rfl⟩
  rw [← hW1] at hrb HGB
  have HLY := hid (lay24_walk (c1 := c1) (c2 := c2) (c3 := c3) (hL.gr HGB.out) (more := more) (by omega))
  have HFAR := hid (fun W => far24 (.int .u8 x.pg) (.int .u8 x.bk) (.int .u8 x.st) (.int .u8 x.ah) A1 A2 A3 x.H.length x.P.length x.R.length c1 c2 c3 W)
  have HLEN : Hid (x.R.length ≤ 9223372036854775807) := ⟨hL.lr⟩
  unfold laidV at hW1 hrb HLY ⊢
  have HRB := hid hrb
  have z0 := hrb.cell (j := 0) rfl
  have z1 := hrb.cell (j := 1) rfl
  have z2 := hrb.cell (j := 2) rfl
  have z3 := hrb.cell (j := 3) rfl
  have z4 := hrb.cell (j := 4) rfl
  have z5 := hrb.cell (j := 5) rfl
  have z6 := hrb.cell (j := 6) rfl
  have zl := hrb.lt
  obtain ⟨fb, hfb⟩ : ∃ b, b = farC x.H.length x.P.length x.R.length := ⟨_, rfl⟩
  rw [← hfb] at HFAR
  have HFB := hid hfb
  clear hT hL hrb hfb
  obtain ⟨N1, hN1⟩ : ∃ N, N = x.H.length := ⟨_, rfl⟩
  obtain ⟨N2, hN2⟩ : ∃ N, N = x.P.length := ⟨_, rfl⟩
  obtain ⟨N3, hN3⟩ : ∃ N, N = x.R.length := ⟨_, rfl⟩
  have HN3 := hid hN3
  rw [← hN1, ← hN2, ← hN3] at HLY HFAR HRB
  rw [← hN1, ← hN2, ← hN3]
  rw [← hN1] at z1 hW1
  rw [← hN2] at z2 hW1
  rw [← hN3] at z3 hW1
  have HWL := hid hW1
  clear hN1 hN2 hN3
  unfold Gets
  go_enter Tryz.func5, Tryz.ntmps5
  go_upto_region 1 with (fail)
  rw [show w.alloc (.cells #[.int .u8 x.pg, .slice A1 N1 c1, .slice A2 N2 c2, .slice A3 N3 c3, .int .u8 x.bk, .int .u8 x.st, .int .u8 x.ah] 25) = W1 from hW1.symm]
  clear hW1 HWL
  go_upto_region 2 with (go_at_call 13; refine HLY.out.mono ?_; rintro e w1 ⟨hp, q, r, g, A, c, v0, SV, rfl, hg1, hrn, hz0, hvm, hrt, hrec, hwr, hsv, hs1, hs2, hs3, hs4, hs5⟩; have HG := hid (HGB.out.trans hg1); have HV := hid hvm; have HRN := hid hrn; have HRT := hid hrt; have HRC := hid hrec; have HWR := hid hwr; have HSV := hid (And.intro hsv (And.intro hs1 (And.intro hs2 (And.intro hs3 (And.intro hs4 hs5))))); have HB1 := hid (HRB.out.gr hg1); clear hg1 hrn hz0 hvm hrt hrec hwr hsv hs1 hs2 hs3 hs4 hs5)
  clear z0 z1 z2 z3 z4 z5 z6 zl
  have z0 := HB1.out.cell (j := 0) rfl
  have z1 := HB1.out.cell (j := 1) rfl
  have z2 := HB1.out.cell (j := 2) rfl
  have z3 := HB1.out.cell (j := 3) rfl
  have z4 := HB1.out.cell (j := 4) rfl
  have z5 := HB1.out.cell (j := 5) rfl
  have z6 := HB1.out.cell (j := 6) rfl
  have zl := HB1.out.lt
  cases fb with
  | true =>
    go_wp2_with (first
      | (go_at_call 14; refine (HFAR.out _).mono ?_; rintro e w2 ⟨rfl, hg2⟩; have HG := hid (HG.out.trans hg2); have HB1 := hid (HB1.out.gr hg2); have z0 := HB1.out.cell (j := 0) rfl; have z1 := HB1.out.cell (j := 1) rfl; have z2 := HB1.out.cell (j := 2) rfl; have z3 := HB1.out.cell (j := 3) rfl; have z4 := HB1.out.cell (j := 4) rfl; have z5 := HB1.out.cell (j := 5) rfl; have z6 := HB1.out.cell (j := 6) rfl; have zl := HB1.out.lt; clear hg2)
      | (go_at_call 15; refine (lives25 (HG.out.tab HT.out.lt HT.out)).mono ?_; rintro e w4 ⟨rfl, hg4⟩; have HG := hid (HG.out.trans hg4); clear hg4))
    go_ret
    exact ⟨rfl, HG.out⟩
  | false =>
    go_upto_region 4 with (go_at_call 14; refine (HFAR.out _).mono ?_; rintro e w2 ⟨rfl, hg2⟩; have HG := hid (HG.out.trans hg2); have HG12 := hid hg2; clear hg2)
    clear z0 z1 z2 z3 z4 z5 z6 zl
    have hst := Stays.layC HRN.out.ok x
    have hs := HRN.out.stays hst
    have hLI := laid_in (x := x) HRN.out.ok HRN.out.map
    obtain ⟨L, hM⟩ := hLI.ex HRN.out.map
    obtain ⟨u, hu, huv⟩ := ghost (n := x.n) (f := fun a => (layC x v0).ldV a) (by have := x.page_pos; unfold LaidC.n; omega) (by have := x.page_pos; unfold LaidC.n; omega) (fun a => hs.ok.ldV_lt _)
    have hwu : Wider (layC x v0) u := ghost_wider hu hs.n huv
    have HMU := hid (hwu.marks hM)
    have HM := hid hM
    have HU := hid hu
    have HUV := hid huv
    have hmk := hLI.marks HRN.out.map hM
    have HSZ : Hid (sizes L ≤ 512) := ⟨hmk.2.1⟩
    have hn11 : x.n ≤ 1100 := by have := x.page_pos; unfold LaidC.n; omega
    have HWR2 : Hid (Wrds w2 A c x.n u) := ⟨by have := HWR.out.gr HG12.out; unfold Wrds at this ⊢; rwa [wrds_congr huv]⟩
    have HC2 := hid (HRC.out.gr HG12.out)
    unfold heapL at HC2
    have HV2 := hid (HV.out.gr HG12.out)
    have HR2 := hid (HRT.out.gr HG12.out)
    have HALL := hid (fun (W : World) (g' : Gr w2 W) => rt_all (HR2.out.gr g'))
    have HUS := hid (fun (W : World) (g' : Gr w2 W) => vm_used (HV2.out.gr g'))
    have HRM := hid (fun (W : World) (g' : Gr w2 W) => vm_room (HV2.out.gr g'))
    rw [hs.rm] at HRM
    have hrl : x.rs.length ≤ 64 := HRT.out.le
    have HLR := hid hrl
    obtain ⟨us, hus⟩ : ∃ us, us = (layC x v0).pl.used := ⟨_, rfl⟩
    have HUE := hid hus
    rw [← hus] at HUS
    obtain ⟨sz, hsz⟩ : ∃ sz, sz = sizes L := ⟨_, rfl⟩
    have HZE := hid hsz
    obtain ⟨ps, hps⟩ : ∃ ps, ps = x.pgs sz := ⟨_, rfl⟩
    have HPE := hid hps
    have hszb : sz ≤ 512 := by rw [hsz]; exact hmk.2.1
    have hpsb : ps ≤ 544 := by rw [hps]; unfold LaidC.pgs; have := Nat.div_le_self (sz + x.page - 1) x.page; have := x.page_pos; omega
    have HPG : Hid (∀ W, Calls Tryz.prog 22 #[.int .i64 sz, .int .i64 (x.page : Nat)] W fun e w' => e = .returned (.int .i64 (ps : Nat)) ∧ W = w') := ⟨fun W => by rw [hps]; exact pages25 sz x.page x.page_pos.1 (by omega) (by have := x.page_pos; omega) W⟩
    obtain ⟨rm, hrm⟩ : ∃ rm, rm = x.room + more := ⟨_, rfl⟩
    have HRME := hid hrm
    rw [← hrm] at HRM
    have hrmb : rm ≤ 2000 := by have := x.room_le; omega
    have husb : us ≤ 2000 := by
      have h4 := hs.ok.pl.us
      have h5 := hs.ok.pl.le
      rw [hs.rm] at h5
      omega
    have HCF := hid (cp24_ok HRN.out).cf
    rw [hs.pg, hs.n] at HCF
    have HIN := hid hmk.1
    have HCHK : Hid (∀ (W : World) (gA cA : Nat), Gr w2 W → IntsAt W (some ⟨gA, 0, none⟩) x.rs → Calls Tryz.prog 21 #[.slice A x.n c, .int .i64 (x.page : Nat), .slice (some ⟨gA, 0, none⟩) x.rs.length cA, cfV x.cf] W fun e w' => e = .returned (.tuple #[.int .i64 (sz : Nat), .int .i64 0]) ∧ Gr W w') := ⟨fun W gA cA g' hA => by
      rw [hsz]
      refine ref25_check (cr := cA) HU.out (HWR2.out.gr g') hA HLR.out HMU.out hn11 x.page_pos.1 HCF.out hmk.1 ?_
      show x.page + 512 + sizes L ≤ x.page + 1024
      have := hmk.2.1
      omega⟩
    unfold cfV at HCHK
    clear hst hs hLI hM hu huv hwu hmk hus hsz hps hrm
    obtain ⟨Sx, hSx⟩ : ∃ Sx : World → Prop, Sx = fun W' => Gr w2 W' := ⟨_, rfl⟩
    have x0 : ∀ p : Held Sx, p.w.cell? ⟨hp, 0, none⟩ = some (.pointer (some ⟨q, 0, none⟩)) := fun p => (HC2.out.gr (Held.get hSx p)).cell (j := 0) rfl
    have x1 : ∀ p : Held Sx, p.w.cell? ⟨hp, 1, none⟩ = some (.pointer (some ⟨r, 0, none⟩)) := fun p => (HC2.out.gr (Held.get hSx p)).cell (j := 1) rfl
    have HS : Hid (∀ W', Gr w2 W' → Sx W') := ⟨fun W' h => by rw [hSx]; exact h⟩
    have hS0 := HS.out _ (Gr.refl w2).drew
    have inst : Inhabited (Held Sx) := ⟨⟨_, hS0⟩⟩
    clear hSx
    refine wp_region_mixS Sx 12 [([0, 1, 2, 3, 5, 6, 7, 8], 4), ([], 9)] [10, 11] (by kernel_rfl) (by kernel_rfl) hS0 ?_
    refine segs_step ?_
    simp only [opsAt, List.getElem?_cons_zero, List.getElem?_cons_succ]
    repeat (go_big_quiet_step (fail))
    refine wpQuiet_nil ?_
    go_wp2_with (go_at_call 16; refine (HALL.out _ (Gr.refl w2).drew).mono ?_; rintro e w3 ⟨gA, cA, rfl, hg3, hgl3, ho3⟩; have HG3 := hid ((Gr.refl w2).drew.trans hg3); have HWS := hid ho3; have HGA : Hid (w2.heap.size ≤ gA) := ⟨hgl3⟩; clear hg3 hgl3 ho3)
    refine ⟨.inr (Held.of (HS.out _ HG3.out)), ?_⟩
    refine segs_step ?_
    simp only [opsAt, List.getElem?_cons_zero, List.getElem?_cons_succ]
    refine wpQuiet_nil ?_
    go_wp2_with (go_at_call 20; refine (HUS.out _ HG3.out).mono ?_; rintro e w4 ⟨rfl, rfl⟩)
    refine ⟨.inr (Held.of (HS.out _ HG3.out)), ?_⟩
    refine segs_end ?_
    simp only [opsAt, List.getElem?_cons_zero, List.getElem?_cons_succ]
    repeat (go_big_quiet_step (fail))
    refine wpQuiet_nil ?_
    refine NoPanic.normal ?_
    clear x0 x1 hS0 inst
    clear HS Sx
    have HC3 := hid (HC2.out.gr HG3.out)
    have HCK := hid (HCHK.out w3.drew gA cA HG3.out.drew (own_ints (own_gr HWS.out (Gr.refl w3).drew) rfl))
    clear HCHK HALL
    go_upto_region 5 with (fail)
    obtain ⟨Sx, hSx⟩ : ∃ Sx : World → Prop, Sx = fun W' => Gr w3 W' := ⟨_, rfl⟩
    have x2 : ∀ p : Held Sx, p.w.cell? ⟨hp, 2, none⟩ = some (.int .i64 x.cf.fr) := fun p => (HC3.out.gr (Held.get hSx p)).cell (j := 2) rfl
    have x3 : ∀ p : Held Sx, p.w.cell? ⟨hp, 3, none⟩ = some (.int .i64 x.cf.tp) := fun p => (HC3.out.gr (Held.get hSx p)).cell (j := 3) rfl
    have x4 : ∀ p : Held Sx, p.w.cell? ⟨hp, 4, none⟩ = some (.int .i64 x.cf.to) := fun p => (HC3.out.gr (Held.get hSx p)).cell (j := 4) rfl
    have x5 : ∀ p : Held Sx, p.w.cell? ⟨hp, 5, none⟩ = some (.int .i64 x.cf.lm) := fun p => (HC3.out.gr (Held.get hSx p)).cell (j := 5) rfl
    have x6 : ∀ p : Held Sx, p.w.cell? ⟨hp, 6, none⟩ = some (.int .i64 x.cf.bk) := fun p => (HC3.out.gr (Held.get hSx p)).cell (j := 6) rfl
    have x7 : ∀ p : Held Sx, p.w.cell? ⟨hp, 7, none⟩ = some (.int .i64 x.cf.st) := fun p => (HC3.out.gr (Held.get hSx p)).cell (j := 7) rfl
    have x8 : ∀ p : Held Sx, p.w.cell? ⟨hp, 8, none⟩ = some (.int .i64 x.cf.ah) := fun p => (HC3.out.gr (Held.get hSx p)).cell (j := 8) rfl
    have x9 : ∀ p : Held Sx, p.w.cell? ⟨hp, 9, none⟩ = some (.slice A x.n c) := fun p => (HC3.out.gr (Held.get hSx p)).cell (j := 9) rfl
    have x10 : ∀ p : Held Sx, p.w.cell? ⟨hp, 10, none⟩ = some (.int .i64 (x.page : Nat)) := fun p => (HC3.out.gr (Held.get hSx p)).cell (j := 10) rfl
    have HS : Hid (∀ W', Gr w3 W' → Sx W') := ⟨fun W' h => by rw [hSx]; exact h⟩
    have hS0 := HS.out _ (Gr.refl w3).drew
    have inst : Inhabited (Held Sx) := ⟨⟨_, hS0⟩⟩
    clear hSx
    refine wp_region_mixS Sx 19 [([0, 1, 2, 3, 4, 5, 6, 7, 8, 9, 10, 11, 12], 13)] [14, 15, 16, 17, 18] (by kernel_rfl) (by kernel_rfl) hS0 ?_
    refine segs_step ?_
    simp only [opsAt, List.getElem?_cons_zero, List.getElem?_cons_succ]
    repeat (go_big_quiet_step (fail))
    refine wpQuiet_nil ?_
    go_wp2_with (go_at_call 21; refine HCK.out.mono ?_; rintro e w4 ⟨rfl, hg4⟩; have HG4 := hid ((Gr.refl w3).drew.trans hg4); clear hg4)
    refine ⟨.inr (Held.of (HS.out _ HG4.out)), ?_⟩
    refine segs_end ?_
    simp only [opsAt, List.getElem?_cons_zero, List.getElem?_cons_succ]
    repeat (go_big_quiet_step (fail))
    refine wpQuiet_nil ?_
    refine NoPanic.normal ?_
    clear x2 x3 x4 x5 x6 x7 x8 x9 x10 hS0 inst
    clear HS Sx
    have HC4 := hid (HC3.out.gr HG4.out)
    have HG24 := hid (HG3.out.trans HG4.out)
    clear HCK
    go_upto_region 6 with (fail)
    by_cases hb : rm < us + ps
    · have d1 : decide ((rm : Int) < (us : Int) + (ps : Int)) = true := decide_eq_true (by omega)
      have HBIG := hid hb
      clear hb
      obtain ⟨Sx, hSx⟩ : ∃ Sx : World → Prop, Sx = fun W' => Gr w4 W' := ⟨_, rfl⟩
      have x0 : ∀ p : Held Sx, p.w.cell? ⟨hp, 0, none⟩ = some (.pointer (some ⟨q, 0, none⟩)) := fun p => (HC4.out.gr (Held.get hSx p)).cell (j := 0) rfl
      have x10 : ∀ p : Held Sx, p.w.cell? ⟨hp, 10, none⟩ = some (.int .i64 (x.page : Nat)) := fun p => (HC4.out.gr (Held.get hSx p)).cell (j := 10) rfl
      have HS : Hid (∀ W', Gr w4 W' → Sx W') := ⟨fun W' h => by rw [hSx]; exact h⟩
      have hS0 := HS.out _ (Gr.refl w4).drew
      have inst : Inhabited (Held Sx) := ⟨⟨_, hS0⟩⟩
      clear hSx
      refine wp_region_mixS Sx 18 [([0, 1, 2, 3, 4, 5, 6, 7, 8, 11, 12, 13, 14], 9), ([10], 15)] [16, 17] (by kernel_rfl) (by kernel_rfl) hS0 ?_
      refine segs_step ?_
      simp only [opsAt, List.getElem?_cons_zero, List.getElem?_cons_succ]
      repeat (go_big_quiet_step (fail))
      refine wpQuiet_nil ?_
      go_wp2_with (go_at_call 22; refine (HPG.out _).mono ?_; rintro e w5 ⟨rfl, rfl⟩)
      refine ⟨.inr (Held.of (HS.out _ (Gr.refl w4).drew)), ?_⟩
      refine segs_step ?_
      simp only [opsAt, List.getElem?_cons_zero, List.getElem?_cons_succ]
      repeat (go_big_quiet_step (fail))
      refine wpQuiet_nil ?_
      go_wp2_with (go_at_call 23; refine (HRM.out _ HG24.out.drew).mono ?_; rintro e w5 ⟨rfl, rfl⟩)
      refine ⟨.inr (Held.of (HS.out _ (Gr.refl w4).drew)), ?_⟩
      refine segs_end ?_
      simp only [opsAt, List.getElem?_cons_zero, List.getElem?_cons_succ]
      repeat (go_big_quiet_step (fail))
      refine wpQuiet_nil ?_
      refine NoPanic.normal ?_
      clear x0 x10 hS0 inst
      clear HS Sx
      have HG5 := hid ((Gr.refl w4).drew)
      obtain ⟨w5, hw5⟩ : ∃ w5, w5 = w4.drew := ⟨_, rfl⟩
      rw [← hw5] at HG5 ⊢
      clear hw5
      have HC5 := hid (HC4.out.gr HG5.out)
      go_upto_region 8 with (fail)
      have HT36 : Hid (∀ W W', Gr w3 W → Touch (fun b => b = g ∨ SV b) W W' → P25 W' x u hp q r gA cA A c ∧ Gr w W') := ⟨fun W W' hW t => by
        have hp3 : P25 W x u hp q r gA cA A c := ⟨(HRC.out.gr HG12.out).gr (HG3.out.trans hW), HWR2.out.gr (HG3.out.trans hW), own_gr HWS.out hW⟩
        refine ⟨hp3.touch t (fun h => ?_) (fun b hb h => ?_) (fun h => ?_), ?_⟩
        · rcases h with h | h
          · exact own_ne HRT.out.row HRC.out (by decide) rfl rfl h.symm
          · exact HSV.out.2.1 h
        · rcases h with h | h
          · exact words_ne HWR2.out HR2.out hb h
          · exact (HSV.out.2.2.2.2.2 b hb).2 h
        · have h1 := HGA.out
          have h2 := HG12.out.size
          rcases h with h | h
          · have := HRT.out.lt.2; omega
          · have := (HSV.out.1 _ h).2; omega
        · have t1 : Touch (fun b => b = g ∨ SV b) w W' := ((HG.out.trans (HG3.out.trans hW)).touch _).trans t
          refine (t1.mono (T := fun _ => False) (fun i hi h => ?_)).gr
          have hz := HGB.out.size
          rcases h with h | h
          · have := HSV.out.2.2.2.2.1.2.2; omega
          · have := (HSV.out.1 i h).1; omega⟩
      have HG35 := hid (HG4.out.trans HG5.out)
      have HRUN := hid (fun (W : World) (hW : Gr w2 W) => (cp24_run HRN.out (HV2.out.gr hW) (HR2.out.gr hW) HT.out (HG.out.trans hW) (fun i hi => by have := (HSV.out.1 i hi).1; have := HGB.out.size; omega) HSV.out.2.2.1 HSV.out.2.2.2.1).mono (fun e w' h => run25_big HRN.out HM.out HUV.out (by rw [← HRME.out, ← HUE.out, ← HZE.out, ← HPE.out]; exact HBIG.out) h))
      unfold cfV at HRUN
      obtain ⟨Sx, hSx⟩ : ∃ Sx : World → Prop, Sx = fun W' => Rec W' hp 37 [.pointer (some ⟨q, 0, none⟩), .pointer (some ⟨r, 0, none⟩), .int .i64 x.cf.fr, .int .i64 x.cf.tp, .int .i64 x.cf.to, .int .i64 x.cf.lm, .int .i64 x.cf.bk, .int .i64 x.cf.st, .int .i64 x.cf.ah, .slice A x.n c, .int .i64 (x.page : Nat)] := ⟨_, rfl⟩
      have x0 : ∀ p : Held Sx, p.w.cell? ⟨hp, 0, none⟩ = some (.pointer (some ⟨q, 0, none⟩)) := fun p => (Held.get hSx p).cell (j := 0) rfl
      have x1 : ∀ p : Held Sx, p.w.cell? ⟨hp, 1, none⟩ = some (.pointer (some ⟨r, 0, none⟩)) := fun p => (Held.get hSx p).cell (j := 1) rfl
      have x2 : ∀ p : Held Sx, p.w.cell? ⟨hp, 2, none⟩ = some (.int .i64 x.cf.fr) := fun p => (Held.get hSx p).cell (j := 2) rfl
      have x3 : ∀ p : Held Sx, p.w.cell? ⟨hp, 3, none⟩ = some (.int .i64 x.cf.tp) := fun p => (Held.get hSx p).cell (j := 3) rfl
      have x4 : ∀ p : Held Sx, p.w.cell? ⟨hp, 4, none⟩ = some (.int .i64 x.cf.to) := fun p => (Held.get hSx p).cell (j := 4) rfl
      have x5 : ∀ p : Held Sx, p.w.cell? ⟨hp, 5, none⟩ = some (.int .i64 x.cf.lm) := fun p => (Held.get hSx p).cell (j := 5) rfl
      have x6 : ∀ p : Held Sx, p.w.cell? ⟨hp, 6, none⟩ = some (.int .i64 x.cf.bk) := fun p => (Held.get hSx p).cell (j := 6) rfl
      have x7 : ∀ p : Held Sx, p.w.cell? ⟨hp, 7, none⟩ = some (.int .i64 x.cf.st) := fun p => (Held.get hSx p).cell (j := 7) rfl
      have x8 : ∀ p : Held Sx, p.w.cell? ⟨hp, 8, none⟩ = some (.int .i64 x.cf.ah) := fun p => (Held.get hSx p).cell (j := 8) rfl
      have HS : Hid (∀ W', Rec W' hp 37 [.pointer (some ⟨q, 0, none⟩), .pointer (some ⟨r, 0, none⟩), .int .i64 x.cf.fr, .int .i64 x.cf.tp, .int .i64 x.cf.to, .int .i64 x.cf.lm, .int .i64 x.cf.bk, .int .i64 x.cf.st, .int .i64 x.cf.ah, .slice A x.n c, .int .i64 (x.page : Nat)] → Sx W') := ⟨fun W' h => by rw [hSx]; exact h⟩
      have hS0 := HS.out _ (HC5.out.gr (Gr.refl w5).drew)
      have inst : Inhabited (Held Sx) := ⟨⟨_, hS0⟩⟩
      clear hSx
      refine wp_region_mixS Sx 18 [([0, 1, 2, 3, 4, 5, 6, 7, 8, 9, 10, 11], 12)] [13, 14, 15, 16, 17] (by kernel_rfl) (by kernel_rfl) hS0 ?_
      refine segs_step ?_
      simp only [opsAt, List.getElem?_cons_zero, List.getElem?_cons_succ]
      repeat (go_big_quiet_step (fail))
      refine wpQuiet_nil ?_
      go_wp2_with (go_at_call 17; refine (HRUN.out _ (HG24.out.trans HG5.out).drew).mono ?_; rintro e w6 ⟨rfl, ht6, hv6, hr6⟩; have HP6 := hid (HT36.out _ _ HG35.out.drew ht6); have HV6 := hid hv6; have HR6 := hid hr6; clear ht6 hv6 hr6)
      refine ⟨.inr (Held.of (HS.out _ HP6.out.1.hb)), ?_⟩
      refine segs_end ?_
      simp only [opsAt, List.getElem?_cons_zero, List.getElem?_cons_succ]
      repeat (go_big_quiet_step (fail))
      refine wpQuiet_nil ?_
      refine NoPanic.normal ?_
      clear x0 x1 x2 x3 x4 x5 x6 x7 x8 hS0 inst
      clear HS Sx
      have HC6 := hid HP6.out.1.hb
      unfold heapL at HC6
      obtain ⟨v6, S6, hv6, hn6, hw6, hu6⟩ := HV6.out
      have HLD := loaded25 hv6 (by rw [hn6]; exact hn11)
      rw [hn6, hw6] at HLD
      have HLD := hid HLD
      have HUS6 := hid (fun (W : World) (g' : Gr w6 W) => vm_used (hv6.gr g'))
      rw [hu6, ← HUE.out] at HUS6
      have HAL6 := hid (fun (W : World) (g' : Gr w6 W) => rt_all (HR6.out.gr g'))
      have y0 := HC6.out.cell (j := 0) rfl
      have y1 := HC6.out.cell (j := 1) rfl
      clear hv6 hn6 hw6 hu6
      go_upto_region 12 with (go_at_call 19; refine HLD.out.mono ?_; rintro e w7 ⟨B, cB, rfl, hg7, ho7⟩; have HG7 := hid hg7; have HB7 := hid ho7; have HC7 := hid (HC6.out.gr hg7); clear hg7 ho7)
      clear y0 y1
      have y0 := HC7.out.cell (j := 0) rfl
      have y1 := HC7.out.cell (j := 1) rfl
      go_wp2_with (go_at_call 16; refine (HAL6.out _ HG7.out).mono ?_; rintro e w8 ⟨g8, c8, rfl, hg8, hgl8, ho8⟩; have HG8 := hid (HG7.out.trans hg8); have HO8 := hid ho8; have HB8 := hid (own_gr HB7.out hg8); clear hg8 hgl8 ho8)
      have HP8 := hid (HP6.out.1.gr HG8.out)
      obtain ⟨R, hR⟩ : ∃ R, R = x.rs.length := ⟨_, rfl⟩
      have HRE := hid hR
      have hR64 : R ≤ 64 := by rw [hR]; exact HLR.out
      have ho8 := HO8.out
      have hw8 := HP8.out.ws
      rw [← hR] at ho8 hw8
      have HO8' := hid ho8
      have HW8' := hid hw8
      clear ho8 hw8 y0 y1
      rw [← hR]
      clear hR
      go_loopw [118] (fun s118 wr => ∃ i : Nat, i ≤ R ∧ wr = w8 ∧ s118 = .int .i64 i) (fun s118 _ => R - (intOf s118).toNat)
      case atStart => exact ⟨0, Nat.zero_le _, rfl, rfl⟩
      case round =>
        obtain ⟨i, hi, hww, rfl⟩ := hrel
        have hww := hww.symm
        subst hww
        by_cases hlt : i < R
        · have hil : i < x.rs.length := by have := HRE.out; omega
          have k1 := own_cell HO8'.out (zs_at hil)
          have k2 := own_cell HW8'.out (zs_at hil)
          obtain ⟨y, hy⟩ : ∃ y, y = x.rs[i] := ⟨_, rfl⟩
          rw [← hy] at k1 k2
          have hiI : (i : Int) < (R : Int) := by omega
          have HLT := hid hlt
          clear hy hil hlt
          go_wp2
          go_round
          case rel => exact ⟨i + 1, HLT.out, trivial, by go_num⟩
          case measure => have := HLT.out; simp [intOf]; omega
        · have hiI : ¬ (i : Int) < (R : Int) := by omega
          clear hlt
          have hn1 : x.n ≠ 0 := by have := x.page_pos; unfold LaidC.n; omega
          obtain ⟨gB, cB', eB, -, -, -, hgB⟩ := own_form HB8.out hn1
          simp only [Value.slice.injEq] at eB
          obtain ⟨rfl, -, rfl⟩ := eB
          obtain ⟨gw, cw, ew, -, -, -, hgw⟩ := own_form HP8.out.wd hn1
          simp only [Value.slice.injEq] at ew
          obtain ⟨rfl, -, rfl⟩ := ew
          obtain ⟨nn, hnn⟩ : ∃ nn, nn = x.n := ⟨_, rfl⟩
          have HNN := hid hnn
          rw [← hnn] at hn11
          have HC8 := HP8.out.hb
          unfold heapL at HC8
          have hbB := HB8.out
          have hwd := HP8.out.wd
          unfold Wrds at hwd
          rw [← hnn] at HC8 hbB hwd
          have HC8 := hid HC8
          have HBB := hid hbB
          have HWD := hid hwd
          clear hbB hwd hn1 hgB hgw
          rw [← hnn]
          clear hnn
          go_wp2_with (fail)
          go_loopw [132] (fun s132 wx => ∃ i : Nat, i ≤ nn ∧ Hid (Gr w8 wx) ∧ s132 = .int .i64 i) (fun s132 _ => nn - (intOf s132).toNat)
          case atStart => exact ⟨0, Nat.zero_le _, ⟨Gr.refl _⟩, rfl⟩
          case round =>
            obtain ⟨i, hi, HGx, rfl⟩ := hrel
            by_cases hlt : i < nn
            · have k1 := own_cell (own_gr HBB.out HGx.out) (wrds_at u hlt)
              have k2 := own_cell (own_gr HWD.out HGx.out) (wrds_at u hlt)
              obtain ⟨y, hy⟩ : ∃ y, y = u.ldV (i : Int) := ⟨_, rfl⟩
              rw [← hy] at k1 k2
              have k9 := (HC8.out.gr HGx.out).cell (j := 9) rfl
              have hiI' : (i : Int) < (nn : Int) := by omega
              have HLT := hid hlt
              clear hy hlt
              go_upto_region 22 with (fail)
              obtain ⟨Sx, hSx⟩ : ∃ Sx : World → Prop, Sx = fun W' => W'.cell? ⟨gB, i, none⟩ = some (.int .u64 (y : Nat)) ∧ W'.cell? ⟨gw, i, none⟩ = some (.int .u64 (y : Nat)) ∧ W'.cell? ⟨hp, 9, none⟩ = some (.slice (some ⟨gw, 0, none⟩) nn c) := ⟨_, rfl⟩
              have x0 : ∀ p : Held Sx, p.w.cell? ⟨gB, i, none⟩ = some (.int .u64 (y : Nat)) := fun p => (Held.get hSx p).1
              have x1 : ∀ p : Held Sx, p.w.cell? ⟨gw, i, none⟩ = some (.int .u64 (y : Nat)) := fun p => (Held.get hSx p).2.1
              have x2 : ∀ p : Held Sx, p.w.cell? ⟨hp, 9, none⟩ = some (.slice (some ⟨gw, 0, none⟩) nn c) := fun p => (Held.get hSx p).2.2
              have hS0 : Sx wr.drew := by rw [hSx]; exact ⟨k1, k2, k9⟩
              have inst : Inhabited (Held Sx) := ⟨⟨_, hS0⟩⟩
              clear hSx
              refine wp_region_mixS Sx 12 [] [0, 1, 2, 3, 4, 5, 6, 7, 8, 9, 10, 11] (by kernel_rfl) (by kernel_rfl) hS0 ?_
              refine segs_end ?_
              simp only [opsAt, List.getElem?_cons_zero, List.getElem?_cons_succ]
              repeat (go_big_quiet_step (fail))
              refine wpQuiet_nil ?_
              refine NoPanic.normal ?_
              clear x0 x1 x2 hS0 inst
              clear Sx
              go_wp2
              go_round
              case rel => exact ⟨i + 1, HLT.out, ⟨HGx.out.drew⟩, by go_num⟩
              case measure => have := HLT.out; simp [intOf]; omega
            · have hiI' : ¬ (i : Int) < (nn : Int) := by omega
              have k0 := (HC8.out.gr HGx.out).cell (j := 0) rfl
              have k0l := (HC8.out.gr HGx.out).lt
              have HGW := hid (HP6.out.2.trans (HG8.out.trans HGx.out))
              have HUSx := hid (HUS6.out _ (HG8.out.trans HGx.out))
              clear hlt
              go_wp2_with (first
                | (go_at_call 20; refine HUSx.out.mono ?_; rintro e w9 ⟨rfl, rfl⟩)
                | (go_at_call 15; refine (lives25 (HGW.out.tab HT.out.lt HT.out)).mono ?_; rintro e w9 ⟨rfl, hg9⟩; have HG9 := hid hg9; clear hg9))
              go_ret
              exact ⟨rfl, HGW.out.trans HG9.out⟩
    · have d1 : decide ((rm : Int) < (us : Int) + (ps : Int)) = false := decide_eq_false (by omega)
      have HBIG := hid hb
      clear hb
      obtain ⟨Sx, hSx⟩ : ∃ Sx : World → Prop, Sx = fun W' => Gr w4 W' := ⟨_, rfl⟩
      have x0 : ∀ p : Held Sx, p.w.cell? ⟨hp, 0, none⟩ = some (.pointer (some ⟨q, 0, none⟩)) := fun p => (HC4.out.gr (Held.get hSx p)).cell (j := 0) rfl
      have x10 : ∀ p : Held Sx, p.w.cell? ⟨hp, 10, none⟩ = some (.int .i64 (x.page : Nat)) := fun p => (HC4.out.gr (Held.get hSx p)).cell (j := 10) rfl
      have HS : Hid (∀ W', Gr w4 W' → Sx W') := ⟨fun W' h => by rw [hSx]; exact h⟩
      have hS0 := HS.out _ (Gr.refl w4).drew
      have inst : Inhabited (Held Sx) := ⟨⟨_, hS0⟩⟩
      clear hSx
      refine wp_region_mixS Sx 18 [([0, 1, 2, 3, 4, 5, 6, 7, 8, 11, 12, 13, 14], 9), ([10], 15)] [16, 17] (by kernel_rfl) (by kernel_rfl) hS0 ?_
      refine segs_step ?_
      simp only [opsAt, List.getElem?_cons_zero, List.getElem?_cons_succ]
      repeat (go_big_quiet_step (fail))
      refine wpQuiet_nil ?_
      go_wp2_with (go_at_call 22; refine (HPG.out _).mono ?_; rintro e w5 ⟨rfl, rfl⟩)
      refine ⟨.inr (Held.of (HS.out _ (Gr.refl w4).drew)), ?_⟩
      refine segs_step ?_
      simp only [opsAt, List.getElem?_cons_zero, List.getElem?_cons_succ]
      repeat (go_big_quiet_step (fail))
      refine wpQuiet_nil ?_
      go_wp2_with (go_at_call 23; refine (HRM.out _ HG24.out.drew).mono ?_; rintro e w5 ⟨rfl, rfl⟩)
      refine ⟨.inr (Held.of (HS.out _ (Gr.refl w4).drew)), ?_⟩
      refine segs_end ?_
      simp only [opsAt, List.getElem?_cons_zero, List.getElem?_cons_succ]
      repeat (go_big_quiet_step (fail))
      refine wpQuiet_nil ?_
      refine NoPanic.normal ?_
      clear x0 x10 hS0 inst
      clear HS Sx
      have HG5 := hid ((Gr.refl w4).drew)
      obtain ⟨w5, hw5⟩ : ∃ w5, w5 = w4.drew := ⟨_, rfl⟩
      rw [← hw5] at HG5 ⊢
      clear hw5
      have HC5 := hid (HC4.out.gr HG5.out)
      go_upto_region 8 with (fail)
      have HT36 : Hid (∀ W W', Gr w3 W → Touch (fun b => b = g ∨ SV b) W W' → P25 W' x u hp q r gA cA A c ∧ Gr w W') := ⟨fun W W' hW t => by
        have hp3 : P25 W x u hp q r gA cA A c := ⟨(HRC.out.gr HG12.out).gr (HG3.out.trans hW), HWR2.out.gr (HG3.out.trans hW), own_gr HWS.out hW⟩
        refine ⟨hp3.touch t (fun h => ?_) (fun b hb h => ?_) (fun h => ?_), ?_⟩
        · rcases h with h | h
          · exact own_ne HRT.out.row HRC.out (by decide) rfl rfl h.symm
          · exact HSV.out.2.1 h
        · rcases h with h | h
          · exact words_ne HWR2.out HR2.out hb h
          · exact (HSV.out.2.2.2.2.2 b hb).2 h
        · have h1 := HGA.out
          have h2 := HG12.out.size
          rcases h with h | h
          · have := HRT.out.lt.2; omega
          · have := (HSV.out.1 _ h).2; omega
        · have t1 : Touch (fun b => b = g ∨ SV b) w W' := ((HG.out.trans (HG3.out.trans hW)).touch _).trans t
          refine (t1.mono (T := fun _ => False) (fun i hi h => ?_)).gr
          have hz := HGB.out.size
          rcases h with h | h
          · have := HSV.out.2.2.2.2.1.2.2; omega
          · have := (HSV.out.1 i h).1; omega⟩
      have HG35 := hid (HG4.out.trans HG5.out)
      have HRUN := hid (fun (W : World) (hW : Gr w2 W) => (cp24_run HRN.out (HV2.out.gr hW) (HR2.out.gr hW) HT.out (HG.out.trans hW) (fun i hi => by have := (HSV.out.1 i hi).1; have := HGB.out.size; omega) HSV.out.2.2.1 HSV.out.2.2.2.1).mono (fun e w' h => run25_ok HRN.out HM.out HU.out HUV.out (by rw [← HRME.out, ← HUE.out, ← HZE.out, ← HPE.out]; exact HBIG.out) h))
      unfold cfV at HRUN
      have HTE : Hid (((x.cf.to + sizes L : Nat) : Int) = (x.cf.to : Int) + (sz : Int)) := ⟨by rw [HZE.out]; push_cast; rfl⟩
      rw [HTE.out] at HRUN
      obtain ⟨Sx, hSx⟩ : ∃ Sx : World → Prop, Sx = fun W' => Rec W' hp 37 [.pointer (some ⟨q, 0, none⟩), .pointer (some ⟨r, 0, none⟩), .int .i64 x.cf.fr, .int .i64 x.cf.tp, .int .i64 x.cf.to, .int .i64 x.cf.lm, .int .i64 x.cf.bk, .int .i64 x.cf.st, .int .i64 x.cf.ah, .slice A x.n c, .int .i64 (x.page : Nat)] := ⟨_, rfl⟩
      have x0 : ∀ p : Held Sx, p.w.cell? ⟨hp, 0, none⟩ = some (.pointer (some ⟨q, 0, none⟩)) := fun p => (Held.get hSx p).cell (j := 0) rfl
      have x1 : ∀ p : Held Sx, p.w.cell? ⟨hp, 1, none⟩ = some (.pointer (some ⟨r, 0, none⟩)) := fun p => (Held.get hSx p).cell (j := 1) rfl
      have x2 : ∀ p : Held Sx, p.w.cell? ⟨hp, 2, none⟩ = some (.int .i64 x.cf.fr) := fun p => (Held.get hSx p).cell (j := 2) rfl
      have x3 : ∀ p : Held Sx, p.w.cell? ⟨hp, 3, none⟩ = some (.int .i64 x.cf.tp) := fun p => (Held.get hSx p).cell (j := 3) rfl
      have x4 : ∀ p : Held Sx, p.w.cell? ⟨hp, 4, none⟩ = some (.int .i64 x.cf.to) := fun p => (Held.get hSx p).cell (j := 4) rfl
      have x5 : ∀ p : Held Sx, p.w.cell? ⟨hp, 5, none⟩ = some (.int .i64 x.cf.lm) := fun p => (Held.get hSx p).cell (j := 5) rfl
      have x6 : ∀ p : Held Sx, p.w.cell? ⟨hp, 6, none⟩ = some (.int .i64 x.cf.bk) := fun p => (Held.get hSx p).cell (j := 6) rfl
      have x7 : ∀ p : Held Sx, p.w.cell? ⟨hp, 7, none⟩ = some (.int .i64 x.cf.st) := fun p => (Held.get hSx p).cell (j := 7) rfl
      have x8 : ∀ p : Held Sx, p.w.cell? ⟨hp, 8, none⟩ = some (.int .i64 x.cf.ah) := fun p => (Held.get hSx p).cell (j := 8) rfl
      have HS : Hid (∀ W', Rec W' hp 37 [.pointer (some ⟨q, 0, none⟩), .pointer (some ⟨r, 0, none⟩), .int .i64 x.cf.fr, .int .i64 x.cf.tp, .int .i64 x.cf.to, .int .i64 x.cf.lm, .int .i64 x.cf.bk, .int .i64 x.cf.st, .int .i64 x.cf.ah, .slice A x.n c, .int .i64 (x.page : Nat)] → Sx W') := ⟨fun W' h => by rw [hSx]; exact h⟩
      have hS0 := HS.out _ (HC5.out.gr (Gr.refl w5).drew)
      have inst : Inhabited (Held Sx) := ⟨⟨_, hS0⟩⟩
      clear hSx
      refine wp_region_mixS Sx 18 [([0, 1, 2, 3, 4, 5, 6, 7, 8, 9, 10, 11], 12)] [13, 14, 15, 16, 17] (by kernel_rfl) (by kernel_rfl) hS0 ?_
      refine segs_step ?_
      simp only [opsAt, List.getElem?_cons_zero, List.getElem?_cons_succ]
      repeat (go_big_quiet_step (fail))
      refine wpQuiet_nil ?_
      go_wp2_with (go_at_call 17; refine (HRUN.out _ (HG24.out.trans HG5.out).drew).mono ?_; rintro e w6 ⟨rfl, ht6, v6, S6, out, hv6, hn6, hu6, hr6, hol, hk6⟩; have HP6 := hid (HT36.out _ _ HG35.out.drew ht6); have HV6 := hid hv6; have HN6 := hid hn6; have HU6 := hid hu6; have HR6 := hid hr6; have HOL := hid hol; have HK6 := hid hk6; clear ht6 hv6 hn6 hu6 hr6 hol hk6)
      refine ⟨.inr (Held.of (HS.out _ HP6.out.1.hb)), ?_⟩
      refine segs_end ?_
      simp only [opsAt, List.getElem?_cons_zero, List.getElem?_cons_succ]
      repeat (go_big_quiet_step (fail))
      refine wpQuiet_nil ?_
      refine NoPanic.normal ?_
      clear x0 x1 x2 x3 x4 x5 x6 x7 x8 hS0 inst
      clear HS Sx
      have HC6 := hid HP6.out.1.hb
      unfold heapL at HC6
      have HLD := loaded25 HV6.out (by rw [HN6.out]; exact hn11)
      rw [HN6.out] at HLD
      have HLD := hid HLD
      have HUS6 := hid (fun (W : World) (g' : Gr w6 W) => vm_used (HV6.out.gr g'))
      rw [HU6.out, ← HZE.out, ← HPE.out] at HUS6
      have HAL6 := hid (fun (W : World) (g' : Gr w6 W) => rt_all (HR6.out.gr g'))
      rw [HOL.out] at HAL6
      have y0 := HC6.out.cell (j := 0) rfl
      have y9 := HC6.out.cell (j := 9) rfl
      go_upto_region 12 with (go_at_call 19; refine HLD.out.mono ?_; rintro e w7 ⟨B, cB, rfl, hg7, ho7⟩; have HG7 := hid hg7; have HB7 := hid ho7; have HC7 := hid (HC6.out.gr hg7); clear hg7 ho7)
      clear y0 y9
      have y9 := HC7.out.cell (j := 9) rfl
      have HP7 := hid (HP6.out.1.gr HG7.out)
      have HORD := hid (ref25_order (cr := cA) HU.out HP7.out.wd HP7.out.ints HLR.out HMU.out hn11)
      go_upto_region 27 with (go_at_call 24; refine HORD.out.mono ?_; rintro e w8 ⟨OA, oc, k', hk', rfl, hg8, hoi⟩; have HG8 := hid hg8; have HKE := hid hk'; have HOI := hid hoi; clear hg8 hk' hoi)
      clear y9
      obtain ⟨hrl2, hval, hout, hrow⟩ := HK6.out k' HKE.out
      obtain ⟨O, hOe⟩ : ∃ O, O = ordC u x.rs k' := ⟨_, rfl⟩
      rw [← hOe] at hrl2 hval hout hrow HOI
      rw [← hOe]
      have HROW := hid hrow
      have HP8 := hid (HP7.out.gr HG8.out)
      have hto : x.cf.to ≤ 4096 := by show x.page + 512 ≤ 4096; have := x.page_pos; omega
      have HWDS := ref25_words (cr := oc) HU.out (HP8.out.wd.gr (Gr.refl w8).drew) (fun i hi => by
        obtain ⟨b, o, e, hb, h0⟩ := HOI.out i hi
        exact ⟨b, o, e, Nat.lt_of_lt_of_le hb (Gr.refl w8).drew.size, ((Gr.refl w8).drew.cell hb _).trans h0⟩) HROW.out HMU.out hn11 x.cf.to hto
      have HWNT := hid (fun (W : World) (g' : Gr w8 W) (a : Int) => ref25_went (cr := oc) HU.out (HP8.out.wd.gr g') (fun i hi => by
        obtain ⟨b, o, e, hb, h0⟩ := HOI.out i hi
        exact ⟨b, o, e, Nat.lt_of_lt_of_le hb g'.size, (g'.cell hb _).trans h0⟩) HROW.out HMU.out hn11 x.cf.to hto a)
      obtain ⟨RW, hRW⟩ : ∃ RW, RW = rowC u O x.cf.to O := ⟨_, rfl⟩
      rw [← hRW] at HWDS hrl2 hval
      rw [hrl2, ← HZE.out] at HWDS
      have HWDS := hid HWDS
      have HVAL := hid hval
      have HOUT := hid hout
      have HRWL : Hid (RW.length = sz) := ⟨by rw [hrl2, HZE.out]⟩
      have HC8 := hid (HC7.out.gr HG8.out)
      have HTO2 : Hid (x.cf.to + sz ≤ x.n) := ⟨by show x.page + 512 + sz ≤ x.page + 1024; omega⟩
      clear hrl2 hval hout hrow hOe hRW HORD HK6
      obtain ⟨Sx, hSx⟩ : ∃ Sx : World → Prop, Sx = fun W' => Gr w8 W' := ⟨_, rfl⟩
      have x4 : ∀ p : Held Sx, p.w.cell? ⟨hp, 4, none⟩ = some (.int .i64 x.cf.to) := fun p => (HC8.out.gr (Held.get hSx p)).cell (j := 4) rfl
      have x9 : ∀ p : Held Sx, p.w.cell? ⟨hp, 9, none⟩ = some (.slice A x.n c) := fun p => (HC8.out.gr (Held.get hSx p)).cell (j := 9) rfl
      have HS : Hid (∀ W', Gr w8 W' → Sx W') := ⟨fun W' h => by rw [hSx]; exact h⟩
      have hS0 := HS.out _ (Gr.refl w8).drew
      have inst : Inhabited (Held Sx) := ⟨⟨_, hS0⟩⟩
      clear hSx
      refine wp_region_mixS Sx 12 [([0, 1, 2, 3, 4, 5, 6, 7, 8, 9], 10)] [11] (by kernel_rfl) (by kernel_rfl) hS0 ?_
      refine segs_step ?_
      simp only [opsAt, List.getElem?_cons_zero, List.getElem?_cons_succ]
      repeat (go_big_quiet_step (fail))
      refine wpQuiet_nil ?_
      go_wp2_with (go_at_call 25; refine HWDS.out.mono ?_; rintro e w9 ⟨WA, wc, rfl, hg9, how⟩; have HG9 := hid ((Gr.refl w8).drew.trans hg9); have HOW := hid how; clear hg9 how)
      refine ⟨.inr (Held.of (HS.out _ HG9.out)), ?_⟩
      refine segs_end ?_
      simp only [opsAt, List.getElem?_cons_zero, List.getElem?_cons_succ]
      repeat (go_big_quiet_step (fail))
      refine wpQuiet_nil ?_
      refine NoPanic.normal ?_
      clear x4 x9 hS0 inst
      clear HS Sx
      have HC9 := hid (HC8.out.gr HG9.out)
      have HG69 := hid ((HG7.out.trans HG8.out).trans HG9.out)
      have hq1 : (((x.cf.to : Int) + (sz : Int)) != (x.cf.to : Int) + (sz : Int)) = false := by simp
      go_upto_region 28 with (fail)
      obtain ⟨Sx, hSx⟩ : ∃ Sx : World → Prop, Sx = fun W' => Gr w9 W' := ⟨_, rfl⟩
      have x0 : ∀ p : Held Sx, p.w.cell? ⟨hp, 0, none⟩ = some (.pointer (some ⟨q, 0, none⟩)) := fun p => (HC9.out.gr (Held.get hSx p)).cell (j := 0) rfl
      have x4 : ∀ p : Held Sx, p.w.cell? ⟨hp, 4, none⟩ = some (.int .i64 x.cf.to) := fun p => (HC9.out.gr (Held.get hSx p)).cell (j := 4) rfl
      have x10 : ∀ p : Held Sx, p.w.cell? ⟨hp, 10, none⟩ = some (.int .i64 (x.page : Nat)) := fun p => (HC9.out.gr (Held.get hSx p)).cell (j := 10) rfl
      have HS : Hid (∀ W', Gr w9 W' → Sx W') := ⟨fun W' h => by rw [hSx]; exact h⟩
      have hS0 := HS.out _ (Gr.refl w9).drew
      have inst : Inhabited (Held Sx) := ⟨⟨_, hS0⟩⟩
      clear hSx
      refine wp_region_mixS Sx 30 [([0, 1, 2, 3, 4, 5, 6, 7, 8, 9, 10, 11, 12, 13, 14, 15, 16, 17, 18, 19, 20, 22, 23, 24, 25, 26], 21), ([], 27)] [28, 29] (by kernel_rfl) (by kernel_rfl) hS0 ?_
      refine segs_step ?_
      simp only [opsAt, List.getElem?_cons_zero, List.getElem?_cons_succ]
      repeat (go_big_quiet_step (fail))
      refine wpQuiet_nil ?_
      go_wp2_with (go_at_call 20; refine (HUS6.out _ HG69.out.drew).mono ?_; rintro e w10 ⟨rfl, rfl⟩)
      refine ⟨.inr (Held.of (HS.out _ (Gr.refl w9).drew)), ?_⟩
      refine segs_step ?_
      simp only [opsAt, List.getElem?_cons_zero, List.getElem?_cons_succ]
      refine wpQuiet_nil ?_
      go_wp2_with (go_at_call 22; refine (HPG.out _).mono ?_; rintro e w10 ⟨rfl, rfl⟩)
      refine ⟨.inr (Held.of (HS.out _ (Gr.refl w9).drew)), ?_⟩
      refine segs_end ?_
      simp only [opsAt, List.getElem?_cons_zero, List.getElem?_cons_succ]
      repeat (go_big_quiet_step (fail))
      refine wpQuiet_nil ?_
      refine NoPanic.normal ?_
      clear x0 x4 x10 hS0 inst
      clear HS Sx
      obtain ⟨w10, hw10⟩ : ∃ w10, w10 = w9.drew := ⟨_, rfl⟩
      have HGA : Hid (Gr w9 w10) := ⟨by rw [hw10]; exact (Gr.refl w9).drew⟩
      rw [← hw10]
      clear hw10 hq1
      have HP10 := hid (HP8.out.gr (HG9.out.trans HGA.out))
      have HC10 := hid (HC9.out.gr HGA.out)
      have HB10 := hid (own_gr HB7.out (HG8.out.trans (HG9.out.trans HGA.out)))
      have HW10 := hid (own_gr HOW.out HGA.out)
      have HAL10 := hid (HAL6.out _ (HG69.out.trans HGA.out))
      obtain ⟨tt, htt⟩ : ∃ t, t = x.cf.to := ⟨_, rfl⟩
      have HTT := hid htt
      obtain ⟨nn, hnn⟩ : ∃ n, n = x.n := ⟨_, rfl⟩
      have HNN := hid hnn
      obtain ⟨R, hR⟩ : ∃ R, R = x.rs.length := ⟨_, rfl⟩
      have HRE := hid hR
      have hR64 : R ≤ 64 := by rw [hR]; exact HLR.out
      have hn11' : nn ≤ 1100 := by rw [hnn]; exact hn11
      have htn : tt + sz ≤ nn := by rw [htt, hnn]; exact HTO2.out
      have hws := HP10.out.ws
      have hwd := HP10.out.wd
      have hc10 := HC10.out
      have hb10 := HB10.out
      rw [← hR] at hws HAL10
      rw [← htt, ← hnn] at hc10
      rw [← hnn] at hb10
      unfold Wrds at hwd
      rw [← hnn] at hwd
      have HWS2 := hid hws
      have HC10 := hid hc10
      have HB10 := hid hb10
      have hval := HVAL.out
      rw [← HZE.out, ← htt] at hval
      have HVAL2 := hid hval
      have HWN2 : Hid (∀ W, Gr w10 W → ∀ a : Int, Calls Tryz.prog 26 #[.slice A nn c, .slice OA O.length oc, .int .i64 tt, .int .i64 a] W fun e w' => e = .returned (.int .i64 (wentC u O tt a)) ∧ Gr W w') := ⟨fun W g' a => by rw [hnn, htt]; exact HWNT.out W (HG9.out.trans (HGA.out.trans g')) a⟩
      have hout := HOUT.out
      rw [← htt] at hout
      have HOUT2 := hid hout
      rw [← htt, ← hnn, ← hR]
      clear htt hnn hR hws hwd hc10 hb10 hval hout hn11
      go_wp2_with (fail)
      go_loopw [211] (fun s211 wr => ∃ i : Nat, i ≤ sz ∧ wr = w10 ∧ s211 = .int .i64 i) (fun s211 _ => sz - (intOf s211).toNat)
      case atStart => exact ⟨0, Nat.zero_le _, rfl, rfl⟩
      case round =>
        obtain ⟨i, hi, hww, rfl⟩ := hrel
        have hww := hww.symm
        subst hww
        by_cases hlt : i < sz
        · have hil : i < RW.length := by rw [HRWL.out]; exact hlt
          have hev : v6.ldV ((tt + i : Nat) : Int) = RW[i] := by
            rw [HVAL2.out i hlt, List.getD_eq_getElem?_getD, List.getElem?_eq_getElem hil]; rfl
          have htn2 : tt + i < nn := by omega
          obtain ⟨gB, cB', eB, -, -, -, hgB⟩ := own_form HB10.out (by omega)
          simp only [Value.slice.injEq] at eB
          obtain ⟨rfl, -, rfl⟩ := eB
          obtain ⟨gW, cW', eW, -, -, -, hgW⟩ := own_form HW10.out (by omega)
          simp only [Value.slice.injEq] at eW
          obtain ⟨rfl, -, rfl⟩ := eW
          have k1 := own_cell HB10.out (wrds_at v6 htn2)
          have k2 := own_cell HW10.out (j := i) (u := .int .u64 ((RW[i] : Nat) : Int)) (us_at hil)
          rw [hev] at k1
          obtain ⟨y, hy⟩ : ∃ y, y = RW[i] := ⟨_, rfl⟩
          rw [← hy] at k1 k2
          have k4 := HC10.out.cell (j := 4) rfl
          have hiI : (i : Int) < (sz : Int) := by omega
          have hix : (tt : Int) + (i : Int) < (nn : Int) := by omega
          have hi0 : (0 : Int) ≤ (tt : Int) + (i : Int) := by omega
          have hiN : ((tt : Int) + (i : Int)).toNat = tt + i := by omega
          have hws : IntKind.i64.wrap ((tt : Int) + (i : Int)) = (tt : Int) + (i : Int) := IntWalk.i64_in _ (by omega)
          have HLT := hid hlt
          clear hy hev hil hlt hgB hgW
          go_wp2
          go_round
          case rel => exact ⟨i + 1, HLT.out, trivial, by go_num⟩
          case measure => have := HLT.out; simp [intOf]; omega
        · have hiI : ¬ (i : Int) < (sz : Int) := by omega
          have k1 := HC10.out.cell (j := 1) rfl
          clear hlt
          go_wp2_with (go_at_call 16; refine HAL10.out.mono ?_; rintro e w11 ⟨g11, c11, rfl, hg11, hgl11, ho11⟩; have HG11 := hid hg11; have HO11 := hid ho11; clear hg11 hgl11 ho11)
          clear k1
          go_loopw [235] (fun s235 wr => ∃ i : Nat, i ≤ R ∧ Hid (Gr w11 wr) ∧ s235 = .int .i64 i) (fun s235 _ => R - (intOf s235).toNat)
          case atStart => exact ⟨0, Nat.zero_le _, ⟨Gr.refl _⟩, rfl⟩
          case round =>
            obtain ⟨i, hi, HGx, rfl⟩ := hrel
            have HG1x := hid (HG11.out.trans HGx.out)
            by_cases hlt : i < R
            · have hil : i < x.rs.length := by have := HRE.out; omega
              have hio : i < out.length := by rw [HOL.out]; exact hil
              have ht : out[i] = wentC u O tt x.rs[i] := by
                have e : out[i]? = some (wentC u O tt x.rs[i]) := by rw [HOUT2.out, List.getElem?_map, List.getElem?_eq_getElem hil]; rfl
                exact Option.some.inj ((List.getElem?_eq_getElem hio).symm.trans e)
              have k1 := own_cell (own_gr HO11.out HGx.out) (zs_at hio)
              have k2 := own_cell (own_gr HWS2.out HG1x.out) (zs_at hil)
              have HWNx := hid (HWN2.out _ HG1x.out.drew x.rs[i])
              rw [← ht] at HWNx
              obtain ⟨y, hy⟩ : ∃ y, y = out[i] := ⟨_, rfl⟩
              obtain ⟨a, ha⟩ : ∃ a, a = x.rs[i] := ⟨_, rfl⟩
              rw [← hy] at k1 HWNx
              rw [← ha] at k2 HWNx
              have k9 := (HC10.out.gr HG1x.out).cell (j := 9) rfl
              have k4 := (HC10.out.gr HG1x.out).cell (j := 4) rfl
              have HCx := hid (HC10.out.gr HG1x.out)
              have hgal := (own_lt (own_gr HWS2.out HG1x.out) (g := gA) rfl).2
              have hiI' : (i : Int) < (R : Int) := by omega
              have HLT := hid hlt
              clear hy ha ht hil hio hlt
              go_upto_region 39 with (fail)
              obtain ⟨Sx, hSx⟩ : ∃ Sx : World → Prop, Sx = fun W' => Gr wr W' := ⟨_, rfl⟩
              have x9 : ∀ p : Held Sx, p.w.cell? ⟨hp, 9, none⟩ = some (.slice A nn c) := fun p => (HCx.out.gr (Held.get hSx p)).cell (j := 9) rfl
              have x4 : ∀ p : Held Sx, p.w.cell? ⟨hp, 4, none⟩ = some (.int .i64 tt) := fun p => (HCx.out.gr (Held.get hSx p)).cell (j := 4) rfl
              have x2 : ∀ p : Held Sx, p.w.cell? ⟨gA, i, none⟩ = some (.int .i64 a) := fun p => ((Held.get hSx p).cell hgal i).trans k2
              have HS : Hid (∀ W', Gr wr W' → Sx W') := ⟨fun W' h => by rw [hSx]; exact h⟩
              have hS0 := HS.out _ (Gr.refl wr).drew
              have inst : Inhabited (Held Sx) := ⟨⟨_, hS0⟩⟩
              clear hSx
              refine wp_region_mixS Sx 17 [([0, 1, 2, 3, 4, 5, 6, 7, 8, 9, 10, 11, 12, 13, 14], 15)] [16] (by kernel_rfl) (by kernel_rfl) hS0 ?_
              refine segs_step ?_
              simp only [opsAt, List.getElem?_cons_zero, List.getElem?_cons_succ]
              repeat (go_big_quiet_step (fail))
              refine wpQuiet_nil ?_
              go_wp2_with (go_at_call 26; refine HWNx.out.mono ?_; rintro e w12 ⟨rfl, hg12⟩; have HG12x := hid ((Gr.refl wr).drew.trans hg12); clear hg12)
              refine ⟨.inr (Held.of (HS.out _ HG12x.out)), ?_⟩
              refine segs_end ?_
              simp only [opsAt, List.getElem?_cons_zero, List.getElem?_cons_succ]
              repeat (go_big_quiet_step (fail))
              refine wpQuiet_nil ?_
              refine NoPanic.normal ?_
              clear x9 x4 x2 hS0 inst
              clear HS Sx
              go_wp2
              go_round
              case rel => exact ⟨i + 1, HLT.out, ⟨HGx.out.trans HG12x.out⟩, by go_num⟩
              case measure => have := HLT.out; simp [intOf]; omega
            · have hiI' : ¬ (i : Int) < (R : Int) := by omega
              have HGW := hid (HP6.out.2.trans (HG69.out.trans (HGA.out.trans HG1x.out)))
              clear hlt
              go_wp2_with (go_at_call 15; refine (lives25 (HGW.out.tab HT.out.lt HT.out)).mono ?_; rintro e w9 ⟨rfl, hg9⟩; have HG9x := hid hg9; clear hg9)
              go_ret
              exact ⟨rfl, HGW.out.trans HG9x.out⟩
end
end Go.Proofs.YtbmidhlilafgeaaGreatDoor
