/- Part 11 of what PackingPlays leans on: my own lemmas, merged by shake.py. -/
import Derived.Test.YtbmidhlilafgeaaGreatDoorPackingPlaysJ
section
namespace Go.Proofs.YtbmidhlilafgeaaGreatDoor
open Go.RowKit Word

section
variable {w : World}
set_option maxRecDepth 100000 in
set_option maxHeartbeats 12800000 in
theorem plays26_walkB (hT : TabAt w) {A1 A2 A3 : Option Addr} {c1 c2 c3 : Nat} {x : LaidC} (hL : LaidCAt w A1 A2 A3 x) (fr tp root : Int) (hr0 : root < 0) :
    Gets Tryz.prog 8 #[.agg (laidV x A1 A2 A3 c1 c2 c3).toArray, .agg #[.int .i64 fr, .int .i64 tp], .int .i64 root] w (.bool true) := by
  have HT := hid hT
  have HGB := hid (((Gr.refl w).alloc (.cells (laidV x A1 A2 A3 c1 c2 c3).toArray 25)).alloc (.cells #[.int .i64 fr, .int .i64 tp] 57))
  have hrb := (Rec.new w 25 (laidV x A1 A2 A3 c1 c2 c3)).gr ((Gr.refl _).alloc (.cells #[.int .i64 fr, .int .i64 tp] 57))
  have hrun := new2 w (.cells (laidV x A1 A2 A3 c1 c2 c3).toArray 25) 57 [.int .i64 fr, .int .i64 tp]
  obtain ⟨W1, hW1⟩ : ∃ W1, W1 = (w.alloc (.cells (laidV x A1 A2 A3 c1 c2 c3).toArray 25)).alloc (.cells #[.int .i64 fr, .int .i64 tp] 57) := ⟨_, rfl⟩
  rw [← hW1] at hrb HGB
  rw [show (w.alloc (.cells (laidV x A1 A2 A3 c1 c2 c3).toArray 25)).alloc (.cells ([.int .i64 fr, .int .i64 tp] : List Value).toArray 57) = W1 from hW1.symm] at hrun
  have HLY := hid (lay24_walk (c1 := c1) (c2 := c2) (c3 := c3) (hL.gr HGB.out) (more := 0) (by omega))
  have HFAR := hid (fun W => far24 (.int .u8 x.pg) (.int .u8 x.bk) (.int .u8 x.st) (.int .u8 x.ah) A1 A2 A3 x.H.length x.P.length x.R.length c1 c2 c3 W)
  unfold laidV at hW1 hrb HLY ⊢
  have HRB := hid hrb
  have HRUNB := hid hrun
  have z0 := hrb.cell (j := 0) rfl
  have z1 := hrb.cell (j := 1) rfl
  have z2 := hrb.cell (j := 2) rfl
  have z3 := hrb.cell (j := 3) rfl
  have z4 := hrb.cell (j := 4) rfl
  have z5 := hrb.cell (j := 5) rfl
  have z6 := hrb.cell (j := 6) rfl
  have zl := hrb.lt
  obtain ⟨fb, hfb⟩ : ∃ b, b = farC x.H.length x.P.length x.R.length := ⟨_, rfl⟩
  rw [← hfb] at HFAR
  clear hT hL hrb hfb hrun
  obtain ⟨N1, hN1⟩ : ∃ N, N = x.H.length := ⟨_, rfl⟩
  obtain ⟨N2, hN2⟩ : ∃ N, N = x.P.length := ⟨_, rfl⟩
  obtain ⟨N3, hN3⟩ : ∃ N, N = x.R.length := ⟨_, rfl⟩
  rw [← hN1, ← hN2, ← hN3] at HLY HFAR HRB
  rw [← hN1, ← hN2, ← hN3]
  rw [← hN1] at z1 hW1
  rw [← hN2] at z2 hW1
  rw [← hN3] at z3 hW1
  clear hN1 hN2 hN3
  unfold Gets
  go_enter Tryz.func8, Tryz.ntmps8
  go_upto_region 1 with (fail)
  rw [show (w.alloc (.cells #[.int .u8 x.pg, .slice A1 N1 c1, .slice A2 N2 c2, .slice A3 N3 c3, .int .u8 x.bk, .int .u8 x.st, .int .u8 x.ah] 25)).alloc (.cells #[.int .i64 fr, .int .i64 tp] 57) = W1 from hW1.symm]
  clear hW1
  go_upto_region 2 with (go_at_call 13; refine HLY.out.mono ?_; rintro e w1 ⟨hp, q, r, g, A, c, v0, SV, rfl, hg1, hrn, hz0, hvm, hrt, hrec, hwr, hsv, hs1, hs2, hs3, hs4, hs5⟩; have HG := hid (HGB.out.trans hg1); have HV := hid hvm; have HRN := hid hrn; have HRT := hid hrt; have HRC := hid hrec; have HWR := hid hwr; have HZ0 := hid hz0; have HSV := hid (And.intro hsv (And.intro hs1 (And.intro hs2 (And.intro hs3 (And.intro hs4 hs5))))); have HB1 := hid (HRB.out.gr hg1); have HRB1 := hid (HRUNB.out.gr hg1); clear hg1 hrn hz0 hvm hrt hrec hwr hsv hs1 hs2 hs3 hs4 hs5)
  clear z0 z1 z2 z3 z4 z5 z6 zl
  have z0 := HB1.out.cell (j := 0) rfl
  have z1 := HB1.out.cell (j := 1) rfl
  have z2 := HB1.out.cell (j := 2) rfl
  have z3 := HB1.out.cell (j := 3) rfl
  have z4 := HB1.out.cell (j := 4) rfl
  have z5 := HB1.out.cell (j := 5) rfl
  have z6 := HB1.out.cell (j := 6) rfl
  have zl := HB1.out.lt
  cases fb with
  | true =>
    go_wp2_with (first
      | (go_at_call 14; refine (HFAR.out _).mono ?_; rintro e w2 ⟨rfl, hg2⟩; have HG := hid (HG.out.trans hg2); have HB1 := hid (HB1.out.gr hg2); have z0 := HB1.out.cell (j := 0) rfl; have z1 := HB1.out.cell (j := 1) rfl; have z2 := HB1.out.cell (j := 2) rfl; have z3 := HB1.out.cell (j := 3) rfl; have z4 := HB1.out.cell (j := 4) rfl; have z5 := HB1.out.cell (j := 5) rfl; have z6 := HB1.out.cell (j := 6) rfl; have zl := HB1.out.lt; clear hg2)
      | (go_at_call 27; refine (lives26 (HG.out.tab HT.out.lt HT.out)).mono ?_; rintro e w4 ⟨rfl, hg4⟩; have HG := hid (HG.out.trans hg4); clear hg4))
    go_ret
    exact ⟨rfl, HG.out⟩
  | false =>
    go_upto_region 4 with (go_at_call 14; refine (HFAR.out _).mono ?_; rintro e w2 ⟨rfl, hg2⟩; have HG := hid (HG.out.trans hg2); have HG12 := hid hg2; have HRB2 := hid (HRB1.out.gr hg2); clear hg2)
    clear z0 z1 z2 z3 z4 z5 z6 zl
    have hst := Stays.layC HRN.out.ok x
    have hs := HRN.out.stays hst
    have hLI := laid_in (x := x) HRN.out.ok HRN.out.map
    obtain ⟨L, hM⟩ := hLI.ex HRN.out.map
    obtain ⟨u, hu, huv⟩ := ghost (n := x.n) (f := fun a => (layC x v0).ldV a) (by have := x.page_pos; unfold LaidC.n; omega) (by have := x.page_pos; unfold LaidC.n; omega) (fun a => hs.ok.ldV_lt _)
    have hwu : Wider (layC x v0) u := ghost_wider hu hs.n huv
    have HMU := hid (hwu.marks hM)
    have HM := hid hM
    have HU := hid hu
    have HUV := hid huv
    have hmk := hLI.marks HRN.out.map hM
    have HSZ : Hid (sizes L ≤ 512) := ⟨hmk.2.1⟩
    have hn11 : x.n ≤ 1100 := by have := x.page_pos; unfold LaidC.n; omega
    have HWR2 : Hid (Wrds w2 A c x.n u) := ⟨by have := HWR.out.gr HG12.out; unfold Wrds at this ⊢; rwa [wrds_congr huv]⟩
    have HC2 := hid (HRC.out.gr HG12.out)
    unfold heapL at HC2
    have HV2 := hid (HV.out.gr HG12.out)
    have HR2 := hid (HRT.out.gr HG12.out)
    have HZA : Hid (∀ a : Nat, v0.ldV a = 0) := ⟨fun a => by
      rcases Nat.lt_or_ge a x.n with h | h
      · exact HZ0.out a h
      · unfold Vm.ldV
        rw [if_neg]
        unfold Vm.ldE
        rw [if_neg (by rw [HRN.out.n]; omega)]
        decide⟩
    have HP2 : Hid (P26 w w2 x v0 u hp q r g A c SV x.rs) := ⟨⟨HG.out, HRC.out.gr HG12.out, HWR2.out, HV2.out, HR2.out, rfl⟩⟩
    have HFZ : Hid (∀ W W', P26 w W x v0 u hp q r g A c SV x.rs → ∀ rs', rs'.length = x.rs.length → Touch (fun k => k = g) W W' → RtAt W' r g rs' → P26 w W' x v0 u hp q r g A c SV rs') := ⟨fun W W' h rs' hl t hr' => by
      refine ⟨((h.gr.touch _).trans t |>.mono (T := fun _ => False) (fun i hi h' => ?_)).gr, h.hb.touch t (fun h' => ?_), own_touch h.wd t (fun b hb h' => ?_), h.vm.touch t (fun b hb _ h' => ?_), hr', hl⟩
      · have h1 : i = g := h'
        have := HSV.out.2.2.2.2.1.2.2
        have := HGB.out.size
        omega
      · exact own_ne HRT.out.row HRC.out (by decide) rfl rfl h'.symm
      · exact words_ne HWR2.out HR2.out hb h'
      · exact HSV.out.2.2.2.1 (h' ▸ hb)⟩
    have hst1 : x.rs.length ≠ 0 := fun e => HRT.out.ne (List.eq_nil_of_length_eq_zero e)
    clear hst hs hLI hM hu huv hwu hmk
    have d0 : decide (0 ≤ root) = false := decide_eq_false (by omega)
    have d1 : decide (root < 0) = true := decide_eq_true hr0
    have q0 := HRB2.out.cell (j := 0) rfl
    have q1 := HRB2.out.cell (j := 1) rfl
    go_upto_region 6 with (fail)
    obtain ⟨Sx, hSx⟩ : ∃ Sx : World → Prop, Sx = fun W' => W'.cell? ⟨w.heap.size + 1, 0, none⟩ = some (.int .i64 fr) ∧ W'.cell? ⟨w.heap.size + 1, 1, none⟩ = some (.int .i64 tp) := ⟨_, rfl⟩
    have x1 : ∀ p : Held Sx, p.w.cell? ⟨w.heap.size + 1, 0, none⟩ = some (.int .i64 fr) := fun p => by have h := Held.get hSx p; exact h.1
    have x2 : ∀ p : Held Sx, p.w.cell? ⟨w.heap.size + 1, 1, none⟩ = some (.int .i64 tp) := fun p => by have h := Held.get hSx p; exact h.2
    have HS : Hid (∀ W', W'.cell? ⟨w.heap.size + 1, 0, none⟩ = some (.int .i64 fr) ∧ W'.cell? ⟨w.heap.size + 1, 1, none⟩ = some (.int .i64 tp) → Sx W') := ⟨fun W' h => by rw [hSx]; exact h⟩
    have hS0 := HS.out (w2.drew) (⟨q0, q1⟩)
    have inst : Inhabited (Held Sx) := ⟨⟨_, hS0⟩⟩
    clear hSx
    refine wp_region_mixS Sx 6 [] [0, 1, 2, 3, 4, 5] (by kernel_rfl) (by kernel_rfl) hS0 ?_
    refine segs_end ?_
    try simp only [opsAt, List.getElem?_cons_zero, List.getElem?_cons_succ]
    repeat (go_big_quiet_step (fail))
    refine wpQuiet_nil ?_
    refine NoPanic.normal ?_
    clear x1 x2 hS0 inst
    clear HS Sx
    clear q0 q1
    go_upto_region 8 with (fail)
    obtain ⟨Sx, hSx⟩ : ∃ Sx : World → Prop, Sx = fun W' => Gr w2 W' := ⟨_, rfl⟩
    have x1 : ∀ p : Held Sx, p.w.cell? ⟨hp, 2, none⟩ = some (.int .i64 x.cf.fr) := fun p => by have h := Held.get hSx p; exact (HC2.out.gr h).cell (j := 2) rfl
    have x2 : ∀ p : Held Sx, p.w.cell? ⟨hp, 3, none⟩ = some (.int .i64 x.cf.tp) := fun p => by have h := Held.get hSx p; exact (HC2.out.gr h).cell (j := 3) rfl
    have HS : Hid (∀ W', Gr w2 W' → Sx W') := ⟨fun W' h => by rw [hSx]; exact h⟩
    have hS0 := HS.out _ ((Gr.refl w2).drew.drew)
    have inst : Inhabited (Held Sx) := ⟨⟨_, hS0⟩⟩
    clear hSx
    refine wp_region_mixS Sx 12 [] [0, 1, 2, 3, 4, 5, 6, 7, 8, 9, 10, 11] (by kernel_rfl) (by kernel_rfl) hS0 ?_
    refine segs_end ?_
    try simp only [opsAt, List.getElem?_cons_zero, List.getElem?_cons_succ]
    repeat (go_big_quiet_step (fail))
    refine wpQuiet_nil ?_
    refine NoPanic.normal ?_
    clear x1 x2 hS0 inst
    clear HS Sx
    go_upto_region 9 with (fail)
    obtain ⟨w3', hw3⟩ : ∃ w3', w3' = w2.drew.drew := ⟨_, rfl⟩
    have HP : Hid (P26 w w3' x v0 u hp q r g A c SV x.rs) := ⟨by rw [hw3]; exact ⟨HP2.out.gr.drew.drew, HP2.out.hb.gr (Gr.refl _).drew.drew, HP2.out.wd.gr (Gr.refl _).drew.drew, HP2.out.vm.gr (Gr.refl _).drew.drew, HP2.out.rt.gr (Gr.refl _).drew.drew, HP2.out.ln⟩⟩
    have HZ23 : Hid (w2.heap.size ≤ w3'.heap.size) := ⟨by rw [hw3]; exact Nat.le_refl _⟩
    rw [← hw3]
    clear hw3 hr0 d0 d1
    obtain ⟨rs, hrs⟩ : ∃ rs, rs = x.rs := ⟨_, rfl⟩
    rw [← hrs] at HP
    obtain ⟨F, hF⟩ : ∃ F : Int, F = x.cf.fr := ⟨_, rfl⟩
    obtain ⟨T, hT⟩ : ∃ T : Int, T = x.cf.tp := ⟨_, rfl⟩
    rw [← hF, ← hT]
    clear hrs hF hT HFZ HP2
    have hb3 := HP.out.hb
    unfold heapL at hb3
    have HC3 := hid hb3
    have HALL := hid (fun (W : World) (g' : Gr w3' W) => rt_all (HP.out.rt.gr g'))
    have HUS := hid (fun (W : World) (g' : Gr w3' W) => vm_used (HP.out.vm.gr g'))
    obtain ⟨us, hus⟩ : ∃ us, us = (layC x v0).pl.used := ⟨_, rfl⟩
    have HUE := hid hus
    rw [← hus] at HUS
    have hrl3 : rs.length ≤ 64 := HP.out.rt.le
    have HLR3 := hid hrl3
    clear hb3 hus
    obtain ⟨Sx, hSx⟩ : ∃ Sx : World → Prop, Sx = fun W' => Gr w3' W' := ⟨_, rfl⟩
    have x0 : ∀ p : Held Sx, p.w.cell? ⟨hp, 0, none⟩ = some (.pointer (some ⟨q, 0, none⟩)) := fun p => by have h := Held.get hSx p; exact (HC3.out.gr h).cell (j := 0) rfl
    have x1 : ∀ p : Held Sx, p.w.cell? ⟨hp, 1, none⟩ = some (.pointer (some ⟨r, 0, none⟩)) := fun p => by have h := Held.get hSx p; exact (HC3.out.gr h).cell (j := 1) rfl
    have HS : Hid (∀ W', Gr w3' W' → Sx W') := ⟨fun W' h => by rw [hSx]; exact h⟩
    have hS0 := HS.out _ ((Gr.refl w3').drew)
    have inst : Inhabited (Held Sx) := ⟨⟨_, hS0⟩⟩
    clear hSx
    refine wp_region_mixS Sx 12 [([0, 1, 2, 3, 5, 6, 7, 8], 4), ([], 9)] [10, 11] (by kernel_rfl) (by kernel_rfl) hS0 ?_
    refine segs_step ?_
    try simp only [opsAt, List.getElem?_cons_zero, List.getElem?_cons_succ]
    repeat (go_big_quiet_step (fail))
    refine wpQuiet_nil ?_
    go_wp2_with ((go_at_call 16; refine (HALL.out _ (Gr.refl w3').drew).mono ?_; rintro e w4 ⟨gA, cA, rfl, hg4, hgl4, ho4⟩; have HG4 := hid ((Gr.refl w3').drew.trans hg4); have HWS := hid ho4; have HGA : Hid (w3'.heap.size ≤ gA) := ⟨hgl4⟩; clear hg4 hgl4 ho4))
    refine ⟨.inr (Held.of (HS.out _ (HG4.out))), ?_⟩
    refine segs_step ?_
    try simp only [opsAt, List.getElem?_cons_zero, List.getElem?_cons_succ]
    repeat (go_big_quiet_step (fail))
    refine wpQuiet_nil ?_
    go_wp2_with ((go_at_call 20; refine (HUS.out _ HG4.out).mono ?_; rintro e w5 ⟨rfl, rfl⟩))
    refine ⟨.inr (Held.of (HS.out _ (HG4.out))), ?_⟩
    refine segs_end ?_
    try simp only [opsAt, List.getElem?_cons_zero, List.getElem?_cons_succ]
    repeat (go_big_quiet_step (fail))
    refine wpQuiet_nil ?_
    refine NoPanic.normal ?_
    clear x0 x1 hS0 inst
    clear HS Sx
    go_upto_region 10 with (fail)
    have HT46 : Hid (∀ W W', Gr w4 W → Touch (fun b => b = g ∨ SV b) W W' → Rec W' hp 37 (heapL x q r (.slice A x.n c)) ∧ Wrds W' A c x.n u ∧ W'.ownsRow 0 3 1 (.slice (some ⟨gA, 0, none⟩) rs.length cA) rs.length (zs rs) ∧ Gr w W') := ⟨fun W W' hW t => by
      have hz2 := HG12.out.size
      have hzg := HGB.out.size
      have hz3 : w2.heap.size ≤ w3'.heap.size := HZ23.out
      refine ⟨((HP.out.hb.gr HG4.out).gr hW).touch t (fun h => ?_), own_touch ((HP.out.wd.gr HG4.out).gr hW) t (fun b hb h => ?_), own_touch (own_gr HWS.out hW) t (fun b hb h => ?_), ?_⟩
      · rcases h with h | h
        · exact own_ne HRT.out.row HRC.out (by decide) rfl rfl h.symm
        · exact HSV.out.2.1 h
      · rcases h with h | h
        · exact words_ne HWR2.out HR2.out hb h
        · exact (HSV.out.2.2.2.2.2 b hb).2 h
      · have h1 : b = gA := (Option.some.inj hb).symm
        have h2 := HGA.out
        have h3 : w3'.drew.heap.size = w3'.heap.size := rfl
        rcases h with h | h
        · have := HRT.out.lt.2; omega
        · have := (HSV.out.1 b h).2; omega
      · have t1 : Touch (fun b => b = g ∨ SV b) w W' := ((HP.out.gr.trans (HG4.out.trans hW)).touch _).trans t
        refine (t1.mono (T := fun _ => False) (fun i hi h => ?_)).gr
        rcases h with h | h
        · have := HSV.out.2.2.2.2.1.2.2; omega
        · have := (HSV.out.1 i h).1; omega⟩
    have hs := HRN.out.stays (Stays.layC HRN.out.ok x)
    have HCHK := hid (fun (W : World) (hW : Gr w4 W) => ref26_check (cr := cA) HU.out ((HP.out.wd.gr HG4.out).gr hW) (own_ints (own_gr HWS.out hW) rfl) HLR3.out hn11 F T (x.cf.st : Nat))
    have HRUN := hid (fun (W : World) (hW : Gr w4 W) => pk24_run HRN.out ((HP.out.vm.gr HG4.out).gr hW) ((HP.out.rt.gr HG4.out).gr hW) HT.out ((HP.out.gr.trans HG4.out).trans hW) (fun i hi => by have := (HSV.out.1 i hi).1; have := HGB.out.size; omega) HSV.out.2.2.1 HSV.out.2.2.2.1 F T (x.cf.st : Nat))
    have HC4 := hid (HC3.out.gr HG4.out)
    obtain ⟨R, hR⟩ : ∃ R, R = rs.length := ⟨_, rfl⟩
    have HRE := hid hR
    have hR64 : R ≤ 64 := by rw [hR]; exact HLR3.out
    have hws := HWS.out
    rw [← hR] at HCHK hws HT46
    rw [← hR]
    have HWS2 := hid hws
    clear hR hws
    by_cases hok : pkArg x.n F T (x.cf.st : Nat) = true ∧ ∃ L, PkIn u rs F T L
    · as_aux_lemma =>
      obtain ⟨hag, K, hIu⟩ := hok
      have hIv := (pkIn_iff HRN.out HZA.out HU.out HUV.out).1 hIu
      obtain ⟨g1, g2, g3, g4, g5⟩ := pkArg_true.1 hag
      obtain ⟨f, hf⟩ : ∃ f : Nat, F = f := ⟨F.toNat, by omega⟩
      obtain ⟨t, ht⟩ : ∃ t : Nat, T = t := ⟨T.toNat, by omega⟩
      subst hf
      subst ht
      obtain ⟨hnd, hft⟩ := need26 HRN.out (by omega) HZA.out (by omega) (by omega) (by omega) hIv
      have hagv : pkArg (layC x v0).n f t (x.cf.st : Nat) = true := by rw [hs.n]; exact hag
      have HCK := hid (fun (W : World) (hW : Gr w4 W) => (HCHK.out W hW).mono (fun e w' h => chk26_ok h hag hIu))
      have HRN1 := hid (fun (W : World) (hW : Gr w4 W) => (HRUN.out W hW).mono (fun e w' h => run26_in h hagv hIv hnd))
      have HMK : Hid (Marks u rs x.n K) := ⟨by have := hIu.1; rwa [HU.out.n] at this⟩
      have HND := hid (And.intro hnd hIv)
      obtain ⟨nt, hnt⟩ : ∃ nt, nt = f + sizes K := ⟨_, rfl⟩
      have HNT := hid hnt
      obtain ⟨N, hN⟩ : ∃ N, N = K.length := ⟨_, rfl⟩
      have HNL := hid hN
      have hKl : N ≤ x.n := by rw [hN]; exact HMK.out.mkd.good.len
      rw [← hnt] at HRN1 hft
      rw [← hN] at HCK
      have HF1 : Hid (1 ≤ f ∧ f ≤ t ∧ t ≤ x.n) := ⟨by omega⟩
      have hft2 : f ≤ nt := by omega
      clear hIu hIv hagv hag hnd hnt hN HCHK HRUN hs g1 g2 g3 g4 g5
      obtain ⟨Sx, hSx⟩ : ∃ Sx : World → Prop, Sx = fun W' => Gr w4 W' := ⟨_, rfl⟩
      have x7 : ∀ p : Held Sx, p.w.cell? ⟨hp, 7, none⟩ = some (.int .i64 x.cf.st) := fun p => by have h := Held.get hSx p; exact (HC4.out.gr h).cell (j := 7) rfl
      have x9 : ∀ p : Held Sx, p.w.cell? ⟨hp, 9, none⟩ = some (.slice A x.n c) := fun p => by have h := Held.get hSx p; exact (HC4.out.gr h).cell (j := 9) rfl
      have HS : Hid (∀ W', Gr w4 W' → Sx W') := ⟨fun W' h => by rw [hSx]; exact h⟩
      have hS0 := HS.out _ ((Gr.refl w4).drew)
      have inst : Inhabited (Held Sx) := ⟨⟨_, hS0⟩⟩
      clear hSx
      refine wp_region_mixS Sx 18 [([0, 1, 2, 3, 4, 5, 6, 7, 8, 9, 10, 11], 12)] [13, 14, 15, 16, 17] (by kernel_rfl) (by kernel_rfl) hS0 ?_
      refine segs_step ?_
      try simp only [opsAt, List.getElem?_cons_zero, List.getElem?_cons_succ]
      repeat (go_big_quiet_step (fail))
      refine wpQuiet_nil ?_
      go_wp2_with ((go_at_call 30; refine (HCK.out _ (Gr.refl w4).drew).mono ?_; rintro e w5 ⟨OA, oc, rfl, hg5, ho5, hn5⟩; have HG5 := hid ((Gr.refl w4).drew.trans hg5); have HO5 := hid ho5; have HNW := hid hn5; clear hg5 ho5 hn5))
      refine ⟨.inr (Held.of (HS.out _ (HG5.out))), ?_⟩
      refine segs_end ?_
      try simp only [opsAt, List.getElem?_cons_zero, List.getElem?_cons_succ]
      repeat (go_big_quiet_step (fail))
      refine wpQuiet_nil ?_
      refine NoPanic.normal ?_
      clear x7 x9 hS0 inst
      clear HS Sx
      have HC5 := hid (HC4.out.gr HG5.out)
      go_upto_region 11 with (fail)
      obtain ⟨Sx, hSx⟩ : ∃ Sx : World → Prop, Sx = fun W' => Rec W' hp 37 [.pointer (some ⟨q, 0, none⟩), .pointer (some ⟨r, 0, none⟩), .int .i64 x.cf.fr, .int .i64 x.cf.tp, .int .i64 x.cf.to, .int .i64 x.cf.lm, .int .i64 x.cf.bk, .int .i64 x.cf.st, .int .i64 x.cf.ah, .slice A x.n c, .int .i64 (x.page : Nat)] := ⟨_, rfl⟩
      have x0 : ∀ p : Held Sx, p.w.cell? ⟨hp, 0, none⟩ = some (.pointer (some ⟨q, 0, none⟩)) := fun p => by have h := Held.get hSx p; exact h.cell (j := 0) rfl
      have x1 : ∀ p : Held Sx, p.w.cell? ⟨hp, 1, none⟩ = some (.pointer (some ⟨r, 0, none⟩)) := fun p => by have h := Held.get hSx p; exact h.cell (j := 1) rfl
      have x7 : ∀ p : Held Sx, p.w.cell? ⟨hp, 7, none⟩ = some (.int .i64 x.cf.st) := fun p => by have h := Held.get hSx p; exact h.cell (j := 7) rfl
      have HS : Hid (∀ W', Rec W' hp 37 [.pointer (some ⟨q, 0, none⟩), .pointer (some ⟨r, 0, none⟩), .int .i64 x.cf.fr, .int .i64 x.cf.tp, .int .i64 x.cf.to, .int .i64 x.cf.lm, .int .i64 x.cf.bk, .int .i64 x.cf.st, .int .i64 x.cf.ah, .slice A x.n c, .int .i64 (x.page : Nat)] → Sx W') := ⟨fun W' h => by rw [hSx]; exact h⟩
      have hS0 := HS.out _ (HC5.out.gr (Gr.refl w5).drew)
      have inst : Inhabited (Held Sx) := ⟨⟨_, hS0⟩⟩
      clear hSx
      refine wp_region_mixS Sx 21 [([0, 1, 2, 3, 4, 5, 6, 7, 8, 9, 10, 11, 12, 13, 14], 15)] [16, 17, 18, 19, 20] (by kernel_rfl) (by kernel_rfl) hS0 ?_
      refine segs_step ?_
      try simp only [opsAt, List.getElem?_cons_zero, List.getElem?_cons_succ]
      repeat (go_big_quiet_step (fail))
      refine wpQuiet_nil ?_
      go_wp2_with ((go_at_call 28; refine (HRN1.out _ HG5.out.drew).mono ?_; rintro e w6 ⟨rfl, ht6, v1, v2, j, hD, hv6, hr6⟩; have HP6 := hid (HT46.out _ _ HG5.out.drew ht6); have HT6 := hid ht6; have HV6 := hid hv6; have HR6 := hid hr6; have HD6 := hid hD; clear ht6 hv6 hr6 hD))
      refine ⟨.inr (Held.of (HS.out _ (HP6.out.1))), ?_⟩
      refine segs_end ?_
      try simp only [opsAt, List.getElem?_cons_zero, List.getElem?_cons_succ]
      repeat (go_big_quiet_step (fail))
      refine wpQuiet_nil ?_
      refine NoPanic.normal ?_
      clear x0 x1 x7 hS0 inst
      clear HS Sx
      have HC6 := hid HP6.out.1
      unfold heapL at HC6
      have hs := HRN.out.stays (Stays.layC HRN.out.ok x)
      have hftv : f + sizes K ≤ (layC x v0).n := by rw [hs.n, ← HNT.out]; have := HF1.out; omega
      have hpk := pk_packed HD6.out hs.ok HND.out.1 hftv HND.out.2.1 (by rw [hs.n]; exact HU.out) (fun a ha => HUV.out a (by rw [← hs.n]; exact ha))
      rw [hs.n] at hpk
      have hmp : ∀ qq, qq < x.n / x.page → (frE (pkUm (layC x v0) v2 f (f + sizes K) j).pt (qq : Nat) == 0) = (mapB qq x.page x.top f nt && !(goneB qq x.page f t nt)) := fun qq hqq => by
        rw [HNT.out]
        exact pk_mapped hs HD6.out HND.out.1 (by rw [hs.n] at hftv; exact hftv) hqq
      have hbase := HD6.out.base
      obtain ⟨vA, hvA⟩ : ∃ vA, vA = pkUm (layC x v0) v2 f (f + sizes K) j := ⟨_, rfl⟩
      rw [← hvA] at hpk hmp hbase
      have hv6 := HV6.out
      rw [HNT.out, ← hvA] at hv6
      have HVA := hid hv6
      have HNA : Hid (vA.n = x.n) := ⟨hbase.1.trans hs.n⟩
      have HPK := hid hpk
      have HMP := hid hmp
      have HO6 : Hid (ObjsAt w6 OA K) := ⟨(HO5.out.gr (Gr.refl w5).drew).touch HT6.out (fun a ha h => by
        have h1 := HNW.out a ha
        have h2 := HGA.out
        have h3 : w3'.drew.heap.size = w3'.heap.size := rfl
        have h4 : w4.drew.heap.size = w4.heap.size := rfl
        have h5 := HG4.out.size
        have h6 := HZ23.out
        have h7 := HG12.out.size
        rcases h with h | h
        · have := HRT.out.lt.2; omega
        · have := (HSV.out.1 _ h).2; omega)⟩
      clear hs hftv hpk hmp hbase hvA hv6 HV6 HT46
      have HLD : Hid (∀ W, Gr w6 W → Calls Tryz.prog 19 #[.pointer (some ⟨q, 0, none⟩)] W fun e w' => ∃ (B : Option Addr) (cB : Nat), e = .returned (.slice B x.n cB) ∧ Gr W w' ∧ Wrds w' B cB x.n vA) := ⟨fun W hg => by
        have h := loaded25 (HVA.out.gr hg) (by rw [HNA.out]; exact hn11)
        rw [HNA.out] at h
        refine h.mono ?_
        rintro e w' ⟨B, cB, rfl, hg', ho⟩
        exact ⟨B, cB, rfl, hg', own_zero ho⟩⟩
      have HWDS := hid (fun (W : World) (hW : Gr w6 W) => ref26_words (cr := oc) HU.out (HP6.out.2.1.gr hW) (HO6.out.gr hW) HMK.out hn11 f (by have := HF1.out; omega))
      obtain ⟨RW, hRW⟩ : ∃ RW, RW = rowP u K f K := ⟨_, rfl⟩
      have hrl : RW.length = sizes K := by rw [hRW, rowP_len]
      have hwd := HPK.out.wd
      rw [← hRW] at HWDS hwd
      obtain ⟨sz, hsz⟩ : ∃ sz, sz = RW.length := ⟨_, rfl⟩
      rw [← hsz] at HWDS
      have HWV : Hid (∀ i, i < sz → vA.ldV ((f + i : Nat) : Int) = RW.getD i 0) := ⟨fun i hi => hwd i (by omega)⟩
      have HSZ := hid hsz
      have hnts : nt = f + sz := by rw [HNT.out]; omega
      rw [← HNL.out] at HWDS
      have y0 := HC6.out.cell (j := 0) rfl
      have d9 : ((nt : Int) != (f : Int) + (sz : Int)) = false := by rw [hnts]; simp
      have d8 : ¬ ((nt : Int) ≠ (f : Int) + (sz : Int)) := by omega
      have HNTS := hid hnts
      have hntx : nt ≤ x.n := by have := HF1.out; omega
      clear hRW hrl hwd hsz hnts
      go_upto_region 23 with (go_at_call 19; refine (HLD.out _ (Gr.refl w6)).mono ?_; rintro e w7 ⟨B, cB, rfl, hg7, ho7⟩; have HG7 := hid hg7; have HB7 := hid ho7; have HC7 := hid (HC6.out.gr hg7); clear hg7 ho7)
      clear y0
      have y9 := HC7.out.cell (j := 9) rfl
      go_upto_region 26 with (go_at_call 31; refine (HWDS.out _ HG7.out).mono ?_; rintro e w8 ⟨WA, wc, rfl, hg8, ho8⟩; have HG8 := hid (HG7.out.trans hg8); have HW8 := hid ho8; have HB8 := hid (HB7.out.gr hg8); clear hg8 ho8)
      clear y9
      go_wp2_with (fail)
      go_loopw [171] (fun s171 wx => ∃ i : Nat, i ≤ sz ∧ wx = w8 ∧ s171 = .int .i64 i) (fun s171 _ => sz - (intOf s171).toNat)
      case atStart => exact ⟨0, Nat.zero_le _, rfl, rfl⟩
      case round =>
        obtain ⟨i, hi, hww, rfl⟩ := hrel
        have hww := hww.symm
        subst hww
        by_cases hlt : i < sz
        · have hfi : f + i < x.n := by have := HNTS.out; omega
          obtain ⟨gB, cB', eB, -, -, -, hgB⟩ := own_form HB8.out (by omega)
          simp only [Value.slice.injEq] at eB
          obtain ⟨rfl, -, rfl⟩ := eB
          obtain ⟨gw, cw, ew, -, -, -, hgw⟩ := own_form HW8.out (by omega)
          simp only [Value.slice.injEq] at ew
          obtain ⟨rfl, -, rfl⟩ := ew
          have hiR : i < RW.length := by rw [← HSZ.out]; exact hlt
          have k1 := own_cell HB8.out (wrds_at vA hfi)
          have k2 := own_cell HW8.out (us_at hiR)
          have he : vA.ldV ((f + i : Nat) : Int) = RW[i] := by rw [HWV.out i hlt, List.getD_eq_getElem?_getD, List.getElem?_eq_getElem hiR]; rfl
          rw [he] at k1
          obtain ⟨y, hy⟩ : ∃ y, y = RW[i] := ⟨_, rfl⟩
          rw [← hy] at k1 k2
          have hiI : (i : Int) < (sz : Int) := by omega
          have haI : (f : Int) + (i : Int) < (x.n : Int) := by omega
          have ha0 : (0 : Int) ≤ (f : Int) + (i : Int) := by omega
          have haN : ((f : Int) + (i : Int)).toNat = f + i := by omega
          have HLT := hid hlt
          clear hy he hiR hlt hgB hgw
          go_wp2
          go_round
          case rel => exact ⟨i + 1, HLT.out, trivial, by go_num⟩
          case measure => have := HLT.out; simp [intOf]; omega
        · have hiI : ¬ (i : Int) < (sz : Int) := by omega
          have HC8 := hid (HC6.out.gr HG8.out)
          have y1 := HC8.out.cell (j := 1) rfl
          have hal := rt_all (HR6.out.gr HG8.out)
          obtain ⟨out, hout⟩ : ∃ out, out = rs.map (toV K f) := ⟨_, rfl⟩
          rw [← hout] at hal
          have HOUT := hid hout
          have hol : out.length = R := by rw [hout, List.length_map, ← HRE.out]
          rw [hol] at hal
          have HAL := hid hal
          clear hlt hout hal d8 d9
          go_upto_region 33 with (go_at_call 16; refine (HAL.out).mono ?_; rintro e w9 ⟨g9, c9, rfl, hg9, -, ho9⟩; have HG9 := hid (HG8.out.trans hg9); have HO9 := hid ho9; clear hg9 ho9)
          clear y1
          have HTO := hid (fun (W : World) (hW : Gr w6 W) (a : Int) => ref22_to (c := oc) (HO6.out.gr hW) HMK.out.mkd.good (by omega) f (by have := HF1.out; omega) a)
          rw [← HNL.out] at HTO
          unfold Gets at HTO
          go_loopw [191] (fun s191 wx => ∃ i : Nat, i ≤ R ∧ Hid (Gr w9 wx) ∧ s191 = .int .i64 i) (fun s191 _ => R - (intOf s191).toNat)
          case atStart => exact ⟨0, Nat.zero_le _, ⟨Gr.refl _⟩, rfl⟩
          case round =>
            obtain ⟨i, hi, HGx, rfl⟩ := hrel
            by_cases hlt : i < R
            · have hil : i < rs.length := by have := HRE.out; omega
              have hol2 : i < out.length := by omega
              have k1 := own_cell (own_gr HO9.out HGx.out) (zs_at hol2)
              have k2 := own_cell (own_gr HP6.out.2.2.1 (HG9.out.trans HGx.out)) (zs_at hil)
              have he : out[i] = toV K f rs[i] := by
                have e : out[i]? = some (toV K f rs[i]) := by rw [HOUT.out, List.getElem?_map, List.getElem?_eq_getElem hil]; rfl
                exact Option.some.inj ((List.getElem?_eq_getElem hol2).symm.trans e)
              have HTX := hid (HTO.out _ (HG9.out.trans HGx.out) rs[i])
              rw [← he] at HTX
              obtain ⟨a, ha⟩ : ∃ a, a = rs[i] := ⟨_, rfl⟩
              obtain ⟨b, hb⟩ : ∃ b, b = out[i] := ⟨_, rfl⟩
              rw [← ha] at k2 HTX
              rw [← hb] at k1 HTX
              obtain ⟨te, hte⟩ : ∃ te, te = toE K a := ⟨_, rfl⟩
              rw [← hte] at HTX
              have hiI : (i : Int) < (R : Int) := by omega
              have HLT := hid hlt
              clear ha hb he hil hol2 hlt hte
              go_wp2_with (go_at_call 32; refine (HTX.out).mono ?_; rintro e w10 ⟨rfl, hg10⟩; have HG10 := hid hg10; clear hg10)
              go_round
              case rel => exact ⟨i + 1, HLT.out, ⟨HGx.out.trans HG10.out⟩, by go_num⟩
              case measure => have := HLT.out; simp [intOf]; omega
            · have hiI : ¬ (i : Int) < (R : Int) := by omega
              clear hlt
              have HC9 := hid (HC6.out.gr (HG9.out.trans HGx.out))
              have HWRD := hid (fun (W : World) (hW : Gr w6 W) => vm_words (HVA.out.gr hW))
              rw [HNA.out] at HWRD
              have HGX := hid (HG9.out.trans HGx.out)
              have hpgp := x.page_pos
              have hnp1 : x.n / x.page ≤ 1100 := by have := Nat.div_le_self x.n x.page; omega
              obtain ⟨np, hnp⟩ : ∃ np, np = x.n / x.page := ⟨_, rfl⟩
              have HNP := hid hnp
              have e1 : ((x.n : Int).tdiv (x.page : Int)) = (np : Int) := by rw [hnp]; rfl
              have e2 : ((x.n : Int) / (x.page : Int)) = (np : Int) := by rw [hnp]; rfl
              have hpg0 : (x.page : Int) ≠ 0 := by omega
              rw [← hnp] at hnp1
              clear hnp
              go_upto_region 39 with (fail)
              obtain ⟨Sx, hSx⟩ : ∃ Sx : World → Prop, Sx = fun W' => Gr wr W' := ⟨_, rfl⟩
              have x0 : ∀ p : Held Sx, p.w.cell? ⟨hp, 0, none⟩ = some (.pointer (some ⟨q, 0, none⟩)) := fun p => by have h := Held.get hSx p; exact (HC9.out.gr h).cell (j := 0) rfl
              have x10 : ∀ p : Held Sx, p.w.cell? ⟨hp, 10, none⟩ = some (.int .i64 (x.page : Nat)) := fun p => by have h := Held.get hSx p; exact (HC9.out.gr h).cell (j := 10) rfl
              have HS : Hid (∀ W', Gr wr W' → Sx W') := ⟨fun W' h => by rw [hSx]; exact h⟩
              have hS0 := HS.out _ ((Gr.refl wr).drew)
              have inst : Inhabited (Held Sx) := ⟨⟨_, hS0⟩⟩
              clear hSx
              refine wp_region_mixS Sx 11 [([0, 1, 2, 3, 5, 6, 7, 8, 10], 4)] [9] (by kernel_rfl) (by kernel_rfl) hS0 ?_
              refine segs_step ?_
              try simp only [opsAt, List.getElem?_cons_zero, List.getElem?_cons_succ]
              repeat (go_big_quiet_step (fail))
              refine wpQuiet_nil ?_
              go_wp2_with ((go_at_call 33; refine (HWRD.out _ HGX.out.drew).mono ?_; rintro e w10 ⟨rfl, rfl⟩))
              refine ⟨.inr (Held.of (HS.out _ ((Gr.refl wr).drew))), ?_⟩
              refine segs_end ?_
              try simp only [opsAt, List.getElem?_cons_zero, List.getElem?_cons_succ]
              repeat (go_big_quiet_step (fail))
              refine wpQuiet_nil ?_
              refine NoPanic.normal ?_
              clear x0 x10 hS0 inst
              clear HS Sx
              clear e1 e2
              obtain ⟨pg, hpg⟩ : ∃ pg, pg = x.page := ⟨_, rfl⟩
              obtain ⟨tp', htp⟩ : ∃ tp', tp' = x.top := ⟨_, rfl⟩
              have hfr := HF1.out
              have hb9 := HC9.out.gr (Gr.refl wr).drew
              have hb9 : Rec wr.drew hp 37 [.pointer (some ⟨q, 0, none⟩), .pointer (some ⟨r, 0, none⟩), .int .i64 x.cf.fr, .int .i64 tp', .int .i64 x.cf.to, .int .i64 x.cf.lm, .int .i64 x.cf.bk, .int .i64 x.cf.st, .int .i64 x.cf.ah, .slice A x.n c, .int .i64 pg] := by rw [htp, hpg]; exact hb9
              have HH9 := hid hb9
              have hmp := HMP.out
              rw [← HNP.out, ← hpg, ← htp] at hmp
              have HMP2 := hid hmp
              have htpb : tp' ≤ 544 := by rw [htp]; have := x.top_le; omega
              rw [← hpg] at hpgp hpg0
              obtain ⟨fq, hfq⟩ : ∃ fq, fq = f / pg := ⟨_, rfl⟩
              have HFQ := hid hfq
              have e3 : ((f : Int).tdiv (pg : Int)) = (fq : Int) := by rw [hfq]; rfl
              have e4 : ((f : Int) / (pg : Int)) = (fq : Int) := by rw [hfq]; rfl
              have hfqb : fq ≤ 1100 := by rw [hfq]; have := Nat.div_le_self f pg; omega
              have HG9d := hid (HGX.out.drew)
              have hnpn : np * pg ≤ 1100 := by rw [HNP.out, hpg]; have := Nat.div_mul_le_self x.n x.page; omega
              clear hb9 hmp hfq hpg htp
              go_wp2_with (fail)
              obtain ⟨w11, hw11⟩ : ∃ w11, w11 = wr.drew := ⟨_, rfl⟩
              rw [← hw11] at HH9 HG9d
              rw [← hw11]
              clear hw11 HC9 HGX HGx
              go_loopw [220] (fun s220 wx => ∃ i : Nat, i ≤ np ∧ Hid (Gr w11 wx) ∧ s220 = .int .i64 i) (fun s220 _ => np - (intOf s220).toNat)
              case atStart => exact ⟨0, Nat.zero_le _, ⟨Gr.refl _⟩, rfl⟩
              case round =>
                obtain ⟨i, hi, HGx, rfl⟩ := hrel
                by_cases hlt : i < np
                · have HM0 := hid (HMP2.out i hlt)
                  obtain ⟨pp, hpp⟩ : ∃ pp, pp = i * pg := ⟨_, rfl⟩
                  have hppb : pp + pg ≤ 1100 := by
                    have := Nat.mul_le_mul_right pg (show i + 1 ≤ np by omega)
                    rw [Nat.add_mul, Nat.one_mul, ← hpp] at this
                    omega
                  have hmul : (i : Int) * (pg : Int) = (pp : Int) := by rw [hpp]; push_cast; rfl
                  have hmul1 : ((i : Int) + 1) * (pg : Int) = (pp : Int) + (pg : Int) := by rw [Int.add_mul, Int.one_mul, hmul]
                  unfold mapB goneB at HM0
                  rw [← hpp, ← HFQ.out] at HM0
                  obtain ⟨a1, ha1⟩ : ∃ b, b = decide (1 ≤ i) := ⟨_, rfl⟩
                  obtain ⟨a2, ha2⟩ : ∃ b, b = decide (pp < tp') := ⟨_, rfl⟩
                  obtain ⟨b1, hb1⟩ : ∃ b, b = decide (f < nt) := ⟨_, rfl⟩
                  obtain ⟨b2, hb2⟩ : ∃ b, b = decide (pp < nt) := ⟨_, rfl⟩
                  obtain ⟨b3, hb3⟩ : ∃ b, b = decide (f < pp + pg) := ⟨_, rfl⟩
                  obtain ⟨c1', hc1⟩ : ∃ b, b = decide (fq ≤ i) := ⟨_, rfl⟩
                  obtain ⟨c2', hc2⟩ : ∃ b, b = decide (pp < t) := ⟨_, rfl⟩
                  obtain ⟨c3', hc3⟩ : ∃ b, b = decide (nt ≤ pp) := ⟨_, rfl⟩
                  rw [← ha1, ← ha2, ← hb1, ← hb2, ← hb3, ← hc1, ← hc2, ← hc3] at HM0
                  have m1 : decide ((1 : Int) ≤ (i : Int)) = a1 := by rw [ha1]; exact decide_eq_decide.2 (by omega)
                  have m2 : decide ((pp : Int) < (tp' : Int)) = a2 := by rw [ha2]; exact decide_eq_decide.2 (by omega)
                  have m3 : decide ((f : Int) < (nt : Int)) = b1 := by rw [hb1]; exact decide_eq_decide.2 (by omega)
                  have m4 : decide ((pp : Int) < (nt : Int)) = b2 := by rw [hb2]; exact decide_eq_decide.2 (by omega)
                  have m5 : decide ((f : Int) < (pp : Int) + (pg : Int)) = b3 := by rw [hb3]; exact decide_eq_decide.2 (by omega)
                  have m6 : decide ((fq : Int) ≤ (i : Int)) = c1' := by rw [hc1]; exact decide_eq_decide.2 (by omega)
                  have m7 : decide ((pp : Int) < (t : Int)) = c2' := by rw [hc2]; exact decide_eq_decide.2 (by omega)
                  have m8 : decide ((nt : Int) ≤ (pp : Int)) = c3' := by rw [hc3]; exact decide_eq_decide.2 (by omega)
                  have HLT := hid hlt
                  have hiI : (i : Int) < (np : Int) := by omega
                  have HMQ := hid (fun (W : World) (hW : Gr w6 W) => vm_mapped (HVA.out.gr hW) (i : Nat))
                  obtain ⟨mb, hmb⟩ : ∃ mb, mb = (frE vA.pt (i : Nat) == 0) := ⟨_, rfl⟩
                  rw [← hmb] at HM0 HMQ
                  have ib : i ≤ 1100 := by omega
                  have n1 := ha1.symm
                  have n2 := ha2.symm
                  have n3 := hb1.symm
                  have n4 := hb2.symm
                  have n5 := hb3.symm
                  have n6 := hc1.symm
                  have n7 := hc2.symm
                  have n8 := hc3.symm
                  have HC := hid (HH9.out.gr HGx.out)
                  clear hmb hlt hpp ha1 ha2 hb1 hb2 hb3 hc1 hc2 hc3
                  go_upto_region 42 with (fail)
                  go_cut [26] (fun s26 wx => wx = wr.drew ∧ s26 = .bool ((a1 && a2) || (b1 && b2 && b3)))
                  case first =>
                    as_aux_lemma =>
                    clear m6 m7 m8 n6 n7 n8
                    cases a1
                    · clear m2 n2
                      cases b1
                      · clear m4 m5 n4 n5
                        obtain ⟨Sx, hSx⟩ : ∃ Sx : World → Prop, Sx = fun W' => Gr wr W' := ⟨_, rfl⟩
                        have x3 : ∀ p : Held Sx, p.w.cell? ⟨hp, 3, none⟩ = some (.int .i64 tp') := fun p => by have h := Held.get hSx p; exact (HC.out.gr h).cell (j := 3) rfl
                        have x10 : ∀ p : Held Sx, p.w.cell? ⟨hp, 10, none⟩ = some (.int .i64 pg) := fun p => by have h := Held.get hSx p; exact (HC.out.gr h).cell (j := 10) rfl
                        have HS : Hid (∀ W', Gr wr W' → Sx W') := ⟨fun W' h => by rw [hSx]; exact h⟩
                        have hS0 := HS.out _ ((Gr.refl wr).drew)
                        have inst : Inhabited (Held Sx) := ⟨⟨_, hS0⟩⟩
                        clear hSx
                        refine wp_region_mixS Sx 43 [] [0, 1, 2, 3, 4, 5, 6, 7, 8, 9, 10, 11, 12, 13, 14, 15, 16, 17, 18, 19, 20, 21, 22, 23, 24, 25, 26, 27, 28, 29, 30, 31, 32, 33, 34, 35, 36, 37, 38, 39, 40, 41, 42] (by kernel_rfl) (by kernel_rfl) hS0 ?_
                        refine segs_end ?_
                        try simp only [opsAt, List.getElem?_cons_zero, List.getElem?_cons_succ]
                        repeat (go_big_quiet_step (fail))
                        refine wpQuiet_nil ?_
                        refine NoPanic.normal ?_
                        clear x3 x10 hS0 inst
                        clear HS Sx
                        go_wp2
                        go_meet
                        exact ⟨rfl, rfl⟩
                      · cases b2
                        · clear m5 n5
                          obtain ⟨Sx, hSx⟩ : ∃ Sx : World → Prop, Sx = fun W' => Gr wr W' := ⟨_, rfl⟩
                          have x3 : ∀ p : Held Sx, p.w.cell? ⟨hp, 3, none⟩ = some (.int .i64 tp') := fun p => by have h := Held.get hSx p; exact (HC.out.gr h).cell (j := 3) rfl
                          have x10 : ∀ p : Held Sx, p.w.cell? ⟨hp, 10, none⟩ = some (.int .i64 pg) := fun p => by have h := Held.get hSx p; exact (HC.out.gr h).cell (j := 10) rfl
                          have HS : Hid (∀ W', Gr wr W' → Sx W') := ⟨fun W' h => by rw [hSx]; exact h⟩
                          have hS0 := HS.out _ ((Gr.refl wr).drew)
                          have inst : Inhabited (Held Sx) := ⟨⟨_, hS0⟩⟩
                          clear hSx
                          refine wp_region_mixS Sx 43 [] [0, 1, 2, 3, 4, 5, 6, 7, 8, 9, 10, 11, 12, 13, 14, 15, 16, 17, 18, 19, 20, 21, 22, 23, 24, 25, 26, 27, 28, 29, 30, 31, 32, 33, 34, 35, 36, 37, 38, 39, 40, 41, 42] (by kernel_rfl) (by kernel_rfl) hS0 ?_
                          refine segs_end ?_
                          try simp only [opsAt, List.getElem?_cons_zero, List.getElem?_cons_succ]
                          repeat (go_big_quiet_step (fail))
                          refine wpQuiet_nil ?_
                          refine NoPanic.normal ?_
                          clear x3 x10 hS0 inst
                          clear HS Sx
                          go_wp2
                          go_meet
                          exact ⟨rfl, rfl⟩
                        · cases b3
                          · skip
                            obtain ⟨Sx, hSx⟩ : ∃ Sx : World → Prop, Sx = fun W' => Gr wr W' := ⟨_, rfl⟩
                            have x3 : ∀ p : Held Sx, p.w.cell? ⟨hp, 3, none⟩ = some (.int .i64 tp') := fun p => by have h := Held.get hSx p; exact (HC.out.gr h).cell (j := 3) rfl
                            have x10 : ∀ p : Held Sx, p.w.cell? ⟨hp, 10, none⟩ = some (.int .i64 pg) := fun p => by have h := Held.get hSx p; exact (HC.out.gr h).cell (j := 10) rfl
                            have HS : Hid (∀ W', Gr wr W' → Sx W') := ⟨fun W' h => by rw [hSx]; exact h⟩
                            have hS0 := HS.out _ ((Gr.refl wr).drew)
                            have inst : Inhabited (Held Sx) := ⟨⟨_, hS0⟩⟩
                            clear hSx
                            refine wp_region_mixS Sx 43 [] [0, 1, 2, 3, 4, 5, 6, 7, 8, 9, 10, 11, 12, 13, 14, 15, 16, 17, 18, 19, 20, 21, 22, 23, 24, 25, 26, 27, 28, 29, 30, 31, 32, 33, 34, 35, 36, 37, 38, 39, 40, 41, 42] (by kernel_rfl) (by kernel_rfl) hS0 ?_
                            refine segs_end ?_
                            try simp only [opsAt, List.getElem?_cons_zero, List.getElem?_cons_succ]
                            repeat (go_big_quiet_step (fail))
                            refine wpQuiet_nil ?_
                            refine NoPanic.normal ?_
                            clear x3 x10 hS0 inst
                            clear HS Sx
                            go_wp2
                            go_meet
                            exact ⟨rfl, rfl⟩
                          · skip
                            obtain ⟨Sx, hSx⟩ : ∃ Sx : World → Prop, Sx = fun W' => Gr wr W' := ⟨_, rfl⟩
                            have x3 : ∀ p : Held Sx, p.w.cell? ⟨hp, 3, none⟩ = some (.int .i64 tp') := fun p => by have h := Held.get hSx p; exact (HC.out.gr h).cell (j := 3) rfl
                            have x10 : ∀ p : Held Sx, p.w.cell? ⟨hp, 10, none⟩ = some (.int .i64 pg) := fun p => by have h := Held.get hSx p; exact (HC.out.gr h).cell (j := 10) rfl
                            have HS : Hid (∀ W', Gr wr W' → Sx W') := ⟨fun W' h => by rw [hSx]; exact h⟩
                            have hS0 := HS.out _ ((Gr.refl wr).drew)
                            have inst : Inhabited (Held Sx) := ⟨⟨_, hS0⟩⟩
                            clear hSx
                            refine wp_region_mixS Sx 43 [] [0, 1, 2, 3, 4, 5, 6, 7, 8, 9, 10, 11, 12, 13, 14, 15, 16, 17, 18, 19, 20, 21, 22, 23, 24, 25, 26, 27, 28, 29, 30, 31, 32, 33, 34, 35, 36, 37, 38, 39, 40, 41, 42] (by kernel_rfl) (by kernel_rfl) hS0 ?_
                            refine segs_end ?_
                            try simp only [opsAt, List.getElem?_cons_zero, List.getElem?_cons_succ]
                            repeat (go_big_quiet_step (fail))
                            refine wpQuiet_nil ?_
                            refine NoPanic.normal ?_
                            clear x3 x10 hS0 inst
                            clear HS Sx
                            go_wp2
                            go_meet
                            exact ⟨rfl, rfl⟩
                    · cases a2
                      · skip
                        cases b1
                        · clear m4 m5 n4 n5
                          obtain ⟨Sx, hSx⟩ : ∃ Sx : World → Prop, Sx = fun W' => Gr wr W' := ⟨_, rfl⟩
                          have x3 : ∀ p : Held Sx, p.w.cell? ⟨hp, 3, none⟩ = some (.int .i64 tp') := fun p => by have h := Held.get hSx p; exact (HC.out.gr h).cell (j := 3) rfl
                          have x10 : ∀ p : Held Sx, p.w.cell? ⟨hp, 10, none⟩ = some (.int .i64 pg) := fun p => by have h := Held.get hSx p; exact (HC.out.gr h).cell (j := 10) rfl
                          have HS : Hid (∀ W', Gr wr W' → Sx W') := ⟨fun W' h => by rw [hSx]; exact h⟩
                          have hS0 := HS.out _ ((Gr.refl wr).drew)
                          have inst : Inhabited (Held Sx) := ⟨⟨_, hS0⟩⟩
                          clear hSx
                          refine wp_region_mixS Sx 43 [] [0, 1, 2, 3, 4, 5, 6, 7, 8, 9, 10, 11, 12, 13, 14, 15, 16, 17, 18, 19, 20, 21, 22, 23, 24, 25, 26, 27, 28, 29, 30, 31, 32, 33, 34, 35, 36, 37, 38, 39, 40, 41, 42] (by kernel_rfl) (by kernel_rfl) hS0 ?_
                          refine segs_end ?_
                          try simp only [opsAt, List.getElem?_cons_zero, List.getElem?_cons_succ]
                          repeat (go_big_quiet_step (fail))
                          refine wpQuiet_nil ?_
                          refine NoPanic.normal ?_
                          clear x3 x10 hS0 inst
                          clear HS Sx
                          go_wp2
                          go_meet
                          exact ⟨rfl, rfl⟩
                        · cases b2
                          · clear m5 n5
                            obtain ⟨Sx, hSx⟩ : ∃ Sx : World → Prop, Sx = fun W' => Gr wr W' := ⟨_, rfl⟩
                            have x3 : ∀ p : Held Sx, p.w.cell? ⟨hp, 3, none⟩ = some (.int .i64 tp') := fun p => by have h := Held.get hSx p; exact (HC.out.gr h).cell (j := 3) rfl
                            have x10 : ∀ p : Held Sx, p.w.cell? ⟨hp, 10, none⟩ = some (.int .i64 pg) := fun p => by have h := Held.get hSx p; exact (HC.out.gr h).cell (j := 10) rfl
                            have HS : Hid (∀ W', Gr wr W' → Sx W') := ⟨fun W' h => by rw [hSx]; exact h⟩
                            have hS0 := HS.out _ ((Gr.refl wr).drew)
                            have inst : Inhabited (Held Sx) := ⟨⟨_, hS0⟩⟩
                            clear hSx
                            refine wp_region_mixS Sx 43 [] [0, 1, 2, 3, 4, 5, 6, 7, 8, 9, 10, 11, 12, 13, 14, 15, 16, 17, 18, 19, 20, 21, 22, 23, 24, 25, 26, 27, 28, 29, 30, 31, 32, 33, 34, 35, 36, 37, 38, 39, 40, 41, 42] (by kernel_rfl) (by kernel_rfl) hS0 ?_
                            refine segs_end ?_
                            try simp only [opsAt, List.getElem?_cons_zero, List.getElem?_cons_succ]
                            repeat (go_big_quiet_step (fail))
                            refine wpQuiet_nil ?_
                            refine NoPanic.normal ?_
                            clear x3 x10 hS0 inst
                            clear HS Sx
                            go_wp2
                            go_meet
                            exact ⟨rfl, rfl⟩
                          · cases b3
                            · skip
                              obtain ⟨Sx, hSx⟩ : ∃ Sx : World → Prop, Sx = fun W' => Gr wr W' := ⟨_, rfl⟩
                              have x3 : ∀ p : Held Sx, p.w.cell? ⟨hp, 3, none⟩ = some (.int .i64 tp') := fun p => by have h := Held.get hSx p; exact (HC.out.gr h).cell (j := 3) rfl
                              have x10 : ∀ p : Held Sx, p.w.cell? ⟨hp, 10, none⟩ = some (.int .i64 pg) := fun p => by have h := Held.get hSx p; exact (HC.out.gr h).cell (j := 10) rfl
                              have HS : Hid (∀ W', Gr wr W' → Sx W') := ⟨fun W' h => by rw [hSx]; exact h⟩
                              have hS0 := HS.out _ ((Gr.refl wr).drew)
                              have inst : Inhabited (Held Sx) := ⟨⟨_, hS0⟩⟩
                              clear hSx
                              refine wp_region_mixS Sx 43 [] [0, 1, 2, 3, 4, 5, 6, 7, 8, 9, 10, 11, 12, 13, 14, 15, 16, 17, 18, 19, 20, 21, 22, 23, 24, 25, 26, 27, 28, 29, 30, 31, 32, 33, 34, 35, 36, 37, 38, 39, 40, 41, 42] (by kernel_rfl) (by kernel_rfl) hS0 ?_
                              refine segs_end ?_
                              try simp only [opsAt, List.getElem?_cons_zero, List.getElem?_cons_succ]
                              repeat (go_big_quiet_step (fail))
                              refine wpQuiet_nil ?_
                              refine NoPanic.normal ?_
                              clear x3 x10 hS0 inst
                              clear HS Sx
                              go_wp2
                              go_meet
                              exact ⟨rfl, rfl⟩
                            · skip
                              obtain ⟨Sx, hSx⟩ : ∃ Sx : World → Prop, Sx = fun W' => Gr wr W' := ⟨_, rfl⟩
                              have x3 : ∀ p : Held Sx, p.w.cell? ⟨hp, 3, none⟩ = some (.int .i64 tp') := fun p => by have h := Held.get hSx p; exact (HC.out.gr h).cell (j := 3) rfl
                              have x10 : ∀ p : Held Sx, p.w.cell? ⟨hp, 10, none⟩ = some (.int .i64 pg) := fun p => by have h := Held.get hSx p; exact (HC.out.gr h).cell (j := 10) rfl
                              have HS : Hid (∀ W', Gr wr W' → Sx W') := ⟨fun W' h => by rw [hSx]; exact h⟩
                              have hS0 := HS.out _ ((Gr.refl wr).drew)
                              have inst : Inhabited (Held Sx) := ⟨⟨_, hS0⟩⟩
                              clear hSx
                              refine wp_region_mixS Sx 43 [] [0, 1, 2, 3, 4, 5, 6, 7, 8, 9, 10, 11, 12, 13, 14, 15, 16, 17, 18, 19, 20, 21, 22, 23, 24, 25, 26, 27, 28, 29, 30, 31, 32, 33, 34, 35, 36, 37, 38, 39, 40, 41, 42] (by kernel_rfl) (by kernel_rfl) hS0 ?_
                              refine segs_end ?_
                              try simp only [opsAt, List.getElem?_cons_zero, List.getElem?_cons_succ]
                              repeat (go_big_quiet_step (fail))
                              refine wpQuiet_nil ?_
                              refine NoPanic.normal ?_
                              clear x3 x10 hS0 inst
                              clear HS Sx
                              go_wp2
                              go_meet
                              exact ⟨rfl, rfl⟩
                      · clear m3 m4 m5 n3 n4 n5
                        obtain ⟨Sx, hSx⟩ : ∃ Sx : World → Prop, Sx = fun W' => Gr wr W' := ⟨_, rfl⟩
                        have x3 : ∀ p : Held Sx, p.w.cell? ⟨hp, 3, none⟩ = some (.int .i64 tp') := fun p => by have h := Held.get hSx p; exact (HC.out.gr h).cell (j := 3) rfl
                        have x10 : ∀ p : Held Sx, p.w.cell? ⟨hp, 10, none⟩ = some (.int .i64 pg) := fun p => by have h := Held.get hSx p; exact (HC.out.gr h).cell (j := 10) rfl
                        have HS : Hid (∀ W', Gr wr W' → Sx W') := ⟨fun W' h => by rw [hSx]; exact h⟩
                        have hS0 := HS.out _ ((Gr.refl wr).drew)
                        have inst : Inhabited (Held Sx) := ⟨⟨_, hS0⟩⟩
                        clear hSx
                        refine wp_region_mixS Sx 43 [] [0, 1, 2, 3, 4, 5, 6, 7, 8, 9, 10, 11, 12, 13, 14, 15, 16, 17, 18, 19, 20, 21, 22, 23, 24, 25, 26, 27, 28, 29, 30, 31, 32, 33, 34, 35, 36, 37, 38, 39, 40, 41, 42] (by kernel_rfl) (by kernel_rfl) hS0 ?_
                        refine segs_end ?_
                        try simp only [opsAt, List.getElem?_cons_zero, List.getElem?_cons_succ]
                        repeat (go_big_quiet_step (fail))
                        refine wpQuiet_nil ?_
                        refine NoPanic.normal ?_
                        clear x3 x10 hS0 inst
                        clear HS Sx
                        go_wp2
                        go_meet
                        exact ⟨rfl, rfl⟩
                  case rest =>
                    as_aux_lemma =>
                    obtain ⟨hwc, hw26⟩ := hcut
                    subst hwc
                    subst hw26
                    clear m1 m2 m3 m4 m5 n1 n2 n3 n4 n5
                    obtain ⟨mm, hmm⟩ : ∃ mm, mm = ((a1 && a2) || (b1 && b2 && b3)) := ⟨_, rfl⟩
                    rw [← hmm] at HM0
                    rw [← hmm]
                    clear hmm
                    have k10 := (HC.out.gr (Gr.refl wr).drew).cell (j := 10) rfl
                    go_upto_region 43 with (fail)
                    go_cut [27] (fun s27 wx => wx = wr.drew ∧ s27 = .bool (c1' && c2' && c3'))
                    case first =>
                      cases c1'
                      · clear m7 m8 n7 n8
                        go_wp2
                        go_meet
                        exact ⟨rfl, rfl⟩
                      · cases c2'
                        · clear m8 n8
                          go_wp2
                          go_meet
                          exact ⟨rfl, rfl⟩
                        · cases c3'
                          · skip
                            go_wp2
                            go_meet
                            exact ⟨rfl, rfl⟩
                          · skip
                            go_wp2
                            go_meet
                            exact ⟨rfl, rfl⟩
                    case rest =>
                      obtain ⟨hwc, hw27⟩ := hcut
                      subst hwc
                      subst hw27
                      clear m6 m7 m8 n6 n7 n8 k10
                      obtain ⟨gg, hgg⟩ : ∃ gg, gg = (c1' && c2' && c3') := ⟨_, rfl⟩
                      rw [← hgg] at HM0
                      rw [← hgg]
                      clear hgg
                      have k0 := (HC.out.gr (Gr.refl wr).drew).cell (j := 0) rfl
                      have HMX := hid (HMQ.out _ (HG9d.out.trans (HGx.out.drew)))
                      have hm0 := HM0.out
                      subst hm0
                      have hi1 : (i : Int) + 1 ≤ 1101 := by omega
                      cases mm <;> cases gg <;> (
                        go_wp2_with (go_at_call 34; refine (HMX.out).mono ?_; rintro e w12 ⟨rfl, hg12⟩; have HG12c := hid hg12; clear hg12)
                        go_round
                        case rel => exact ⟨i + 1, HLT.out, ⟨HGx.out.drew.trans HG12c.out⟩, by go_num⟩
                        case measure => have := HLT.out; simp [intOf]; omega)
                · have hiI : ¬ (i : Int) < (np : Int) := by omega
                  clear hlt
                  have HGE : Hid (Gr w wr) := ⟨HP6.out.2.2.2.trans (HG9d.out.trans HGx.out)⟩
                  go_wp2_with (go_at_call 27; refine (lives26 (HGE.out.tab HT.out.lt HT.out)).mono ?_; rintro e w12 ⟨rfl, hg12⟩; have HG12' := hid hg12; clear hg12)
                  go_ret
                  exact ⟨rfl, HGE.out.trans HG12'.out⟩
    · as_aux_lemma =>
      have hbu : pkArg x.n F T (x.cf.st : Nat) = true → ∀ L, ¬ PkIn u rs F T L := fun h1 L h2 => hok ⟨h1, L, h2⟩
      have hbv : pkArg (layC x v0).n F T (x.cf.st : Nat) = true → ∀ L, ¬ PkIn (layC x v0) rs F T L := fun h1 L h2 => hbu (by rwa [hs.n] at h1) L ((pkIn_iff HRN.out HZA.out HU.out HUV.out).2 h2)
      obtain ⟨E, hE⟩ : ∃ E, E = errE (pkArg x.n F T (x.cf.st : Nat)) := ⟨_, rfl⟩
      have hE0 : E ≠ 0 := by rw [hE]; unfold errE; split <;> decide
      have HCK := hid (fun (W : World) (hW : Gr w4 W) => (HCHK.out W hW).mono (fun e w' h => chk26_err h hbu))
      have HRN1 := hid (fun (W : World) (hW : Gr w4 W) => (HRUN.out W hW).mono (fun e w' h => run26_err h hbv))
      rw [hs.n] at HRN1
      rw [← hE] at HCK HRN1
      have d0 : (E != 0) = true := by simpa using hE0
      clear hok hbu hbv hE HCHK HRUN hs
      obtain ⟨Sx, hSx⟩ : ∃ Sx : World → Prop, Sx = fun W' => Gr w4 W' := ⟨_, rfl⟩
      have x7 : ∀ p : Held Sx, p.w.cell? ⟨hp, 7, none⟩ = some (.int .i64 x.cf.st) := fun p => by have h := Held.get hSx p; exact (HC4.out.gr h).cell (j := 7) rfl
      have x9 : ∀ p : Held Sx, p.w.cell? ⟨hp, 9, none⟩ = some (.slice A x.n c) := fun p => by have h := Held.get hSx p; exact (HC4.out.gr h).cell (j := 9) rfl
      have HS : Hid (∀ W', Gr w4 W' → Sx W') := ⟨fun W' h => by rw [hSx]; exact h⟩
      have hS0 := HS.out _ ((Gr.refl w4).drew)
      have inst : Inhabited (Held Sx) := ⟨⟨_, hS0⟩⟩
      clear hSx
      refine wp_region_mixS Sx 18 [([0, 1, 2, 3, 4, 5, 6, 7, 8, 9, 10, 11], 12)] [13, 14, 15, 16, 17] (by kernel_rfl) (by kernel_rfl) hS0 ?_
      refine segs_step ?_
      try simp only [opsAt, List.getElem?_cons_zero, List.getElem?_cons_succ]
      repeat (go_big_quiet_step (fail))
      refine wpQuiet_nil ?_
      go_wp2_with ((go_at_call 30; refine (HCK.out _ (Gr.refl w4).drew).mono ?_; rintro e w5 ⟨rfl, hg5⟩; have HG5 := hid ((Gr.refl w4).drew.trans hg5); clear hg5))
      refine ⟨.inr (Held.of (HS.out _ (HG5.out))), ?_⟩
      refine segs_end ?_
      try simp only [opsAt, List.getElem?_cons_zero, List.getElem?_cons_succ]
      repeat (go_big_quiet_step (fail))
      refine wpQuiet_nil ?_
      refine NoPanic.normal ?_
      clear x7 x9 hS0 inst
      clear HS Sx
      have HC5 := hid (HC4.out.gr HG5.out)
      go_upto_region 11 with (fail)
      obtain ⟨Sx, hSx⟩ : ∃ Sx : World → Prop, Sx = fun W' => Rec W' hp 37 [.pointer (some ⟨q, 0, none⟩), .pointer (some ⟨r, 0, none⟩), .int .i64 x.cf.fr, .int .i64 x.cf.tp, .int .i64 x.cf.to, .int .i64 x.cf.lm, .int .i64 x.cf.bk, .int .i64 x.cf.st, .int .i64 x.cf.ah, .slice A x.n c, .int .i64 (x.page : Nat)] := ⟨_, rfl⟩
      have x0 : ∀ p : Held Sx, p.w.cell? ⟨hp, 0, none⟩ = some (.pointer (some ⟨q, 0, none⟩)) := fun p => by have h := Held.get hSx p; exact h.cell (j := 0) rfl
      have x1 : ∀ p : Held Sx, p.w.cell? ⟨hp, 1, none⟩ = some (.pointer (some ⟨r, 0, none⟩)) := fun p => by have h := Held.get hSx p; exact h.cell (j := 1) rfl
      have x7 : ∀ p : Held Sx, p.w.cell? ⟨hp, 7, none⟩ = some (.int .i64 x.cf.st) := fun p => by have h := Held.get hSx p; exact h.cell (j := 7) rfl
      have HS : Hid (∀ W', Rec W' hp 37 [.pointer (some ⟨q, 0, none⟩), .pointer (some ⟨r, 0, none⟩), .int .i64 x.cf.fr, .int .i64 x.cf.tp, .int .i64 x.cf.to, .int .i64 x.cf.lm, .int .i64 x.cf.bk, .int .i64 x.cf.st, .int .i64 x.cf.ah, .slice A x.n c, .int .i64 (x.page : Nat)] → Sx W') := ⟨fun W' h => by rw [hSx]; exact h⟩
      have hS0 := HS.out _ (HC5.out.gr (Gr.refl w5).drew)
      have inst : Inhabited (Held Sx) := ⟨⟨_, hS0⟩⟩
      clear hSx
      refine wp_region_mixS Sx 21 [([0, 1, 2, 3, 4, 5, 6, 7, 8, 9, 10, 11, 12, 13, 14], 15)] [16, 17, 18, 19, 20] (by kernel_rfl) (by kernel_rfl) hS0 ?_
      refine segs_step ?_
      try simp only [opsAt, List.getElem?_cons_zero, List.getElem?_cons_succ]
      repeat (go_big_quiet_step (fail))
      refine wpQuiet_nil ?_
      go_wp2_with ((go_at_call 28; refine (HRN1.out _ HG5.out.drew).mono ?_; rintro e w6 ⟨rfl, ht6, hv6, hr6⟩; have HP6 := hid (HT46.out _ _ HG5.out.drew ht6); have HV6 := hid hv6; have HR6 := hid hr6; clear ht6 hv6 hr6))
      refine ⟨.inr (Held.of (HS.out _ (HP6.out.1))), ?_⟩
      refine segs_end ?_
      try simp only [opsAt, List.getElem?_cons_zero, List.getElem?_cons_succ]
      repeat (go_big_quiet_step (fail))
      refine wpQuiet_nil ?_
      refine NoPanic.normal ?_
      clear x0 x1 x7 hS0 inst
      clear HS Sx
      have HC6 := hid HP6.out.1
      unfold heapL at HC6
      have HLD : Hid (∀ W, Gr w6 W → Calls Tryz.prog 19 #[.pointer (some ⟨q, 0, none⟩)] W fun e w' => ∃ (B : Option Addr) (cB : Nat), e = .returned (.slice B x.n cB) ∧ Gr W w' ∧ Wrds w' B cB x.n u) := ⟨fun W hg => by
        have hs := HRN.out.stays (Stays.layC HRN.out.ok x)
        have h := loaded25 (HV6.out.gr hg) (by rw [hs.n]; exact hn11)
        rw [hs.n] at h
        refine h.mono ?_
        rintro e w' ⟨B, cB, rfl, hg', ho⟩
        refine ⟨B, cB, rfl, hg', ?_⟩
        unfold Wrds
        rw [wrds_congr HUV.out]
        exact own_zero ho⟩
      have HUS6 := hid (fun (W : World) (g' : Gr w6 W) => vm_used (HV6.out.gr g'))
      rw [← HUE.out] at HUS6
      have y0 := HC6.out.cell (j := 0) rfl
      have hn1 : x.n ≠ 0 := by have := x.page_pos; unfold LaidC.n; omega
      go_upto_region 17 with (go_at_call 19; refine (HLD.out _ (Gr.refl w6)).mono ?_; rintro e w7 ⟨B, cB, rfl, hg7, ho7⟩; have HG7 := hid hg7; have HB7 := hid ho7; have HC7 := hid (HC6.out.gr hg7); clear hg7 ho7)
      clear y0
      obtain ⟨nn, hnn⟩ : ∃ nn, nn = x.n := ⟨_, rfl⟩
      have hbB := HB7.out
      have hwd := HP6.out.2.1.gr HG7.out
      have hc7 := HC7.out
      unfold Wrds at hbB hwd
      rw [← hnn] at hn1 hbB hwd hn11 hc7
      obtain ⟨gB, cB', eB, -, -, -, hgB⟩ := own_form hbB hn1
      simp only [Value.slice.injEq] at eB
      obtain ⟨rfl, -, rfl⟩ := eB
      obtain ⟨gw, cw, ew, -, -, -, hgw⟩ := own_form hwd hn1
      simp only [Value.slice.injEq] at ew
      obtain ⟨rfl, -, rfl⟩ := ew
      have HBB := hid hbB
      have HWD := hid hwd
      have HCC := hid hc7
      have HEND : Hid (∀ W, Gr w7 W → Gr w W) := ⟨fun W h => HP6.out.2.2.2.trans (HG7.out.trans h)⟩
      clear hbB hwd hgB hgw hc7
      rw [← hnn]
      clear hnn hn1
      go_loopw [126] (fun s126 wx => ∃ i : Nat, i ≤ nn ∧ Hid (Gr w7 wx) ∧ s126 = .int .i64 i) (fun s126 _ => nn - (intOf s126).toNat)
      case atStart => exact ⟨0, Nat.zero_le _, ⟨Gr.refl _⟩, rfl⟩
      case round =>
        obtain ⟨i, hi, HGx, rfl⟩ := hrel
        by_cases hlt : i < nn
        · have k1 := own_cell (own_gr HBB.out HGx.out) (wrds_at u hlt)
          have k2 := own_cell (own_gr HWD.out HGx.out) (wrds_at u hlt)
          obtain ⟨y, hy⟩ : ∃ y, y = u.ldV (i : Int) := ⟨_, rfl⟩
          rw [← hy] at k1 k2
          have k9 := (HCC.out.gr HGx.out).cell (j := 9) rfl
          have hiI' : (i : Int) < (nn : Int) := by omega
          have HLT := hid hlt
          clear hy hlt
          go_upto_region 19 with (fail)
          obtain ⟨Sx, hSx⟩ : ∃ Sx : World → Prop, Sx = fun W' => W'.cell? ⟨gB, i, none⟩ = some (.int .u64 (y : Nat)) ∧ W'.cell? ⟨gw, i, none⟩ = some (.int .u64 (y : Nat)) ∧ W'.cell? ⟨hp, 9, none⟩ = some (.slice (some ⟨gw, 0, none⟩) nn c) := ⟨_, rfl⟩
          have x1 : ∀ p : Held Sx, p.w.cell? ⟨gB, i, none⟩ = some (.int .u64 (y : Nat)) := fun p => by have h := Held.get hSx p; exact h.1
          have x2 : ∀ p : Held Sx, p.w.cell? ⟨gw, i, none⟩ = some (.int .u64 (y : Nat)) := fun p => by have h := Held.get hSx p; exact h.2.1
          have x3 : ∀ p : Held Sx, p.w.cell? ⟨hp, 9, none⟩ = some (.slice (some ⟨gw, 0, none⟩) nn c) := fun p => by have h := Held.get hSx p; exact h.2.2
          have HS : Hid (∀ W', W'.cell? ⟨gB, i, none⟩ = some (.int .u64 (y : Nat)) ∧ W'.cell? ⟨gw, i, none⟩ = some (.int .u64 (y : Nat)) ∧ W'.cell? ⟨hp, 9, none⟩ = some (.slice (some ⟨gw, 0, none⟩) nn c) → Sx W') := ⟨fun W' h => by rw [hSx]; exact h⟩
          have hS0 := HS.out (wr.drew) (⟨k1, k2, k9⟩)
          have inst : Inhabited (Held Sx) := ⟨⟨_, hS0⟩⟩
          clear hSx
          refine wp_region_mixS Sx 12 [] [0, 1, 2, 3, 4, 5, 6, 7, 8, 9, 10, 11] (by kernel_rfl) (by kernel_rfl) hS0 ?_
          refine segs_end ?_
          try simp only [opsAt, List.getElem?_cons_zero, List.getElem?_cons_succ]
          repeat (go_big_quiet_step (fail))
          refine wpQuiet_nil ?_
          refine NoPanic.normal ?_
          clear x1 x2 x3 hS0 inst
          clear HS Sx
          go_wp2
          go_round
          case rel => exact ⟨i + 1, HLT.out, ⟨HGx.out.drew⟩, by go_num⟩
          case measure => have := HLT.out; simp [intOf]; omega
        · have hiI' : ¬ (i : Int) < (nn : Int) := by omega
          have k0 := (HCC.out.gr HGx.out).cell (j := 0) rfl
          have k0l := (HCC.out.gr HGx.out).lt
          have HGW := hid (HEND.out _ HGx.out)
          have HUSx := hid (HUS6.out _ (HG7.out.trans HGx.out))
          clear hlt
          go_wp2_with (first
            | (go_at_call 20; refine (HUSx.out).mono ?_; rintro e w9 ⟨rfl, rfl⟩)
            | (go_at_call 27; refine (lives26 (HGW.out.tab HT.out.lt HT.out)).mono ?_; rintro e w9 ⟨rfl, hg9⟩; have HG9 := hid hg9; clear hg9))
          go_ret
          exact ⟨rfl, HGW.out.trans HG9.out⟩
end
end Go.Proofs.YtbmidhlilafgeaaGreatDoor
end
section
namespace Go.Proofs.YtbmidhlilafgeaaGreatDoor
open Go.RowKit Word

theorem plays26_walk {w : World} (hT : TabAt w) {A1 A2 A3 : Option Addr} {c1 c2 c3 : Nat} {x : LaidC} (hL : LaidCAt w A1 A2 A3 x) (fr tp root : Int) :
    Gets Tryz.prog 8 #[.agg (laidV x A1 A2 A3 c1 c2 c3).toArray, .agg #[.int .i64 fr, .int .i64 tp], .int .i64 root] w (.bool true) := by
  by_cases h : 0 ≤ root
  · exact plays26_walkA hT hL fr tp root h
  · exact plays26_walkB hT hL fr tp root (by omega)
end Go.Proofs.YtbmidhlilafgeaaGreatDoor
end
