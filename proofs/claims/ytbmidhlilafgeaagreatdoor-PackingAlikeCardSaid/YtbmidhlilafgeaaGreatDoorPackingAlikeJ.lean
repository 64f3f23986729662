/- Part 10 of what PackingAlike leans on: my own lemmas, merged by shake.py. -/
import Derived.Test.YtbmidhlilafgeaaGreatDoorPackingAlikeI
section
namespace Go.Proofs.YtbmidhlilafgeaaGreatDoor
open Go.RowKit Word

section
variable {w : World}
set_option maxRecDepth 100000 in
set_option maxHeartbeats 6400000 in
theorem alike26_walk (hT : TabAt w) {A1 A2 A3 : Option Addr} {c1 c2 c3 : Nat} {x : LaidC} (hL : LaidCAt w A1 A2 A3 x) :
    Gets Tryz.prog 6 #[.agg (laidV x A1 A2 A3 c1 c2 c3).toArray] w (.bool true) := by
  have HT := hid hT
  have HGB := hid ((Gr.refl w).alloc (.cells (laidV x A1 A2 A3 c1 c2 c3).toArray 25))
  have hrb := Rec.new w 25 (laidV x A1 A2 A3 c1 c2 c3)
  obtain ⟨W1, hW1⟩ : ∃ W1, W1 = w.alloc (.cells (laidV x A1 A2 A3 c1 c2 c3).toArray 25) := ⟨_, rfl⟩
  rw [← hW1] at hrb HGB
  have HLY := hid (lay24_walk (c1 := c1) (c2 := c2) (c3 := c3) (hL.gr HGB.out) (more := 0) (by omega))
  have HFAR := hid (fun W => far24 (.int .u8 x.pg) (.int .u8 x.bk) (.int .u8 x.st) (.int .u8 x.ah) A1 A2 A3 x.H.length x.P.length x.R.length c1 c2 c3 W)
  have HLEN : Hid (x.R.length ≤ 9223372036854775807) := ⟨hL.lr⟩
  unfold laidV at hW1 hrb HLY ⊢
  have HRB := hid hrb
  have z0 := hrb.cell (j := 0) rfl
  have z1 := hrb.cell (j := 1) rfl
  have z2 := hrb.cell (j := 2) rfl
  have z3 := hrb.cell (j := 3) rfl
  have z4 := hrb.cell (j := 4) rfl
  have z5 := hrb.cell (j := 5) rfl
  have z6 := hrb.cell (j := 6) rfl
  have zl := hrb.lt
  obtain ⟨fb, hfb⟩ : ∃ b, b = farC x.H.length x.P.length x.R.length := ⟨_, rfl⟩
  rw [← hfb] at HFAR
  have HFB := hid hfb
  clear hT hL hrb hfb
  obtain ⟨N1, hN1⟩ : ∃ N, N = x.H.length := ⟨_, rfl⟩
  obtain ⟨N2, hN2⟩ : ∃ N, N = x.P.length := ⟨_, rfl⟩
  obtain ⟨N3, hN3⟩ : ∃ N, N = x.R.length := ⟨_, rfl⟩
  have HN3 := hid hN3
  rw [← hN1, ← hN2, ← hN3] at HLY HFAR HRB
  rw [← hN1, ← hN2, ← hN3]
  rw [← hN1] at z1 hW1
  rw [← hN2] at z2 hW1
  rw [← hN3] at z3 hW1
  have HWL := hid hW1
  clear hN1 hN2 hN3
  unfold Gets
  go_enter Tryz.func6, Tryz.ntmps6
  go_upto_region 1 with (fail)
  rw [show w.alloc (.cells #[.int .u8 x.pg, .slice A1 N1 c1, .slice A2 N2 c2, .slice A3 N3 c3, .int .u8 x.bk, .int .u8 x.st, .int .u8 x.ah] 25) = W1 from hW1.symm]
  clear hW1 HWL
  go_upto_region 2 with (go_at_call 13; refine HLY.out.mono ?_; rintro e w1 ⟨hp, q, r, g, A, c, v0, SV, rfl, hg1, hrn, hz0, hvm, hrt, hrec, hwr, hsv, hs1, hs2, hs3, hs4, hs5⟩; have HG := hid (HGB.out.trans hg1); have HV := hid hvm; have HRN := hid hrn; have HRT := hid hrt; have HRC := hid hrec; have HWR := hid hwr; have HSV := hid (And.intro hsv (And.intro hs1 (And.intro hs2 (And.intro hs3 (And.intro hs4 hs5))))); have HB1 := hid (HRB.out.gr hg1); clear hg1 hrn hz0 hvm hrt hrec hwr hsv hs1 hs2 hs3 hs4 hs5)
  clear z0 z1 z2 z3 z4 z5 z6 zl
  have z0 := HB1.out.cell (j := 0) rfl
  have z1 := HB1.out.cell (j := 1) rfl
  have z2 := HB1.out.cell (j := 2) rfl
  have z3 := HB1.out.cell (j := 3) rfl
  have z4 := HB1.out.cell (j := 4) rfl
  have z5 := HB1.out.cell (j := 5) rfl
  have z6 := HB1.out.cell (j := 6) rfl
  have zl := HB1.out.lt
  cases fb with
  | true =>
    go_wp2_with (first
      | (go_at_call 14; refine (HFAR.out _).mono ?_; rintro e w2 ⟨rfl, hg2⟩; have HG := hid (HG.out.trans hg2); have HB1 := hid (HB1.out.gr hg2); have z0 := HB1.out.cell (j := 0) rfl; have z1 := HB1.out.cell (j := 1) rfl; have z2 := HB1.out.cell (j := 2) rfl; have z3 := HB1.out.cell (j := 3) rfl; have z4 := HB1.out.cell (j := 4) rfl; have z5 := HB1.out.cell (j := 5) rfl; have z6 := HB1.out.cell (j := 6) rfl; have zl := HB1.out.lt; clear hg2)
      | (go_at_call 27; refine (lives26 (HG.out.tab HT.out.lt HT.out)).mono ?_; rintro e w4 ⟨rfl, hg4⟩; have HG := hid (HG.out.trans hg4); clear hg4))
    go_ret
    exact ⟨rfl, HG.out⟩
  | false =>
    go_upto_region 4 with (go_at_call 14; refine (HFAR.out _).mono ?_; rintro e w2 ⟨rfl, hg2⟩; have HG := hid (HG.out.trans hg2); have HG12 := hid hg2; clear hg2)
    clear z0 z1 z2 z3 z4 z5 z6 zl
    have hst := Stays.layC HRN.out.ok x
    have hs := HRN.out.stays hst
    have hLI := laid_in (x := x) HRN.out.ok HRN.out.map
    obtain ⟨L, hM⟩ := hLI.ex HRN.out.map
    obtain ⟨u, hu, huv⟩ := ghost (n := x.n) (f := fun a => (layC x v0).ldV a) (by have := x.page_pos; unfold LaidC.n; omega) (by have := x.page_pos; unfold LaidC.n; omega) (fun a => hs.ok.ldV_lt _)
    have hwu : Wider (layC x v0) u := ghost_wider hu hs.n huv
    have HMU := hid (hwu.marks hM)
    have HM := hid hM
    have HU := hid hu
    have HUV := hid huv
    have hmk := hLI.marks HRN.out.map hM
    have HSZ : Hid (sizes L ≤ 512) := ⟨hmk.2.1⟩
    have hn11 : x.n ≤ 1100 := by have := x.page_pos; unfold LaidC.n; omega
    have HWR2 : Hid (Wrds w2 A c x.n u) := ⟨by have := HWR.out.gr HG12.out; unfold Wrds at this ⊢; rwa [wrds_congr huv]⟩
    have HC2 := hid (HRC.out.gr HG12.out)
    unfold heapL at HC2
    have HV2 := hid (HV.out.gr HG12.out)
    have HR2 := hid (HRT.out.gr HG12.out)
    have HALL := hid (fun (W : World) (g' : Gr w2 W) => rt_all (HR2.out.gr g'))
    have hrl : x.rs.length ≤ 64 := HRT.out.le
    have HLR := hid hrl
    clear hst hs hLI hM hu huv hwu hmk
    have y1 := HC2.out.cell (j := 1) rfl
    go_upto_region 5 with (go_at_call 16; refine (HALL.out _ (Gr.refl w2)).mono ?_; rintro e w3 ⟨gA, cA, rfl, hg3, hgl3, ho3⟩; have HG3 := hid hg3; have HWS := hid ho3; have HGA : Hid (w2.heap.size ≤ gA) := ⟨hgl3⟩; clear hg3 hgl3 ho3)
    clear y1
    have HC3 := hid (HC2.out.gr HG3.out)
    have HT36 : Hid (∀ W W', Gr w3 W → Touch (fun b => b = g ∨ SV b) W W' → P25 W' x u hp q r gA cA A c ∧ Gr w W') := ⟨fun W W' hW t => by
      have hp3 : P25 W x u hp q r gA cA A c := ⟨(HRC.out.gr HG12.out).gr (HG3.out.trans hW), HWR2.out.gr (HG3.out.trans hW), own_gr HWS.out hW⟩
      refine ⟨hp3.touch t (fun h => ?_) (fun b hb h => ?_) (fun h => ?_), ?_⟩
      · rcases h with h | h
        · exact own_ne HRT.out.row HRC.out (by decide) rfl rfl h.symm
        · exact HSV.out.2.1 h
      · rcases h with h | h
        · exact words_ne HWR2.out HR2.out hb h
        · exact (HSV.out.2.2.2.2.2 b hb).2 h
      · have h1 := HGA.out
        have h2 := HG12.out.size
        rcases h with h | h
        · have := HRT.out.lt.2; omega
        · have := (HSV.out.1 _ h).2; omega
      · have t1 : Touch (fun b => b = g ∨ SV b) w W' := ((HG.out.trans (HG3.out.trans hW)).touch _).trans t
        refine (t1.mono (T := fun _ => False) (fun i hi h => ?_)).gr
        have hz := HGB.out.size
        rcases h with h | h
        · have := HSV.out.2.2.2.2.1.2.2; omega
        · have := (HSV.out.1 i h).1; omega⟩
    have hstk : 1 ≤ (x.cf.st : Int) ∧ (x.cf.st : Int) ≤ 4096 := by show 1 ≤ ((x.st % 20 + 1 : Nat) : Int) ∧ ((x.st % 20 + 1 : Nat) : Int) ≤ 4096; omega
    have HSTK := hid hstk
    have HRUN := hid (fun (W : World) (hW : Gr w2 W) => (pk24_run HRN.out (HV2.out.gr hW) (HR2.out.gr hW) HT.out (HG.out.trans hW) (fun i hi => by have := (HSV.out.1 i hi).1; have := HGB.out.size; omega) HSV.out.2.2.1 HSV.out.2.2.2.1 (x.cf.fr : Nat) (x.cf.tp : Nat) (x.cf.st : Nat)).mono (fun e w' h => run26_ok HRN.out HM.out HSTK.out.1 HSTK.out.2 h))
    obtain ⟨tt, htt⟩ : ∃ tt : Nat, tt = x.page + sizes L := ⟨_, rfl⟩
    rw [← htt] at HRUN
    have HTT := hid htt
    clear hstk htt
    obtain ⟨Sx, hSx⟩ : ∃ Sx : World → Prop, Sx = fun W' => Rec W' hp 37 [.pointer (some ⟨q, 0, none⟩), .pointer (some ⟨r, 0, none⟩), .int .i64 x.cf.fr, .int .i64 x.cf.tp, .int .i64 x.cf.to, .int .i64 x.cf.lm, .int .i64 x.cf.bk, .int .i64 x.cf.st, .int .i64 x.cf.ah, .slice A x.n c, .int .i64 (x.page : Nat)] := ⟨_, rfl⟩
    have x0 : ∀ p : Held Sx, p.w.cell? ⟨hp, 0, none⟩ = some (.pointer (some ⟨q, 0, none⟩)) := fun p => by have h := Held.get hSx p; exact h.cell (j := 0) rfl
    have x1 : ∀ p : Held Sx, p.w.cell? ⟨hp, 1, none⟩ = some (.pointer (some ⟨r, 0, none⟩)) := fun p => by have h := Held.get hSx p; exact h.cell (j := 1) rfl
    have x2 : ∀ p : Held Sx, p.w.cell? ⟨hp, 2, none⟩ = some (.int .i64 x.cf.fr) := fun p => by have h := Held.get hSx p; exact h.cell (j := 2) rfl
    have x3 : ∀ p : Held Sx, p.w.cell? ⟨hp, 3, none⟩ = some (.int .i64 x.cf.tp) := fun p => by have h := Held.get hSx p; exact h.cell (j := 3) rfl
    have x7 : ∀ p : Held Sx, p.w.cell? ⟨hp, 7, none⟩ = some (.int .i64 x.cf.st) := fun p => by have h := Held.get hSx p; exact h.cell (j := 7) rfl
    have HS : Hid (∀ W', Rec W' hp 37 [.pointer (some ⟨q, 0, none⟩), .pointer (some ⟨r, 0, none⟩), .int .i64 x.cf.fr, .int .i64 x.cf.tp, .int .i64 x.cf.to, .int .i64 x.cf.lm, .int .i64 x.cf.bk, .int .i64 x.cf.st, .int .i64 x.cf.ah, .slice A x.n c, .int .i64 (x.page : Nat)] → Sx W') := ⟨fun W' h => by rw [hSx]; exact h⟩
    have hS0 := HS.out _ (HC3.out.gr (Gr.refl w3).drew)
    have inst : Inhabited (Held Sx) := ⟨⟨_, hS0⟩⟩
    clear hSx
    refine wp_region_mixS Sx 29 [([0, 1, 2, 3, 4, 5, 6, 7, 8, 9, 10, 11, 12, 13, 14, 15, 16, 17, 18, 19, 20, 21, 22], 23)] [24, 25, 26, 27, 28] (by kernel_rfl) (by kernel_rfl) hS0 ?_
    refine segs_step ?_
    try simp only [opsAt, List.getElem?_cons_zero, List.getElem?_cons_succ]
    repeat (go_big_quiet_step (fail))
    refine wpQuiet_nil ?_
    go_wp2_with ((go_at_call 28; refine (HRUN.out _ HG3.out.drew).mono ?_; rintro e w6 ⟨rfl, ht6, hnd, hall, v1, v2, j, hD, hv6, hr6⟩; have HP6 := hid (HT36.out _ _ (Gr.refl w3).drew ht6); have HT6 := hid ht6; have HV6 := hid hv6; have HR6 := hid hr6; have HD6 := hid (And.intro hD (And.intro hnd hall)); clear ht6 hnd hall hD hv6 hr6))
    refine ⟨.inr (Held.of (HS.out _ (HP6.out.1.hb))), ?_⟩
    refine segs_end ?_
    try simp only [opsAt, List.getElem?_cons_zero, List.getElem?_cons_succ]
    repeat (go_big_quiet_step (fail))
    refine wpQuiet_nil ?_
    refine NoPanic.normal ?_
    clear x0 x1 x2 x3 x7 hS0 inst
    clear HS Sx
    have HC6 := hid HP6.out.1.hb
    unfold heapL at HC6
    obtain ⟨hD, hnd, hall⟩ := HD6.out
    rw [HTT.out] at hnd hall
    have hs := HRN.out.stays (Stays.layC HRN.out.ok x)
    have hbase := hD.base
    have htn : x.page + sizes L ≤ (layC x v0).n := by rw [hs.n]; have := x.top_le; unfold LaidC.n; omega
    have hpk := pk_packed hD hs.ok hnd htn (by rw [hs.n]; exact HM.out) (by rw [hs.n]; exact HU.out) (fun a ha => HUV.out a (by rw [← hs.n]; exact ha))
    rw [hs.n] at hpk
    obtain ⟨vA, hvA⟩ : ∃ vA, vA = pkUm (layC x v0) v2 x.page (x.page + sizes L) j := ⟨_, rfl⟩
    rw [← hvA] at hpk hbase
    have hvm6 := HV6.out
    rw [HTT.out, ← hvA] at hvm6
    have hnA : vA.n = x.n := hbase.1.trans hs.n
    have hokA := hbase.2.2.2.1
    have HPK := hid hpk
    have HNA := hid hnA
    have HOKA := hid hokA
    obtain ⟨S6, hS6⟩ : ∃ S6, S6 = cutS (plus SV w3.drew) w6 := ⟨_, rfl⟩
    have HVA : Hid (VmAt w6 S6 q vA) := ⟨by rw [hS6]; exact hvm6.cut⟩
    have HS6 : Hid (∀ b, S6 b → (SV b ∨ w3.heap.size ≤ b) ∧ b < w6.heap.size) := ⟨fun b hb => by rw [hS6] at hb; exact hb⟩
    clear hD hnd hall hs hbase htn hpk hvA hvm6 hnA hokA hS6 HV6
    obtain ⟨ub, hub, hubv⟩ := ghost (n := x.n) (f := fun a => vA.ldV a) (by have := x.page_pos; unfold LaidC.n; omega) (by have := x.page_pos; unfold LaidC.n; omega) (fun a => HOKA.out.ldV_lt _)
    have HLDD : Hid (∀ W, Gr w6 W → Calls Tryz.prog 19 #[.pointer (some ⟨q, 0, none⟩)] W fun e w' => ∃ (B : Option Addr) (cB : Nat), e = .returned (.slice B x.n cB) ∧ Gr W w' ∧ (∀ b, (Value.slice B x.n cB).ownBlock = some b → W.heap.size ≤ b) ∧ Wrds w' B cB x.n ub) := ⟨fun W hg => by
      have h := loaded25 (HVA.out.gr hg) (by rw [HNA.out]; exact hn11)
      rw [HNA.out] at h
      refine h.mono ?_
      rintro e w' ⟨B, cB, rfl, hg', ho⟩
      refine ⟨B, cB, rfl, hg', fun b hb => (own_lt ho hb).1, ?_⟩
      unfold Wrds
      rw [wrds_congr hubv]
      exact own_zero ho⟩
    obtain ⟨ro, hro⟩ : ∃ ro, ro = x.rs.map (toV L x.page) := ⟨_, rfl⟩
    have HRO := hid hro
    have hr6 := HR6.out
    rw [← hro] at hr6
    have HR6 := hid hr6
    have HROL : Hid (ro.length = x.rs.length) := ⟨by rw [hro, List.length_map]⟩
    have HAL6 := hid (fun (W : World) (g' : Gr w6 W) => rt_all (HR6.out.gr g'))
    rw [HROL.out] at HAL6
    obtain ⟨k', hk'⟩ := ord_ends HMU.out
    obtain ⟨O, hOe⟩ : ∃ O, O = ordC u x.rs k' := ⟨_, rfl⟩
    have hrow := row_ord HMU.out k'
    rw [← hOe] at hrow hk'
    have hpg := HPK.out.ghost hub hubv
    have hOH : ∀ b ∈ O, Hs L b := fun b hb => HMU.out.all _ (hrow.rc b hb)
    have HALK : Hid (∀ (W : World) (B : Option Addr) (cB g8 c8 : Nat), Gr w6 W → Wrds W B cB x.n ub → IntsAt W (some ⟨g8, 0, none⟩) ro → Calls Tryz.prog 18 #[.slice A x.n c, .slice B x.n cB, .slice (some ⟨gA, 0, none⟩) x.rs.length cA, .slice (some ⟨g8, 0, none⟩) x.rs.length c8] W fun e w' => e = .returned (.bool true) ∧ Gr W w') := ⟨fun W B cB g8 c8 hg hB h8 => alike25 (F := toV L x.page) HU.out hub (HP6.out.1.gr hg).wd hB (HP6.out.1.gr hg).ints h8 hro HLR.out HMU.out hn11 hOe hk' hrow hpg.zero (hpg.inj hOH) (fun p hp => hpg.copied (hOH p hp))⟩
    clear hk' hOe hrow hpg hOH hro hr6 hub HRUN HT36
    go_upto_region 8 with (fail)
    obtain ⟨Sx, hSx⟩ : ∃ Sx : World → Prop, Sx = fun W' => Gr w6 W' := ⟨_, rfl⟩
    have x0 : ∀ p : Held Sx, p.w.cell? ⟨hp, 0, none⟩ = some (.pointer (some ⟨q, 0, none⟩)) := fun p => by have h := Held.get hSx p; exact (HC6.out.gr h).cell (j := 0) rfl
    have x1 : ∀ p : Held Sx, p.w.cell? ⟨hp, 1, none⟩ = some (.pointer (some ⟨r, 0, none⟩)) := fun p => by have h := Held.get hSx p; exact (HC6.out.gr h).cell (j := 1) rfl
    have HS : Hid (∀ W', Gr w6 W' → Sx W') := ⟨fun W' h => by rw [hSx]; exact h⟩
    have hS0 := HS.out _ ((Gr.refl w6).drew)
    have inst : Inhabited (Held Sx) := ⟨⟨_, hS0⟩⟩
    clear hSx
    refine wp_region_mixS Sx 12 [([0, 1, 2, 3, 5, 6, 7, 8], 4), ([], 9)] [10, 11] (by kernel_rfl) (by kernel_rfl) hS0 ?_
    refine segs_step ?_
    try simp only [opsAt, List.getElem?_cons_zero, List.getElem?_cons_succ]
    repeat (go_big_quiet_step (fail))
    refine wpQuiet_nil ?_
    go_wp2_with ((go_at_call 19; refine (HLDD.out _ (Gr.refl w6).drew).mono ?_; rintro e w7 ⟨B, cB, rfl, hg7, hB7, ho7⟩; have HG7 := hid ((Gr.refl w6).drew.trans hg7); have HB7 := hid ho7; have HBB := hid hB7; clear hg7 ho7 hB7))
    refine ⟨.inr (Held.of (HS.out _ (HG7.out))), ?_⟩
    refine segs_step ?_
    try simp only [opsAt, List.getElem?_cons_zero, List.getElem?_cons_succ]
    repeat (go_big_quiet_step (fail))
    refine wpQuiet_nil ?_
    go_wp2_with ((go_at_call 16; refine (HAL6.out _ HG7.out).mono ?_; rintro e w8 ⟨g8, c8, rfl, hg8, hgl8, ho8⟩; have HG8 := hid (HG7.out.trans hg8); have HO8 := hid ho8; have HB8 := hid (HB7.out.gr hg8); have HGL8 := hid (Nat.le_trans HG7.out.size hgl8); clear hg8 hgl8 ho8))
    refine ⟨.inr (Held.of (HS.out _ (HG8.out))), ?_⟩
    refine segs_end ?_
    try simp only [opsAt, List.getElem?_cons_zero, List.getElem?_cons_succ]
    repeat (go_big_quiet_step (fail))
    refine wpQuiet_nil ?_
    refine NoPanic.normal ?_
    clear x0 x1 hS0 inst
    clear HS Sx
    have HC8 := hid (HC6.out.gr HG8.out)
    have y9 := HC8.out.cell (j := 9) rfl
    go_upto_region 11 with (go_at_call 18; refine (HALK.out _ B cB g8 c8 HG8.out HB8.out (own_ints HO8.out (by rw [HROL.out]))).mono ?_; rintro e w9 ⟨rfl, hg9⟩; have HG9 := hid (HG8.out.trans hg9); have HB9 := hid (HB8.out.gr hg9); have HO9 := hid (own_gr HO8.out hg9); clear hg9)
    clear y9
    have hz6 := HT6.out.size
    have hr2 := HR2.out.lt
    have hzd : w3.drew.heap.size = w3.heap.size := rfl
    have hz23 := HG3.out.size
    have HNS6 : Hid (∀ b, ¬ SV b → b < w3.heap.size → ¬ S6 b) := ⟨fun b h1 h2 h => (HS6.out b h).1.elim h1 (fun h => by omega)⟩
    have HRUN := hid (fun (W : World) (hW : Gr w9 W) => (pk_run (HVA.out.gr (HG9.out.trans hW)) (by rw [HNA.out]; have := x.page_pos; unfold LaidC.n; omega) (HR6.out.gr (HG9.out.trans hW)) ((HP6.out.2.trans (HG9.out.trans hW)).tab HT.out.lt HT.out) (fun h => (HS6.out _ h).1.elim (fun h => by have := (HSV.out.1 _ h).1; have := HGB.out.size; have := HT.out.lt; omega) (fun h => by have := HT.out.lt; have := (HG.out.trans HG3.out).size; omega)) (HNS6.out r HSV.out.2.2.1 (by omega)) (HNS6.out g HSV.out.2.2.2.1 (by omega)) (x.cf.fr : Nat) (tt : Nat) (x.cf.st : Nat)).mono (fun e w' h => HPK.out.again HOKA.out HNA.out HSTK.out.1 HSTK.out.2 (by rw [← HRO.out, ← HTT.out]; exact h)))
    rw [← HTT.out, ← HRO.out] at HRUN
    have HT9 : Hid (∀ W W', Gr w9 W → Touch (fun b => b = g ∨ S6 b) W W' → P25 W' x u hp q r gA cA A c ∧ Gr w W' ∧ Wrds W' B cB x.n ub ∧ W'.ownsRow 0 3 1 (.slice (some ⟨g8, 0, none⟩) x.rs.length c8) x.rs.length (zs ro)) := ⟨fun W W' hW t => by
      refine ⟨(HP6.out.1.gr (HG9.out.trans hW)).touch t (fun h => ?_) (fun b hb h => ?_) (fun h => ?_), ?_, own_touch (HB9.out.gr hW) t (fun b hb h => ?_), own_touch (own_gr HO9.out hW) t (fun b hb h => ?_)⟩
      · rcases h with h | h
        · exact own_ne HRT.out.row HRC.out (by decide) rfl rfl h.symm
        · exact HNS6.out _ HSV.out.2.1 (by have := HC3.out.lt; exact this) h
      · rcases h with h | h
        · exact words_ne HWR2.out HR2.out hb h
        · exact HNS6.out _ (HSV.out.2.2.2.2.2 b hb).2 (by have := (own_lt HWR2.out hb).2; omega) h
      · have h1 := HGA.out
        have h2 := HG12.out.size
        rcases h with h | h
        · have := HRT.out.lt.2; omega
        · exact HNS6.out gA (fun h => by have := (HSV.out.1 gA h).2; omega) (own_lt HWS.out rfl).2 h
      · have t1 : Touch (fun b => b = g ∨ S6 b) w W' := ((HP6.out.2.trans (HG9.out.trans hW)).touch _).trans t
        refine (t1.mono (T := fun _ => False) (fun i hi h => ?_)).gr
        have hz := HGB.out.size
        have hz2 := (HG.out.trans HG3.out).size
        rcases h with h | h
        · have := HSV.out.2.2.2.2.1.2.2; omega
        · exact (HS6.out i h).1.elim (fun h => by have := (HSV.out.1 i h).1; omega) (fun h => by omega)
      · have h1 := HBB.out b hb
        have h2 : w6.drew.heap.size = w6.heap.size := rfl
        rcases h with h | h
        · omega
        · have := (HS6.out b h).2; omega
      · have h1 : b = g8 := (Option.some.inj hb).symm
        have h2 := HGL8.out
        have h3 : w6.drew.heap.size = w6.heap.size := rfl
        rcases h with h | h
        · omega
        · have := (HS6.out b h).2; omega⟩
    have HC9 := hid (HC6.out.gr HG9.out)
    clear hr2 hz23 hzd
    obtain ⟨Sx, hSx⟩ : ∃ Sx : World → Prop, Sx = fun W' => Rec W' hp 37 [.pointer (some ⟨q, 0, none⟩), .pointer (some ⟨r, 0, none⟩), .int .i64 x.cf.fr, .int .i64 x.cf.tp, .int .i64 x.cf.to, .int .i64 x.cf.lm, .int .i64 x.cf.bk, .int .i64 x.cf.st, .int .i64 x.cf.ah, .slice A x.n c, .int .i64 (x.page : Nat)] := ⟨_, rfl⟩
    have x0 : ∀ p : Held Sx, p.w.cell? ⟨hp, 0, none⟩ = some (.pointer (some ⟨q, 0, none⟩)) := fun p => by have h := Held.get hSx p; exact h.cell (j := 0) rfl
    have x1 : ∀ p : Held Sx, p.w.cell? ⟨hp, 1, none⟩ = some (.pointer (some ⟨r, 0, none⟩)) := fun p => by have h := Held.get hSx p; exact h.cell (j := 1) rfl
    have x2 : ∀ p : Held Sx, p.w.cell? ⟨hp, 2, none⟩ = some (.int .i64 x.cf.fr) := fun p => by have h := Held.get hSx p; exact h.cell (j := 2) rfl
    have x7 : ∀ p : Held Sx, p.w.cell? ⟨hp, 7, none⟩ = some (.int .i64 x.cf.st) := fun p => by have h := Held.get hSx p; exact h.cell (j := 7) rfl
    have HS : Hid (∀ W', Rec W' hp 37 [.pointer (some ⟨q, 0, none⟩), .pointer (some ⟨r, 0, none⟩), .int .i64 x.cf.fr, .int .i64 x.cf.tp, .int .i64 x.cf.to, .int .i64 x.cf.lm, .int .i64 x.cf.bk, .int .i64 x.cf.st, .int .i64 x.cf.ah, .slice A x.n c, .int .i64 (x.page : Nat)] → Sx W') := ⟨fun W' h => by rw [hSx]; exact h⟩
    have hS0 := HS.out _ (HC9.out.gr (Gr.refl w9).drew)
    have inst : Inhabited (Held Sx) := ⟨⟨_, hS0⟩⟩
    clear hSx
    refine wp_region_mixS Sx 25 [([0, 1, 2, 3, 4, 5, 6, 7, 8, 9, 10, 11, 12, 13, 14, 15, 16, 17, 18], 19)] [20, 21, 22, 23, 24] (by kernel_rfl) (by kernel_rfl) hS0 ?_
    refine segs_step ?_
    try simp only [opsAt, List.getElem?_cons_zero, List.getElem?_cons_succ]
    repeat (go_big_quiet_step (fail))
    refine wpQuiet_nil ?_
    go_wp2_with ((go_at_call 28; refine (HRUN.out _ (Gr.refl w9).drew).mono ?_; rintro e w11 ⟨rfl, ht11, vb, hvb, hnb, hlb, hrb⟩; have HP11 := hid (HT9.out _ _ (Gr.refl w9).drew ht11); have HVB := hid hvb; have HNB := hid (And.intro hnb hlb); have HR11 := hid hrb; clear ht11 hvb hnb hlb hrb))
    refine ⟨.inr (Held.of (HS.out _ (HP11.out.1.hb))), ?_⟩
    refine segs_end ?_
    try simp only [opsAt, List.getElem?_cons_zero, List.getElem?_cons_succ]
    repeat (go_big_quiet_step (fail))
    refine wpQuiet_nil ?_
    refine NoPanic.normal ?_
    clear x0 x1 x2 x7 hS0 inst
    clear HS Sx
    clear HRUN HT9
    have HLDB : Hid (∀ W, Gr w11 W → Calls Tryz.prog 19 #[.pointer (some ⟨q, 0, none⟩)] W fun e w' => ∃ (B : Option Addr) (cB : Nat), e = .returned (.slice B x.n cB) ∧ Gr W w' ∧ Wrds w' B cB x.n ub) := ⟨fun W hg => by
      have h := loaded25 (HVB.out.gr hg) (by rw [HNB.out.1]; exact hn11)
      rw [HNB.out.1] at h
      refine h.mono ?_
      rintro e w' ⟨B, cB, rfl, hg', ho⟩
      refine ⟨B, cB, rfl, hg', ?_⟩
      unfold Wrds
      rw [wrds_congr (fun a ha => (hubv a ha).trans (HNB.out.2 a ha).symm)]
      exact own_zero ho⟩
    have HAL11 := hid (rt_all HR11.out)
    rw [HROL.out] at HAL11
    have HC11 := hid HP11.out.1.hb
    unfold heapL at HC11
    have y0 := HC11.out.cell (j := 0) rfl
    have y1 := HC11.out.cell (j := 1) rfl
    obtain ⟨R, hR⟩ : ∃ R, R = x.rs.length := ⟨_, rfl⟩
    have HRE := hid hR
    have hR64 : R ≤ 64 := by rw [hR]; exact HLR.out
    have ho11 := HP11.out.2.2.2
    rw [← hR] at HAL11 ho11
    have HO11 := hid ho11
    rw [← hR]
    clear hR ho11
    go_upto_region 14 with (fail)
    go_upto_region 15 with (go_at_call 16; refine (HAL11.out).mono ?_; rintro e w12 ⟨g12, c12, rfl, hg12, -, ho12⟩; have HG12b := hid hg12; have HO12 := hid ho12; have HO12b := hid (own_gr HO11.out hg12); clear hg12 ho12)
    clear y0 y1
    go_loopw [125] (fun s125 wx => ∃ i : Nat, i ≤ R ∧ wx = w12 ∧ s125 = .int .i64 i) (fun s125 _ => R - (intOf s125).toNat)
    case atStart => exact ⟨0, Nat.zero_le _, rfl, rfl⟩
    case round =>
      obtain ⟨i, hi, hww, rfl⟩ := hrel
      have hww := hww.symm
      subst hww
      by_cases hlt : i < R
      · have hil : i < ro.length := by have := HRE.out; have := HROL.out; omega
        have k1 := own_cell HO12.out (zs_at hil)
        have k2 := own_cell HO12b.out (zs_at hil)
        obtain ⟨y, hy⟩ : ∃ y, y = ro[i] := ⟨_, rfl⟩
        rw [← hy] at k1 k2
        have hiI : (i : Int) < (R : Int) := by omega
        have HLT := hid hlt
        clear hy hil hlt
        go_wp2
        go_round
        case rel => exact ⟨i + 1, HLT.out, trivial, by go_num⟩
        case measure => have := HLT.out; simp [intOf]; omega
      · have hiI : ¬ (i : Int) < (R : Int) := by omega
        have HC12 := hid (HC11.out.gr HG12b.out)
        have y0 := HC12.out.cell (j := 0) rfl
        have yl := HC12.out.lt
        have hn1 : x.n ≠ 0 := by have := x.page_pos; unfold LaidC.n; omega
        have HLD12 := hid (HLDB.out _ HG12b.out)
        have HB12 := hid (HP11.out.2.2.1.gr HG12b.out)
        clear hlt
        go_upto_region 21 with (go_at_call 19; refine (HLD12.out).mono ?_; rintro e w13 ⟨B2, cB2, rfl, hg13, ho13⟩; have HG13b := hid hg13; have HO13 := hid ho13; have HB13 := hid (HB12.out.gr hg13); clear hg13 ho13)
        clear y0 yl
        obtain ⟨nn, hnn⟩ : ∃ nn, nn = x.n := ⟨_, rfl⟩
        have HNN := hid hnn
        have hb2 := HO13.out
        have hb1 := HB13.out
        unfold Wrds at hb1 hb2
        rw [← hnn] at hn1 hb1 hb2 hn11
        obtain ⟨gB, cB', eB, -, -, -, hgB⟩ := own_form hb1 hn1
        simp only [Value.slice.injEq] at eB
        obtain ⟨rfl, -, rfl⟩ := eB
        obtain ⟨gw, cw, ew, -, -, -, hgw⟩ := own_form hb2 hn1
        simp only [Value.slice.injEq] at ew
        obtain ⟨rfl, -, rfl⟩ := ew
        have HBB1 := hid hb1
        have HBB2 := hid hb2
        have HEND : Hid (∀ W, Gr w13 W → Gr w W) := ⟨fun W h => HP11.out.2.1.trans ((HG12b.out.trans HG13b.out).trans h)⟩
        clear hb1 hb2 hgB hgw
        rw [← hnn]
        clear hnn hn1
        go_loopw [143] (fun s143 wx => ∃ i : Nat, i ≤ nn ∧ wx = w13 ∧ s143 = .int .i64 i) (fun s143 _ => nn - (intOf s143).toNat)
        case atStart => exact ⟨0, Nat.zero_le _, rfl, rfl⟩
        case round =>
          obtain ⟨i, hi, hww, rfl⟩ := hrel
          have hww := hww.symm
          subst hww
          by_cases hlt : i < nn
          · have k1 := own_cell HBB1.out (wrds_at ub hlt)
            have k2 := own_cell HBB2.out (wrds_at ub hlt)
            obtain ⟨y, hy⟩ : ∃ y, y = ub.ldV (i : Int) := ⟨_, rfl⟩
            rw [← hy] at k1 k2
            have hiI' : (i : Int) < (nn : Int) := by omega
            have HLT := hid hlt
            clear hy hlt
            go_wp2
            go_round
            case rel => exact ⟨i + 1, HLT.out, trivial, by go_num⟩
            case measure => have := HLT.out; simp [intOf]; omega
          · have hiI' : ¬ (i : Int) < (nn : Int) := by omega
            clear hlt
            have HGE := hid (HEND.out _ (Gr.refl _))
            go_wp2_with (go_at_call 27; refine (lives26 (HGE.out.tab HT.out.lt HT.out)).mono ?_; rintro e w9' ⟨rfl, hg9⟩; have HG9' := hid hg9; clear hg9)
            go_ret
            exact ⟨rfl, HGE.out.trans HG9'.out⟩
end
end Go.Proofs.YtbmidhlilafgeaaGreatDoor
end
