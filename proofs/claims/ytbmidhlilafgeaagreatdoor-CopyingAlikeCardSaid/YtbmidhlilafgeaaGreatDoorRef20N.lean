/- The reference of layer 20: Reached, on any number of words. -/
import Derived.Test.YtbmidhlilafgeaaGreatDoorRef20
import Derived.Test.YtbmidhlilafgeaaGreatDoorKMB
namespace Go.Proofs.YtbmidhlilafgeaaGreatDoor
open Go.RowKit Word

section
variable {w : World} {A0 A : Option Addr} {cp cr n M : Nat} {v : Vm} {rs : List Int}
set_option maxRecDepth 100000 in
set_option maxHeartbeats 6400000 in
theorem ref20n_reached (hf : FullN M v) (hW : Wrds w A0 cp M v) (hA : IntsAt w A rs) (hlen : rs.length ≤ 64) (hn1 : n ≤ 1100) : Calls Tryz.prog 78 #[.slice A0 M cp, .slice A rs.length cr, .int .i64 n] w (ReachEnd w v rs n) := by
  have HW := hid hW
  have HA := hid hA
  have HF := hid hf
  obtain ⟨ii, hii, hi0, hi1, hi2⟩ := info_parts infoIntV
  obtain ⟨R, hR⟩ : ∃ R, R = rs.length := ⟨_, rfl⟩
  have HRL := hid hR
  rw [← hR] at hlen ⊢
  clear hW hA hf hR
  go_enter Tryz.func78, Tryz.ntmps78
  go_wp2_with (fail)
  go_loopw [8, 9] (fun s8 s9 wr => ∃ (j N : Nat) (T : List Int) (vL : Value), j ≤ R ∧ N ≤ j ∧ Hid (Todo w wr vL N T) ∧ Hid (RowT v rs T ∧ ∀ r ∈ rs.take j, r ≠ 0 → r ∈ T) ∧ Hid (Touch (fun i => w.heap.size ≤ i) w wr) ∧ s8 = vL ∧ s9 = .int .i64 j) (fun _ s9 _ => R - (intOf s9).toNat)
  case atStart => exact ⟨0, 0, [], _, Nat.zero_le _, Nat.le_refl _, ⟨⟨own_nil _ _ _ _, rfl⟩⟩, ⟨RowT.nil _ _, fun r h => (by simp at h)⟩, ⟨Touch.refl _ _⟩, rfl, rfl⟩
  case round =>
    obtain ⟨j, N, T, vL, hj, hNj, HO, HP, HT, rfl, rfl⟩ := hrel
    obtain ⟨TA, tc, rfl, hc1, hc2⟩ := own_shape HO.out.own
    unfold maxLen at hc2
    by_cases hlast : j < R
    · have hjl : j < rs.length := by have := HRL.out; omega
      obtain ⟨b, o, rfl, hb, e0⟩ := HA.out j hjl
      have e0 := (HT.out.cell hb (by omega) _).trans e0
      have HTK : Hid (rs.take (j + 1) = rs.take j ++ [rs[j]] ∧ rs[j] ∈ rs) := ⟨List.take_succ_eq_append_getElem hjl, List.getElem_mem hjl⟩
      obtain ⟨y, hy⟩ : ∃ y, y = rs[j] := ⟨_, rfl⟩
      rw [← hy] at e0 HTK
      have HJ := hid hlast
      have hjI : (j : Int) < (R : Int) := by omega
      have hNb : N ≤ 64 := by omega
      have HNJ := hid hNj
      clear hb hy hlast hj hNj
      by_cases hy0 : y = 0
      · subst hy0
        go_wp2
        go_round
        case rel =>
          refine ⟨j + 1, N, T, _, HJ.out, by have := HNJ.out; omega, HO, ⟨HP.out.1, fun r h h0 => ?_⟩, HT, rfl, by go_num⟩
          rw [HTK.out.1] at h
          rcases List.mem_append.1 h with h | h
          · exact HP.out.2 r h h0
          · exact absurd (List.mem_singleton.1 h) h0
        case measure => have := HJ.out; simp [intOf]; omega
      · have d0 : (y != 0) = true := by simpa using hy0
        have HY := hid hy0
        have HI := hid (fun W (g : Gr wr W) => ref20_in (cp := tc) (HO.out.gr g).at HO.out.len (by unfold maxLen; omega) y)
        by_cases hm : y ∈ T
        · rw [decide_eq_true hm] at HI
          have HM := hid hm
          clear hm
          go_wp2_with (go_at_call 140; refine (HI.out _ (Gr.refl _)).mono ?_; rintro e w1 ⟨rfl, rfl⟩)
          go_round
          case rel =>
            refine ⟨j + 1, N, T, _, HJ.out, by have := HNJ.out; omega, HO, ⟨HP.out.1, fun r h h0 => ?_⟩, HT, rfl, by go_num⟩
            rw [HTK.out.1] at h
            rcases List.mem_append.1 h with h | h
            · exact HP.out.2 r h h0
            · rw [List.mem_singleton.1 h]; exact HM.out
          case measure => have := HJ.out; simp [intOf]; omega
        · rw [decide_eq_false hm] at HI
          have HM := hid hm
          clear hm
          go_wp2_with (first
            | (go_at_call 140; refine (HI.out _ (Gr.refl _)).mono ?_; rintro e w1 ⟨rfl, rfl⟩)
            | (at_builtin; refine wpList_append_lies _ rfl _ _ 30 rfl w.heap.size 3 ii _ 1 8 Tryz.underlying30 hii hi0 hi1 hi2 rfl (by decide) (.slice TA N tc) N (zs T) rfl (HO.out.own.alloc _) ⟨wr.heap.size, 0, none⟩ 1 1 [.int .i64 y] rfl rfl (World.news_of_block (cs := #[.int .i64 y]) (t := 3) (fr := (0, 0)) (heap_alloc_new wr (.cells #[.int .i64 y] 3))) (by simp [Value.oneCell']) (by omega) (by unfold maxLen; omega) (by omega) (by have := HT.out.size; rw [World.size_alloc]; omega) (wr.heap.size + 1) (by simp) ?_; intro g3 c3 w3 hown3 hgrow3 hat3 hlt3; have t3 : Touch (fun k => (Value.slice TA N tc).ownBlock = some k) wr w3 := (((Gr.refl _).alloc _).touch _).trans (grown_touch hgrow3 _ (fun k e _ => e)); have HT3 := hid t3; have HO3 := hid hown3; clear hown3 hgrow3 hat3 hlt3 t3))
          go_round
          case rel =>
            refine ⟨j + 1, N + 1, T ++ [y], .slice (some ⟨g3, 0, none⟩) (N + 1) c3, HJ.out, by have := HNJ.out; omega, ⟨⟨?_, by rw [List.length_append, HO.out.len]; rfl⟩⟩, ⟨HP.out.1.push HY.out (Rch.root HTK.out.2 HY.out) HM.out, fun r h h0 => ?_⟩, ⟨HT.out.trans (HT3.out.mono (fun i _ h => (own_lt HO.out.own h).1))⟩, rfl, by go_num⟩
            · unfold zs; rw [List.map_append]; exact HO3.out
            · rw [HTK.out.1] at h
              rcases List.mem_append.1 h with h | h
              · exact List.mem_append.2 (.inl (HP.out.2 r h h0))
              · exact List.mem_append.2 (.inr h)
          case measure => have := HJ.out; simp [intOf]; omega
    · obtain rfl : R = j := by omega
      have HS := hid (RefI.start (n := n) HP.out.1 (by have := HP.out.2; rwa [HRL.out, List.take_length] at this))
      clear hlast hj HP hc1 hc2
      go_wp2_with (fail)
      clear HRL
      go_loopw [8, 10, 11] (fun s8 s10 s11 wr => ∃ (i N : Nat) (T : List Int) (vL : Value) (OA : Option Addr) (oc : Nat) (L : List Ob), i ≤ n ∧ N ≤ 64 + 255 * i ∧ Hid (Todo w wr vL N T) ∧ Hid (RefI v rs n i T L) ∧ Hid (ObjsAt wr OA L) ∧ Hid (∀ a, OA = some a → vL.ownBlock ≠ some a.block) ∧ Hid (Touch (fun i => w.heap.size ≤ i) w wr) ∧ s8 = vL ∧ s10 = .slice OA L.length oc ∧ s11 = .int .i64 i) (fun _ _ s11 _ => n + 1 - (intOf s11).toNat)
      case atStart => exact ⟨0, N, T, _, none, 0, [], Nat.zero_le _, by omega, HO, HS, ⟨fun i h => absurd h (Nat.not_lt_zero _)⟩, ⟨fun a h => by cases h⟩, HT, rfl, rfl, rfl⟩
      case round =>
        clear HS HO HT
        obtain ⟨i, N, T, vL, OA, oc, L, hin, hNi, HO, HR, HB, HD, HT, rfl, rfl, rfl⟩ := hrel
        have hNT := HO.out.len
        obtain ⟨TA, tc, rfl, hc1, hc2⟩ := own_shape HO.out.own
        unfold maxLen at hc2
        have HWr : Hid (Wrds wr A0 cp M v) := ⟨own_touch HW.out HT.out (fun g hg h => by have := (own_lt HW.out hg).2; omega)⟩
        by_cases hi : i < N
        · have hiT : i < T.length := by omega
          obtain ⟨b, tc', ea, hbw, -, -, hbl⟩ := own_form HO.out.own (by omega)
          simp only [Value.slice.injEq] at ea
          obtain ⟨rfl, -, rfl⟩ := ea
          have k0 := own_cell HO.out.own (zs_at hiT)
          have HIT := hid hiT
          obtain ⟨a, ha⟩ : ∃ a, a = T[i] := ⟨_, rfl⟩
          have HA1 : Hid (Rch v rs a) := ⟨by rw [ha]; exact (HR.out.row.rc _ (List.getElem_mem hiT)).2⟩
          rw [← ha] at k0
          have HAE : Hid (∃ h : i < T.length, T[i] = a) := ⟨⟨hiT, ha.symm⟩⟩
          have HII := hid hi
          have hiI : (i : Int) < (N : Int) := by omega
          have HNT := hid hNT
          have HBL := hid hbl
          have HRD := hid (ref15n_read HF.out HWr.out a)
          clear hi hNT hiT ha hbw hbl
          by_cases hE : v.rdE a = 0
          · obtain ⟨hap, hl, p, f, k, hh, hs⟩ := rdE_zero hE
            have hr := ldE_in hl
            rw [hh, hE] at HRD
            have HE := hid (And.intro hE hh)
            have hn4 := HF.out.n
            have ha4 : a < M := by omega
            have HSZ := hid (fun W => ref14_size hs W)
            have hN : hdrN ⟨p, f, k⟩ = 1 + (p : Int) + f + k := if_pos (hdrE_of hs)
            have HOZ : Hid (v.osz a = 1 + (p : Int) + f + k) := ⟨by unfold Vm.osz; rw [hh, hN]⟩
            rw [hN] at HSZ
            have hRec := hid (fun W => Rec.new W 90 [.int .i64 p, .int .i64 f, .int .i64 k])
            clear hE hl hh hN hn4 hr
            unfold hdrV at HRD
            go_upto_region 14 with (go_at_call 74; refine HRD.out.mono ?_; rintro e w1 ⟨rfl, hg1⟩; have HG1 := hid hg1; clear hg1)
            obtain ⟨w2, hw2⟩ : ∃ w2, w2 = w1.alloc (.cells #[.int .i64 p, .int .i64 f, .int .i64 k] 90) := ⟨_, rfl⟩
            have R2 := hRec.out w1
            obtain ⟨hq, hhq⟩ : ∃ hq, hq = w1.heap.size := ⟨_, rfl⟩
            rw [← hhq] at R2 ⊢
            have hg2 : Gr wr w2 := by rw [hw2]; exact HG1.out.alloc _
            have HHQ : Hid (wr.heap.size ≤ hq) := ⟨by rw [hhq]; exact HG1.out.size⟩
            simp only [List.toArray] at R2
            rw [← hw2] at R2 ⊢
            have HG2 := hid hg2
            have HZ2 := hid hg2.size
            have HR2 := hid R2
            have k2 := own_gr HO.out.own hg2
            have k2 := own_cell k2 (zs_at HIT.out)
            rw [HAE.out.2] at k2
            have HK2 := hid k2
            clear hw2 hhq HG1 R2 hg2 k2 hRec
            obtain ⟨Sx, hSx⟩ : ∃ Sx : World → Prop, Sx = fun W' => Gr w2 W' := ⟨_, rfl⟩
            have z0 : ∀ p' : Held Sx, p'.w.cell? ⟨b, i, none⟩ = some (.int .i64 a) := fun p' => ((Held.get hSx p').cell (Nat.lt_of_lt_of_le HBL.out HG2.out.size) i).trans HK2.out
            have z1 : ∀ p' : Held Sx, p'.w.cell? ⟨hq, 0, none⟩ = some (.int .i64 p) := fun p' => (HR2.out.gr (Held.get hSx p')).cell (j := 0) rfl
            have z2 : ∀ p' : Held Sx, p'.w.cell? ⟨hq, 1, none⟩ = some (.int .i64 f) := fun p' => (HR2.out.gr (Held.get hSx p')).cell (j := 1) rfl
            have z3 : ∀ p' : Held Sx, p'.w.cell? ⟨hq, 2, none⟩ = some (.int .i64 k) := fun p' => (HR2.out.gr (Held.get hSx p')).cell (j := 2) rfl
            have hS0 : Sx w2.drew := by rw [hSx]; exact (Gr.refl w2).drew
            have HSX := hid hSx
            have inst : Inhabited (Held Sx) := ⟨⟨_, hS0⟩⟩
            clear hSx
            have HADD := hid (fun W (g : Gr wr W) => ref13_add (c := oc) (HB.out.gr g) HR.out.mkd.good (by omega) a (1 + (p : Int) + f + k))
            unfold AddBack at HADD
            refine wp_region_mixS Sx 14 [([0, 1, 2, 3, 4, 5, 6], 7), ([], 8)] [9, 10, 11, 12, 13] (by kernel_rfl) (by kernel_rfl) hS0 ?_
            refine segs_step ?_
            simp only [opsAt, List.getElem?_cons_zero, List.getElem?_cons_succ]
            repeat (go_big_quiet_step (fail))
            refine wpQuiet_nil ?_
            go_wp2_with (go_at_call 142; refine (HSZ.out _).mono ?_; rintro e w3 ⟨rfl, hg3⟩; have HG3 := hid ((Gr.refl w2).drew.trans hg3); clear hg3)
            refine ⟨.inr (Held.of (by rw [HSX.out]; exact HG3.out)), ?_⟩
            refine segs_step ?_
            simp only [opsAt, List.getElem?_cons_zero, List.getElem?_cons_succ]
            refine wpQuiet_nil ?_
            go_wp2_with (go_at_call 141; refine (HADD.out _ (HG2.out.trans HG3.out)).mono ?_; rintro e w4 ⟨vb, rfl, hb4⟩; have HB4 := hid hb4; clear hb4)
            refine ⟨.inr (Held.of (by rw [HSX.out]; exact HG3.out.trans HB4.out.1)), ?_⟩
            refine segs_end ?_
            simp only [opsAt, List.getElem?_cons_zero, List.getElem?_cons_succ]
            repeat (go_big_quiet_step (fail))
            refine wpQuiet_nil ?_
            refine NoPanic.normal ?_
            have HG4 := hid (HG2.out.trans (HG3.out.trans HB4.out.1))
            have HR4 := hid (HR2.out.gr (HG3.out.trans HB4.out.1))
            obtain ⟨y, hy⟩ : ∃ y, y = addE L n a (1 + (p : Int) + f + k) := ⟨_, rfl⟩
            rw [← hy]
            clear z0 z1 z2 z3 hS0 inst HADD HSX HK2 HG2
            clear Sx
            by_cases hE0 : y = 0
            · subst hE0
              have HAD := hid hy
              obtain ⟨hg4, OB, ob, rfl, hob, hbn⟩ := HB4.out
              have HLN : Hid (addL L n a (1 + (p : Int) + f + k) ≠ []) := ⟨fun h => by have := add_len (L := L) (n := n) hy.symm; rw [h] at this; simp at this⟩
              obtain ⟨L2, hM⟩ : ∃ L2, L2 = addL L n a (1 + (p : Int) + f + k) := ⟨_, rfl⟩
              rw [← hM] at hob HLN ⊢
              have HMM := hid hM
              obtain ⟨go, rfl, hgl, -, -⟩ := hob 0 (List.length_pos_iff.2 HLN.out)
              have HGO : Hid (b ≠ go) := ⟨fun e => by
                subst e
                rcases hbn _ rfl with h | h
                · exact HD.out _ h rfl
                · have := HG3.out.size; have := HBL.out; have := HZ2.out
                  have h : w3.heap.size ≤ b := h
                  omega⟩
              have HOB := hid hob
              have HTD := hid (HO.out.gr HG4.out)
              have HT4 := hid (HT.out.trans (HG4.out.touch (fun i => w.heap.size ≤ i)))
              have HGL := hid hgl
              clear hy hob hbn hM HB4 HG3 HR2 hg4 hgl hc1 hc2
              go_wp2_with (fail)
              have HRW := hid (HR.out.row)
              have HCL : Hid (RowT v rs T ∧ (∃ W, T = T ++ W) ∧ ClT v T a 0) := ⟨⟨HR.out.row, ⟨[], (List.append_nil _).symm⟩, fun i h => absurd h (Nat.not_lt_zero _)⟩⟩
              go_loopw [8, 16] (fun s8 s16 wx => ∃ (q N' : Nat) (U : List Int) (vL : Value), q ≤ p ∧ N' ≤ N + q ∧ Hid (Todo w wx vL N' U) ∧ Hid (RowT v rs U ∧ (∃ W, U = T ++ W) ∧ ClT v U a q) ∧ Hid (ObjsAt wx (some ⟨go, 0, none⟩) L2) ∧ Hid (vL.ownBlock ≠ some go ∧ go < wx.heap.size) ∧ Hid (Rec wx hq 90 [.int .i64 p, .int .i64 f, .int .i64 k]) ∧ Hid (Touch (fun i => w.heap.size ≤ i) w wx) ∧ s8 = vL ∧ s16 = .int .i64 q) (fun _ s16 _ => p - (intOf s16).toNat)
              case atStart => exact ⟨0, N, T, _, Nat.zero_le _, by omega, HTD, HCL, HOB, ⟨⟨fun e => HGO.out (Option.some.inj e), HGL.out⟩⟩, HR4, HT4, rfl, rfl⟩
              case round =>
                clear HTD HCL HOB HR4 HT4 HGL
                obtain ⟨q, N', U, vL, hqp, hNq, HO', HP', HB', HD', HR', HT', rfl, rfl⟩ := hrel
                obtain ⟨W, hW⟩ := HP'.out.2.1
                have HU := hid hW
                have hiU : i < U.length := by rw [hW, List.length_append]; have := HIT.out; omega
                have hUa : U[i] = a := by
                  have e : U[i]? = some a := by rw [hW, List.getElem?_append_left HIT.out, List.getElem?_eq_getElem HIT.out, HAE.out.2]
                  exact Option.some.inj ((List.getElem?_eq_getElem hiU).symm.trans e)
                have hNU := HO'.out.len
                have hiN : i < N' := by omega
                have hiN2 : (i : Int) < (N' : Int) := by omega
                obtain ⟨b', tc', ea, -, -, -, hbl'⟩ := own_form HO'.out.own (by omega)
                obtain ⟨TA', tcc, eb, hd1, hd2⟩ := own_shape HO'.out.own
                unfold maxLen at hd2
                subst ea
                simp only [Value.slice.injEq] at eb
                obtain ⟨rfl, -, rfl⟩ := eb
                have k0 := own_cell HO'.out.own (zs_at hiU)
                rw [hUa] at k0
                have y0 := HR'.out.cell (j := 0) rfl
                have HWx : Hid (Wrds wr A0 cp M v) := ⟨own_touch HW.out HT'.out (fun g hg h => by have := (own_lt HW.out hg).2; omega)⟩
                clear hW hUa hNU hbl'
                by_cases hq2 : q < p
                · have HQ2 := hid hq2
                  have hqI : (q : Int) < (p : Int) := by omega
                  have HNQ := hid hNq
                  have HGT := hid (ref15n_get HF.out HWx.out a q)
                  have HPT : Hid ((q : Int) < (v.rdH a).p) := ⟨by rw [HE.out.2]; exact Int.ofNat_lt.2 hq2⟩
                  have hb6 : N' ≤ 300000 := by omega
                  clear hq2 hqp hNq
                  by_cases hpe : v.ptE a q = 0
                  · have hx := ptV_le hpe
                    have HPE := hid hpe
                    rw [hpe] at HGT
                    obtain ⟨x, hxv⟩ : ∃ x, x = v.ptV a q := ⟨_, rfl⟩
                    rw [← hxv] at HGT hx
                    have HXV := hid hxv
                    clear hpe hxv
                    by_cases hx0 : x = 0
                    · subst hx0
                      have HXV : Hid (v.ptV a q = 0) := ⟨HXV.out.symm⟩
                      go_wp2_with (go_at_call 143; refine HGT.out.mono ?_; rintro e w1 ⟨rfl, hg1⟩; have HG1 := hid hg1; clear hg1)
                      go_round
                      case rel => exact ⟨q + 1, N', U, _, HQ2.out, by have := HNQ.out; omega, ⟨HO'.out.gr HG1.out⟩, ⟨⟨HP'.out.1, HP'.out.2.1, HP'.out.2.2.succ HPE.out (fun h => absurd HXV.out h)⟩⟩, ⟨HB'.out.gr HG1.out⟩, ⟨⟨HD'.out.1, Nat.lt_of_lt_of_le HD'.out.2 HG1.out.size⟩⟩, ⟨HR'.out.gr HG1.out⟩, ⟨HT'.out.trans (HG1.out.touch _)⟩, rfl, by go_num⟩
                      case measure => have := HQ2.out; simp [intOf]; omega
                    · have d1 : (x != 0) = true := by simpa using hx0
                      have d2 : ((x : Int) != 0) = true := by simp; exact hx0
                      have hw0 : (x : Int) % 18446744073709551616 = (x : Int) := by omega
                      have hx1 : ¬ (x : Int) = 0 := by omega
                      have HX0 := hid hx0
                      have HI := hid (fun W (g : Gr wr W) => ref20_in (cp := tc') (HO'.out.gr g).at HO'.out.len (by unfold maxLen; omega) (x : Int))
                      by_cases hm : (x : Int) ∈ U
                      · rw [decide_eq_true hm] at HI
                        have HM := hid hm
                        clear hm
                        go_wp2_with (first
                          | (go_at_call 143; refine HGT.out.mono ?_; rintro e w1 ⟨rfl, hg1⟩; have HG1 := hid hg1; clear hg1)
                          | (go_at_call 140; refine (HI.out _ HG1.out).mono ?_; rintro e w2 ⟨rfl, rfl⟩))
                        go_round
                        case rel => exact ⟨q + 1, N', U, _, HQ2.out, by have := HNQ.out; omega, ⟨HO'.out.gr HG1.out⟩, ⟨⟨HP'.out.1, HP'.out.2.1, HP'.out.2.2.succ HPE.out (fun _ => by rw [← HXV.out]; exact HM.out)⟩⟩, ⟨HB'.out.gr HG1.out⟩, ⟨⟨HD'.out.1, Nat.lt_of_lt_of_le HD'.out.2 HG1.out.size⟩⟩, ⟨HR'.out.gr HG1.out⟩, ⟨HT'.out.trans (HG1.out.touch _)⟩, rfl, by go_num⟩
                        case measure => have := HQ2.out; simp [intOf]; omega
                      · rw [decide_eq_false hm] at HI
                        have HM := hid hm
                        clear hm
                        go_wp2_with (first
                          | (go_at_call 143; refine HGT.out.mono ?_; rintro e w1 ⟨rfl, hg1⟩; have HG1 := hid hg1; have HO1 := hid (HO'.out.gr hg1); clear hg1)
                          | (go_at_call 140; refine (HI.out _ HG1.out).mono ?_; rintro e w2 ⟨rfl, rfl⟩)
                          | (at_builtin; refine wpList_append_lies _ rfl _ _ 30 rfl w.heap.size 3 ii _ 1 8 Tryz.underlying30 hii hi0 hi1 hi2 rfl (by decide) (.slice (some ⟨b', 0, none⟩) N' tc') N' (zs U) rfl (HO1.out.own.alloc _) ⟨w1.heap.size, 0, none⟩ 1 1 [.int .i64 x] rfl rfl (World.news_of_block (cs := #[.int .i64 x]) (t := 3) (fr := (0, 0)) (heap_alloc_new w1 (.cells #[.int .i64 x] 3))) (by simp [Value.oneCell']) (by omega) (by unfold maxLen; omega) (by omega) (by have := HT'.out.size; have := HG1.out.size; rw [World.size_alloc]; omega) (w1.heap.size + 1) (by simp) ?_; intro g3 c3 w3 hown3 hgrow3 hat3 hlt3; have t3 : Touch (fun k => (Value.slice (some ⟨b', 0, none⟩) N' tc').ownBlock = some k) w1 w3 := (((Gr.refl _).alloc _).touch _).trans (grown_touch hgrow3 _ (fun k e _ => e)); have HT3 := hid t3; have HO3 := hid hown3; have HA3 := hid hat3; clear hown3 hgrow3 hat3 hlt3 t3))
                        go_round
                        case rel =>
                          have t1 := (HG1.out.touch (fun k => (Value.slice (some ⟨b', 0, none⟩) N' tc').ownBlock = some k)).trans HT3.out
                          obtain ⟨V, hV⟩ := HP'.out.2.1
                          have hpt : Points v a (x : Int) := ⟨HE.out.1, q, HPT.out, HPE.out, by rw [← HXV.out]; exact HX0.out, by rw [← HXV.out]⟩
                          refine ⟨q + 1, N' + 1, U ++ [(x : Int)], .slice (some ⟨g3, 0, none⟩) (N' + 1) c3, HQ2.out, by have := HNQ.out; omega, ⟨⟨?_, by rw [List.length_append, HO'.out.len]; rfl⟩⟩, ⟨HP'.out.1.push (by have := HX0.out; omega) (HA1.out.step hpt) HM.out, ⟨V ++ [(x : Int)], by rw [hV, List.append_assoc]⟩, (HP'.out.2.2.mono (fun y hy => List.mem_append.2 (.inl hy))).succ HPE.out (fun _ => by rw [← HXV.out]; exact List.mem_append.2 (.inr (List.mem_singleton.2 rfl)))⟩, ⟨HB'.out.touch t1 (fun a e h => by cases e; exact HD'.out.1 h)⟩, ⟨fun e => ?_, Nat.lt_of_lt_of_le HD'.out.2 t1.size⟩, ⟨HR'.out.touch t1 (fun e => own_ne HO'.out.own HR'.out (by decide) e rfl rfl)⟩, ⟨HT'.out.trans (t1.mono (fun i _ h => (own_lt HO'.out.own h).1))⟩, rfl, by go_num⟩
                          · unfold zs; rw [List.map_append]; exact HO3.out
                          · have e : g3 = go := Option.some.inj e
                            subst e
                            rcases HA3.out with h | h
                            · exact HD'.out.1 h
                            · have := HD'.out.2; have := HG1.out.size; omega
                        case measure => have := HQ2.out; simp [intOf]; omega
                  · obtain ⟨y, hy⟩ : ∃ y, y = v.ptE a q := ⟨_, rfl⟩
                    have hyn : ¬ y = 0 := by rw [hy]; exact hpe
                    have d2 : (y != 0) = true := by simpa using hyn
                    have d3 : (y == 0) = false := by simpa using hyn
                    rw [← hy] at HGT
                    have HPE := hid hpe
                    clear hpe hy
                    go_wp2_with (go_at_call 143; refine HGT.out.mono ?_; rintro e w1 ⟨rfl, hg1⟩; have HG1 := hid hg1; clear hg1)
                    go_ret2
                    exact ⟨none, 0, [], false, rfl, (touch_old HT'.out).trans HG1.out, fun h => (by cases h), fun _ hS => HPE.out (hS.pt a HA1.out q HPT.out)⟩
                · obtain rfl : p = q := by omega
                  have HNX : Hid (RefI v rs n (i + 1) U L2) := ⟨by
                    have hA := HAE.out.2
                    have e1 := HOZ.out
                    have := HR.out.next (U := U) HIT.out (by rw [hA]; exact HE.out.1) (by rw [hA, e1]; exact HAD.out.symm) HP'.out.1 HP'.out.2.1 (by
                      rw [hA]
                      intro kk i' _ hi'
                      refine HP'.out.2.2 i' ?_ hi'
                      rw [HE.out.2] at hi'
                      exact Int.ofNat_lt.1 hi')
                    rwa [hA, e1, ← HMM.out] at this⟩
                  have HIN : Hid (i + 1 ≤ n) := ⟨by rw [← HNX.out.len]; exact HNX.out.mkd.good.len⟩
                  clear hq2 hqp
                  go_wp2
                  go_round
                  case rel =>
                    exact ⟨i + 1, N', U, _, some ⟨go, 0, none⟩, ob, L2, HIN.out, by omega, HO', HNX, HB', ⟨fun a e => by cases e; exact HD'.out.1⟩, HT', rfl, rfl, by go_num⟩
                  case measure => have := HIN.out; simp [intOf]; omega
            · have d2 : (y != 0) = true := by simpa using hE0
              have d3 : (y == 0) = false := by simpa using hE0
              have HEY : Hid (addE L n (T[i]'HIT.out) (v.osz (T[i]'HIT.out)) ≠ 0) := ⟨by rw [HAE.out.2, HOZ.out, ← hy]; exact hE0⟩
              clear hy
              go_wp2
              go_ret2
              exact ⟨none, 0, [], false, rfl, (touch_old HT.out).trans HG4.out, fun h => (by cases h), fun _ hS => HR.out.fail_add HIT.out HEY.out hS⟩
          · obtain ⟨y, hy⟩ : ∃ y, y = v.rdE a := ⟨_, rfl⟩
            have hyn : ¬ y = 0 := by rw [hy]; exact hE
            have d2 : (y != 0) = true := by simpa using hyn
            have d3 : (y == 0) = false := by simpa using hyn
            rw [← hy] at HRD
            have HE := hid hE
            clear hE hy
            unfold hdrV at HRD
            go_wp2_with (go_at_call 74; refine HRD.out.mono ?_; rintro e w1 ⟨rfl, hg1⟩; have HG1 := hid hg1; clear hg1)
            go_ret2
            exact ⟨none, 0, [], false, rfl, (touch_old HT.out).trans (HG1.out.alloc _), fun h => (by cases h), fun _ hS => HE.out (hS.rd a HA1.out)⟩
        · obtain rfl : i = N := by have := HR.out.le; omega
          have HM := hid (HR.out.done (by rw [← HO.out.len]))
          clear hi HR HWr
          go_wp2
          go_ret2
          exact ⟨_, _, L, true, rfl, touch_old HT.out, fun _ => ⟨HB.out, HM.out⟩, fun h => by cases h⟩
end
end Go.Proofs.YtbmidhlilafgeaaGreatDoor
