/- The reference of layer 25: Went, Words. -/
import Derived.Test.YtbmidhlilafgeaaGreatDoorRef25
namespace Go.Proofs.YtbmidhlilafgeaaGreatDoor
open Go.RowKit Word

theorem RowO.sum {v : Vm} {rs O : List Int} {n : Nat} {L : List Ob} (h : RowO v rs O) (hM : Marks v rs n L) : sumC v O ≤ n := by
  have h1 := sum_le (v := v) (fun o ho => (hM.mkd.ats o ho).2.2) h.nd (fun a ha => hM.all a (h.rc a ha))
  have h2 := sizes_le hM.mkd.good
  omega
theorem wentC_drop {v : Vm} {O : List Int} {i : Nat} (hi : i < O.length) (t a : Int) : wentC v (O.drop i) t a = if O[i] = a then t else wentC v (O.drop (i + 1)) (t + v.osz O[i]) a := by
  rw [List.drop_eq_getElem_cons hi]
  rfl
section
variable {w : World} {A0 A : Option Addr} {cp cr M : Nat} {v : Vm} {rs O : List Int} {L : List Ob}
set_option maxRecDepth 100000 in
set_option maxHeartbeats 3200000 in
theorem ref25_went (hf : FullN M v) (hW : Wrds w A0 cp M v) (hA : IntsAt w A O) (hO : RowO v rs O) (hM : Marks v rs M L) (hM2 : M ≤ 1100) (d0 : Nat) (hto : d0 ≤ 4096) (a : Int) :
    Calls Tryz.prog 26 #[.slice A0 M cp, .slice A O.length cr, .int .i64 d0, .int .i64 a] w fun e w' => e = .returned (.int .i64 (wentC v O d0 a)) ∧ Gr w w' := by
  have HW := hid hW
  have HA := hid hA
  have HF := hid hf
  have HM := hid hM
  have HO := hid hO
  have hlen := hO.len hM
  have HSM := hid (hO.sum hM)
  obtain ⟨N, hN⟩ : ∃ N, N = O.length := ⟨_, rfl⟩
  have HN := hid hN
  rw [← hN] at hlen ⊢
  clear hW hA hf hM hO hN
  go_enter Tryz.func26, Tryz.ntmps26
  go_wp2_with (fail)
  go_loopw [2, 9] (fun s2 s9 wr => ∃ (i t : Nat), i ≤ N ∧ t ≤ 5200 ∧ Hid ((t : Int) = d0 + sumC v (O.take i) ∧ wentC v O d0 a = wentC v (O.drop i) t a) ∧ Hid (Gr w wr) ∧ s2 = .int .i64 t ∧ s9 = .int .i64 i) (fun _ s9 _ => N - (intOf s9).toNat)
  case atStart => exact ⟨0, d0, Nat.zero_le _, by omega, ⟨⟨by simp [sumC], rfl⟩⟩, ⟨Gr.refl _⟩, rfl, rfl⟩
  case round =>
    obtain ⟨i, t, hi, ht, HE, HG, rfl, rfl⟩ := hrel
    by_cases hlast : i < N
    · have hil : i < O.length := by have := HN.out; omega
      obtain ⟨b, o, rfl, hb, e00⟩ := HA.out i hil
      have e0 := (HG.out.cell hb _).trans e00
      clear e00
      have hiI : (i : Int) < (N : Int) := by omega
      have hra := HO.out.rc _ (List.getElem_mem hil)
      obtain ⟨c, p, f, k, hce, hE, hh, hs, hin, hcp, hoz, -⟩ := rch_obj HM.out.sound hra
      have HTK : Hid (O.take (i + 1) = O.take i ++ [(c : Int)]) := ⟨by rw [← hce]; exact List.take_succ_eq_append_getElem hil⟩
      have HDR : Hid (wentC v (O.drop i) t a = if (c : Int) = a then (t : Int) else wentC v (O.drop (i + 1)) (t + v.osz c) a) := ⟨by rw [wentC_drop hil, hce]⟩
      rw [hce] at e0 hE hh hoz
      have HRD := hid (ref15n_read HF.out (HW.out.gr HG.out) (c : Int))
      rw [hh, hE] at HRD
      unfold hdrV at HRD
      have HOZ := hid hoz
      have hsum : t + (1 + p + f + k) ≤ 5200 := by
        have h1 := sumC_take_all v O (i + 1)
        have h2 := HSM.out
        have h3 := HE.out.1
        rw [HTK.out, sumC_append] at h1
        simp only [sumC, hoz] at h1
        omega
      have HII := hid hlast
      clear hlast hi hil hb hra hE hh hoz hce
      by_cases hca : (c : Int) = a
      · have e1 : ((c : Int) == a) = true := by simpa using hca
        have HCA := hid hca
        clear hca
        go_wp2
        go_ret
        exact ⟨ret_int (by rw [HE.out.2, HDR.out, if_pos HCA.out]), HG.out⟩
      · have e1 : ((c : Int) == a) = false := by simpa using hca
        have HCA := hid hca
        clear hca
        go_wp2_with (go_at_call 74; refine HRD.out.mono ?_; rintro e w1 ⟨rfl, hg1⟩; have HG1 := hid hg1; clear hg1)
        go_round
        case rel =>
          refine ⟨i + 1, t + (1 + p + f + k), HII.out, hsum, ⟨?_, ?_⟩, ⟨(HG.out.trans HG1.out).alloc _⟩, by go_num, by go_num⟩
          · rw [HTK.out, sumC_append]
            simp only [sumC, HOZ.out]
            have := HE.out.1
            omega
          · rw [HE.out.2, HDR.out, if_neg HCA.out, HOZ.out]
            congr 1 <;> omega
        case measure => have := HII.out; simp [intOf]; omega
    · obtain rfl : N = i := by omega
      clear hlast hi
      go_wp2
      go_ret
      exact ⟨ret_int (by rw [HE.out.2, HN.out, List.drop_length]; rfl), HG.out⟩
end
/-- A word of an object, where it goes. -/
def wdC (v : Vm) (O : List Int) (d0 : Nat) (b : Int) (m : Nat) : Nat := if 1 ≤ m ∧ (m : Int) ≤ (v.rdH b).p then (wentC v O d0 (v.ldV (b + m) : Nat)).toNat else v.ldV (b + m)
def rowC (v : Vm) (O : List Int) (d0 : Nat) : List Int → List Nat
  | [] => []
  | b :: r => (List.range (v.osz b).toNat).map (wdC v O d0 b) ++ rowC v O d0 r
theorem rowC_append (v : Vm) (O : List Int) (d0 : Nat) (P Q : List Int) : rowC v O d0 (P ++ Q) = rowC v O d0 P ++ rowC v O d0 Q := by
  induction P with
  | nil => rfl
  | cons b r ih => simp only [List.cons_append, rowC, ih, List.append_assoc]
theorem rowC_len (v : Vm) (O : List Int) (d0 : Nat) (P : List Int) : ((rowC v O d0 P).length : Int) = sumC v P := by
  induction P with
  | nil => rfl
  | cons b r ih => have := osz_nonneg v b; simp only [rowC, sumC, List.length_append, List.length_map, List.length_range]; omega
def us (l : List Nat) : List Value := l.map fun x => .int .u64 (x : Nat)
section
variable {w : World} {A0 A : Option Addr} {cp cr M : Nat} {v : Vm} {rs O : List Int} {L : List Ob}
set_option maxRecDepth 100000 in
set_option maxHeartbeats 6400000 in
theorem ref25_words (hf : FullN M v) (hW : Wrds w A0 cp M v) (hA : IntsAt w A O) (hO : RowO v rs O) (hM : Marks v rs M L) (hM2 : M ≤ 1100) (d0 : Nat) (hto : d0 ≤ 4096) :
    Calls Tryz.prog 25 #[.slice A0 M cp, .slice A O.length cr, .int .i64 d0] w fun e w' => ∃ (A' : Option Addr) (c : Nat), e = .returned (.slice A' (rowC v O d0 O).length c) ∧ Gr w w' ∧ w'.ownsRow w.heap.size 50 1 (.slice A' (rowC v O d0 O).length c) (rowC v O d0 O).length (us (rowC v O d0 O)) := by
  have HW := hid hW
  have HA := hid hA
  have HF := hid hf
  have HM := hid hM
  have HO := hid hO
  have hlen := hO.len hM
  have HSM := hid (hO.sum hM)
  obtain ⟨ii, hii, hi0, hi1, hi2⟩ := info_parts infoU64
  obtain ⟨N, hN⟩ : ∃ N, N = O.length := ⟨_, rfl⟩
  have HN := hid hN
  have HWT := hid (fun (W : World) (g : Touch (fun i => w.heap.size ≤ i) w W) (a : Int) => ref25_went (cr := cr) hf (own_touch hW g (fun gg hg h => by have := (own_lt hW hg).2; omega)) (fun i hi => by
    obtain ⟨b, o, e, hb, h0⟩ := hA i hi
    exact ⟨b, o, e, Nat.lt_of_lt_of_le hb g.size, (g.cell hb (by omega) _).trans h0⟩) hO hM hM2 d0 hto a)
  rw [← hN] at hlen HWT ⊢
  clear hW hA hf hM hO hN
  go_enter Tryz.func25, Tryz.ntmps25
  go_wp2_with (fail)
  go_loopw [7, 8] (fun s7 s8 wr => ∃ (i K : Nat) (T : List Nat) (vL : Value), i ≤ N ∧ K ≤ M ∧ Hid (wr.ownsRow w.heap.size 50 1 vL K (us T) ∧ K = T.length) ∧ Hid (T = rowC v O d0 (O.take i)) ∧ Hid (Touch (fun i => w.heap.size ≤ i) w wr) ∧ s7 = vL ∧ s8 = .int .i64 i) (fun _ s8 _ => N - (intOf s8).toNat)
  case atStart => exact ⟨0, 0, [], _, Nat.zero_le _, Nat.zero_le _, ⟨⟨own_nil _ _ _ _, rfl⟩⟩, ⟨rfl⟩, ⟨Touch.refl _ _⟩, rfl, rfl⟩
  case round =>
    obtain ⟨i, K, T, vL, hi, hKM, HL, HR, HT, rfl, rfl⟩ := hrel
    obtain ⟨TA, tc, rfl, hc1, hc2⟩ := own_shape HL.out.1
    by_cases hlast : i < N
    · have hil : i < O.length := by have := HN.out; omega
      obtain ⟨b, o, rfl, hb, e00⟩ := HA.out i hil
      have e0 := (HT.out.cell hb (by omega) _).trans e00
      have hiI : (i : Int) < (N : Int) := by omega
      have hra := HO.out.rc _ (List.getElem_mem hil)
      obtain ⟨a, p, f, k, hae, hE, hh, hs, hin, hap, hoz, hpts⟩ := rch_obj HM.out.sound hra
      have HTK : Hid (O.take (i + 1) = O.take i ++ [(a : Int)]) := ⟨by rw [← hae]; exact List.take_succ_eq_append_getElem hil⟩
      rw [hae] at e0 e00 hE hh hoz hpts
      have HWr : Hid (Wrds wr A0 cp M v) := ⟨own_touch HW.out HT.out (fun g hg h => by have := (own_lt HW.out hg).2; omega)⟩
      have HRD := hid (ref15n_read HF.out HWr.out (a : Int))
      rw [hh, hE] at HRD
      unfold hdrV at HRD
      have HOZ := hid hoz
      have HHH := hid hh
      have HPT := hid hpts
      have HB := hid hb
      have HE0 := hid e00
      have hin' : a + (1 + p + f + k) ≤ M := by omega
      have hKb : K + (1 + p + f + k) ≤ M := by
        have h1 := sumC_take_all v O (i + 1)
        have h2 := HSM.out
        have h3 := rowC_len v O d0 (O.take i)
        rw [← HR.out] at h3
        have h4 := HL.out.2
        rw [HTK.out, sumC_append] at h1
        simp only [sumC, hoz] at h1
        omega
      have hRec := hid (fun W => Rec.new W 90 [.int .i64 p, .int .i64 f, .int .i64 k])
      have HII := hid hlast
      clear hlast hi hil hb hra hE hh hoz hae hpts hin e00
      go_upto_region 6 with (go_at_call 74; refine HRD.out.mono ?_; rintro e w1 ⟨rfl, hg1⟩; have HG1 := hid hg1; clear hg1)
      obtain ⟨w2, hw2⟩ : ∃ w2, w2 = w1.alloc (.cells #[.int .i64 p, .int .i64 f, .int .i64 k] 90) := ⟨_, rfl⟩
      have R2 := hRec.out w1
      obtain ⟨hq, hhq⟩ : ∃ hq, hq = w1.heap.size := ⟨_, rfl⟩
      rw [← hhq] at R2 ⊢
      have hg2 : Gr wr w2 := by rw [hw2]; exact HG1.out.alloc _
      simp only [List.toArray] at R2
      rw [← hw2] at R2 ⊢
      have HLL : Hid (w2.ownsRow w.heap.size 50 1 (.slice TA K tc) (K + 0) (us (T ++ (List.range 0).map (wdC v O d0 a))) ∧ K = T.length) := ⟨⟨by rw [Nat.add_zero, List.range_zero, List.map_nil, List.append_nil]; exact own_gr HL.out.1 hg2, HL.out.2⟩⟩
      have HT4 := hid (HT.out.trans (hg2.touch (fun i => w.heap.size ≤ i)))
      have HR4 := hid R2
      clear hw2 hhq HG1 R2 hg2 hRec HL HT hc1 hc2
      go_wp2_with (fail)
      go_loopw [7, 11] (fun s7 s11 wx => ∃ (m : Nat) (vL : Value), m ≤ 1 + p + f + k ∧ Hid (wx.ownsRow w.heap.size 50 1 vL (K + m) (us (T ++ (List.range m).map (wdC v O d0 a))) ∧ K = T.length) ∧ Hid (Rec wx hq 90 [.int .i64 p, .int .i64 f, .int .i64 k]) ∧ Hid (Touch (fun i => w.heap.size ≤ i) w wx) ∧ s7 = vL ∧ s11 = .int .i64 m) (fun _ s11 _ => 1 + p + f + k - (intOf s11).toNat)
      case atStart => exact ⟨0, _, Nat.zero_le _, HLL, HR4, HT4, rfl, rfl⟩
      case round =>
        clear HLL HR4 HT4
        obtain ⟨m, vL, hm, HL, HR', HT', rfl, rfl⟩ := hrel
        obtain ⟨TA, tc, rfl, hc1, hc2⟩ := own_shape HL.out.1
        unfold maxLen at hc2
        have y0 := HR'.out.cell (j := 0) rfl
        have y1 := HR'.out.cell (j := 1) rfl
        have y2 := HR'.out.cell (j := 2) rfl
        have HWx : Hid (Wrds wr A0 cp M v) := ⟨own_touch HW.out HT'.out (fun g hg h => by have := (own_lt HW.out hg).2; omega)⟩
        have e0 := (HT'.out.cell HB.out (by have := HB.out; omega) _).trans HE0.out
        by_cases hm2 : m < 1 + p + f + k
        · have HQ2 := hid hm2
          have hmI : (m : Int) < 1 + (p : Int) + (f : Int) + (k : Int) := by omega
          have hidx : a + m < M := by omega
          obtain ⟨gw, cw, ew, -, -, -, hgw⟩ := own_form HWx.out (by omega)
          simp only [Value.slice.injEq] at ew
          obtain ⟨rfl, -, rfl⟩ := ew
          have k5 := own_cell HWx.out (wrds_at v hidx)
          have HXL : Hid (v.ldV ((a + m : Nat) : Int) < 18446744073709551616) := ⟨HF.out.ok.ldV_lt _⟩
          have HWD : Hid (wdC v O d0 a m = if 1 ≤ m ∧ (m : Int) ≤ (p : Int) then (wentC v O d0 (v.ldV ((a + m : Nat) : Int) : Nat)).toNat else v.ldV ((a + m : Nat) : Int)) := ⟨by unfold wdC; rw [HHH.out]; push_cast; rfl⟩
          have HPM : Hid (1 ≤ m → m ≤ p → v.ldV ((a + m : Nat) : Int) ≤ 2147483647) := ⟨fun h1 h2 => by
            have := (HPT.out (m - 1) (by omega)).2.1
            rwa [show (a : Int) + 1 + ((m - 1 : Nat) : Int) = ((a + m : Nat) : Int) by omega] at this⟩
          obtain ⟨x, hx⟩ : ∃ x, x = v.ldV ((a + m : Nat) : Int) := ⟨_, rfl⟩
          rw [← hx] at k5 HXL HWD HPM
          have HSN : Hid (∀ y : Nat, wdC v O d0 a m = y → us (T ++ (List.range m).map (wdC v O d0 a)) ++ [.int .u64 (y : Nat)] = us (T ++ (List.range (m + 1)).map (wdC v O d0 a))) := ⟨fun y hy => by rw [List.range_succ, List.map_append, ← List.append_assoc]; unfold us; rw [List.map_append (l₁ := T ++ _)]; simp [hy]⟩
          have haI : (a : Int) + (m : Int) < (M : Int) := by omega
          have ha0 : (0 : Int) ≤ (a : Int) + (m : Int) := by omega
          have haN : ((a : Int) + (m : Int)).toNat = a + m := by omega
          have hxl := HXL.out
          clear hm2 hm hx
          by_cases hp1 : 1 ≤ m ∧ m ≤ p
          · have hx1 := HPM.out hp1.1 hp1.2
            have hwx : IntKind.i64.wrap (x : Int) = (x : Int) := IntWalk.i64_in _ (by omega)
            have HWN := hid (HWT.out wr HT'.out (x : Int))
            have HYB : Hid (0 ≤ wentC v O d0 (x : Int) ∧ wentC v O d0 (x : Int) ≤ 5200) := ⟨by
              by_cases hmem : (x : Int) ∈ O
              · have h1 := wentC_in v (d0 : Int) hmem
                have h2 := HSM.out
                have h3 := osz_nonneg v (x : Int)
                omega
              · rw [wentC_none v _ hmem]; omega⟩
            rw [if_pos ⟨hp1.1, by omega⟩] at HWD
            obtain ⟨y, hy⟩ : ∃ y : Nat, wentC v O d0 (x : Int) = y := ⟨(wentC v O d0 (x : Int)).toNat, by have := HYB.out; omega⟩
            rw [hy] at HWN HYB HWD
            rw [Int.toNat_natCast] at HWD
            have hyb : y ≤ 5200 := by have := HYB.out; omega
            have hwy : IntKind.u64.wrap (y : Int) = (y : Int) := by rw [IntKind.wrap_u64]; omega
            have hm0 : (0 : Int) < (m : Int) := by omega
            have hmp : (m : Int) ≤ (p : Int) := by omega
            have HM1 := hid hp1
            clear hp1 hy HYB
            go_wp2_with (first
              | (go_at_call 26; refine HWN.out.mono ?_; rintro e w3 ⟨rfl, hg3⟩; have HG3 := hid hg3; have HL3 := hid (own_gr HL.out.1 hg3); clear hg3)
              | (at_builtin; refine wpList_append_lies _ rfl _ _ 35 rfl w.heap.size 50 ii _ 1 8 Tryz.underlying35 hii hi0 hi1 hi2 rfl (by decide) (.slice TA (K + m) tc) (K + m) (us (T ++ (List.range m).map (wdC v O d0 a))) rfl (HL3.out.alloc _) ⟨w3.heap.size, 0, none⟩ 1 1 [.int .u64 (y : Nat)] rfl rfl (World.news_of_block (cs := #[.int .u64 (y : Nat)]) (t := 50) (fr := (0, 0)) (heap_alloc_new w3 (.cells #[.int .u64 (y : Nat)] 50))) (by simp [Value.oneCell']) (by have := HQ2.out; omega) (by unfold maxLen; have := HQ2.out; omega) (by have := HQ2.out; omega) (by have := HT'.out.size; have := HG3.out.size; rw [World.size_alloc]; omega) (w3.heap.size + 1) (by simp) ?_; intro g4 c4 w4 hown4 hgrow4 hat4 hlt4; have t4 : Touch (fun k' => (Value.slice TA (K + m) tc).ownBlock = some k') w3 w4 := (((Gr.refl _).alloc _).touch _).trans (grown_touch hgrow4 _ (fun k e _ => e)); have HT4 := hid t4; have HO4 := hid hown4; clear hown4 hgrow4 hat4 hlt4 t4))
            go_round
            case rel =>
              refine ⟨m + 1, _, by have := HQ2.out; omega, ⟨⟨by rw [← HSN.out y HWD.out]; exact HO4.out, HL.out.2⟩⟩, ⟨(HR'.out.gr HG3.out).touch HT4.out (fun e => own_ne HL3.out (HR'.out.gr HG3.out) (by decide) e rfl rfl)⟩, ⟨(HT'.out.trans (HG3.out.touch _)).trans (HT4.out.mono (fun i _ h => (own_lt HL3.out h).1))⟩, rfl, by go_num⟩
            case measure => have := HQ2.out; simp [intOf]; omega
          · rw [if_neg (by omega)] at HWD
            have HM1 := hid hp1
            by_cases hm0 : m = 0
            · have hm1 : ¬ (0 : Int) < (m : Int) := by omega
              have d1 : decide ((0 : Int) < (m : Int)) = false := decide_eq_false hm1
              have d2 : decide (0 < m) = false := decide_eq_false (by omega)
              have HM0 := hid hm0
              clear hp1 hm0
              go_wp2_with (at_builtin; refine wpList_append_lies _ rfl _ _ 35 rfl w.heap.size 50 ii _ 1 8 Tryz.underlying35 hii hi0 hi1 hi2 rfl (by decide) (.slice TA (K + m) tc) (K + m) (us (T ++ (List.range m).map (wdC v O d0 a))) rfl (HL.out.1.alloc _) ⟨wr.heap.size, 0, none⟩ 1 1 [.int .u64 (x : Nat)] rfl rfl (World.news_of_block (cs := #[.int .u64 (x : Nat)]) (t := 50) (fr := (0, 0)) (heap_alloc_new wr (.cells #[.int .u64 (x : Nat)] 50))) (by simp [Value.oneCell']) (by have := HQ2.out; omega) (by unfold maxLen; have := HQ2.out; omega) (by have := HQ2.out; omega) (by have := HT'.out.size; rw [World.size_alloc]; omega) (wr.heap.size + 1) (by simp) ?_; intro g4 c4 w4 hown4 hgrow4 hat4 hlt4; have t4 : Touch (fun k' => (Value.slice TA (K + m) tc).ownBlock = some k') wr w4 := (((Gr.refl _).alloc _).touch _).trans (grown_touch hgrow4 _ (fun k e _ => e)); have HT4 := hid t4; have HO4 := hid hown4; clear hown4 hgrow4 hat4 hlt4 t4)
              go_round
              case rel =>
                refine ⟨m + 1, _, by have := HQ2.out; omega, ⟨⟨by rw [← HSN.out x HWD.out]; exact HO4.out, HL.out.2⟩⟩, ⟨HR'.out.touch HT4.out (fun e => own_ne HL.out.1 HR'.out (by decide) e rfl rfl)⟩, ⟨HT'.out.trans (HT4.out.mono (fun i _ h => (own_lt HL.out.1 h).1))⟩, rfl, by go_num⟩
              case measure => have := HQ2.out; simp [intOf]; omega
            · have hmp : (p : Int) < (m : Int) := by omega
              have hm1 : (0 : Int) < (m : Int) := by omega
              clear hp1
              go_wp2_with (at_builtin; refine wpList_append_lies _ rfl _ _ 35 rfl w.heap.size 50 ii _ 1 8 Tryz.underlying35 hii hi0 hi1 hi2 rfl (by decide) (.slice TA (K + m) tc) (K + m) (us (T ++ (List.range m).map (wdC v O d0 a))) rfl (HL.out.1.alloc _) ⟨wr.heap.size, 0, none⟩ 1 1 [.int .u64 (x : Nat)] rfl rfl (World.news_of_block (cs := #[.int .u64 (x : Nat)]) (t := 50) (fr := (0, 0)) (heap_alloc_new wr (.cells #[.int .u64 (x : Nat)] 50))) (by simp [Value.oneCell']) (by have := HQ2.out; omega) (by unfold maxLen; have := HQ2.out; omega) (by have := HQ2.out; omega) (by have := HT'.out.size; rw [World.size_alloc]; omega) (wr.heap.size + 1) (by simp) ?_; intro g4 c4 w4 hown4 hgrow4 hat4 hlt4; have t4 : Touch (fun k' => (Value.slice TA (K + m) tc).ownBlock = some k') wr w4 := (((Gr.refl _).alloc _).touch _).trans (grown_touch hgrow4 _ (fun k e _ => e)); have HT4 := hid t4; have HO4 := hid hown4; clear hown4 hgrow4 hat4 hlt4 t4)
              go_round
              case rel =>
                refine ⟨m + 1, _, by have := HQ2.out; omega, ⟨⟨by rw [← HSN.out x HWD.out]; exact HO4.out, HL.out.2⟩⟩, ⟨HR'.out.touch HT4.out (fun e => own_ne HL.out.1 HR'.out (by decide) e rfl rfl)⟩, ⟨HT'.out.trans (HT4.out.mono (fun i _ h => (own_lt HL.out.1 h).1))⟩, rfl, by go_num⟩
              case measure => have := HQ2.out; simp [intOf]; omega
        · obtain rfl : m = 1 + p + f + k := by omega
          have HNX : Hid (T ++ (List.range (1 + p + f + k)).map (wdC v O d0 a) = rowC v O d0 (O.take (i + 1))) := ⟨by
            rw [HTK.out, rowC_append, ← HR.out]
            simp only [rowC, HOZ.out, List.append_nil]
            rw [show (1 + (p : Int) + f + k).toNat = 1 + p + f + k by omega]⟩
          have hmI : ¬ ((1 + p + f + k : Nat) : Int) < 1 + (p : Int) + (f : Int) + (k : Int) := by omega
          clear hm2 hm
          go_wp2
          go_round
          case rel => exact ⟨i + 1, K + (1 + p + f + k), _, _, HII.out, hKb, ⟨⟨HL.out.1, by rw [List.length_append, List.length_map, List.length_range, ← HL.out.2]⟩⟩, HNX, HT', rfl, by go_num⟩
          case measure => have := HII.out; simp [intOf]; omega
    · obtain rfl : N = i := by omega
      have HF2 : Hid (T = rowC v O d0 O) := ⟨by have := HR.out; rwa [HN.out, List.take_length] at this⟩
      clear hlast hi
      go_wp2
      go_ret
      have h1 := HL.out
      rw [HF2.out] at h1
      have h2 := h1.2
      subst h2
      exact ⟨TA, tc, rfl, touch_old HT.out, h1.1⟩
end
end Go.Proofs.YtbmidhlilafgeaaGreatDoor
