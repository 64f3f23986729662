/- Layer 21: Live21, Rises21, Rises21B in one text (a claim has at most 60 files). -/
import Derived.Test.YtlbbkpjfoabobaaDoorLayA
import Derived.Test.YtlbbkpjfoabobaaDoorQuiet
import Derived.Deep.CutBlock
import Derived.Deep.DeepCutAuto
import Derived.Test.YtlbbkpjfoabobaaDoorActs
namespace Go.Proofs.YtlbbkpjfoabobaaDoor
open Go.RowKit Word

theorem live21_a : layL2 20 [3, 7] = [(3, 7)] := by decide +kernel
theorem live21_b : aheadV (liveL 20 [(3, 7)]) 4 1 = 1 ∧ aheadV (liveL 20 [(3, 7)]) 4 2 = 5 ∧ aheadE 20 4 1 = 0 ∧ aheadE 20 4 2 = 0 := by decide +kernel
theorem live21_c : overs [(3, 7)] 0 9 = 6 ∧ sizes [(3, 7)] = 7 ∧ blockOk 4 = true := by decide +kernel
set_option maxRecDepth 100000 in
set_option maxHeartbeats 1600000 in
theorem lives21 {w : World} (hT : TabAt w) : Gets Tryd.prog 66 #[] w (.bool true) := by
  have HT := hid hT
  have htl := hT.lt
  obtain ⟨w0, hw0⟩ : ∃ w0, w0 = w.alloc (.cells #[.int .u8 3, .int .u8 7] 5) := ⟨_, rfl⟩
  have hg0 : Gr w w0 := by rw [hw0]; exact (Gr.refl w).alloc _
  have hB : BytesAt w0 (some ⟨w.heap.size, 0, none⟩) [3, 7] := fun i hi => by
    have hs : w.heap.size < w0.heap.size := by rw [hw0, World.size_alloc]; omega
    match i, hi with
    | 0, _ => exact ⟨(by decide : 3 ≤ 255), _, 0, rfl, hs, by rw [hw0]; exact World.cell?_alloc_new ..⟩
    | 1, _ => exact ⟨(by decide : 7 ≤ 255), _, 0, rfl, hs, by rw [hw0]; exact World.cell?_alloc_new ..⟩
  have HB := hid hB
  have HG0 := hid hg0
  have HW := hid hw0
  have HT0 := hid (hg0.tab hT.lt hT)
  clear hT hg0 hB hw0
  unfold Gets
  go_enter Tryd.func66, Tryd.ntmps66
  go_wp2_with (first
    | (go_at_call 67; rw [← HW.out]; refine (lay_walk HT0.out 20 (by decide) (by decide) _ _ [3, 7] HB.out (by decide)).mono ?_; rw [live21_a]; rintro e w1 ⟨m, p1, b1, p2, b2, A', c', rfl, hg1, hE1, -, -, -⟩; have HG1 := hid (HG0.out.trans hg1); have HE1 := hid hE1; clear hg1 hE1)
    | (go_at_call 68; refine (off_new HE1.out (HG1.out.tab htl HT.out) 4 (by decide)).mono ?_; rintro e w2 ⟨hg2, ⟨hb, -⟩ | ⟨-, t, B, hB, rfl, hO⟩⟩; rw [live21_c.2.2] at hb; cases hb; obtain rfl : B = 4 := (by omega); have HO := hid hO; have HG2 := hid (HG1.out.trans hg2); clear hO hg2 hB)
    | (go_at_call_of 73 (Value.pointer (some ⟨t, 0, none⟩)); refine (off_ahead HO.out _).mono ?_; rintro e w3 ⟨rfl, rfl⟩; first | rw [live21_b.1, live21_b.2.2.1] | rw [live21_b.2.1, live21_b.2.2.2])
    | (go_at_call 70; refine (off_before HO.out 9).mono ?_; rintro e w4 ⟨rfl, hg4⟩; rw [live21_c.1]; have HG4 := hid hg4; clear hg4)
    | (go_at_call 74; refine (off_live (HO.out.gr HG4.out)).mono ?_; rintro e w5 ⟨rfl, rfl⟩; rw [live21_c.2.1]))
  go_ret
  exact ⟨rfl, HG2.out.trans HG4.out⟩
end Go.Proofs.YtlbbkpjfoabobaaDoor

namespace Go.Proofs.YtlbbkpjfoabobaaDoor
open Go.RowKit Word

set_option maxRecDepth 100000 in
set_option maxHeartbeats 3200000 in
theorem rises21_in {W : World} (hT : TabAt W) (A : Option Addr) (cap : Nat) (l : List Nat) (hB : BytesAt W A l) (hl : l.length ≤ 100) (blk : Nat) (hblk : blk ≤ 255) :
    Gets Tryd.prog 14 #[.slice A l.length cap, .int .u8 blk] W (.bool true) := by
  have HT := hid hT
  have HB := hid hB
  have htl := hT.lt
  have d2 : decide ((100 : Int) < (l.length : Int)) = false := by simp; omega
  clear hT hB
  unfold Gets
  go_enter Tryd.func14, Tryd.ntmps14
  go_upto_region 4 with (first
    | (go_at_call 67; refine (lay_walk HT.out 1500 (by decide) (by decide) _ _ l HB.out hl).mono ?_; rintro e w1 ⟨m, p1, b1, p2, b2, A', c', rfl, hg1, hE1, hO1, -, -⟩; have HG1 := hid hg1; have HE1 := hid hE1; have HO1 := hid hO1; clear hg1 hE1 hO1))
  go_cut [7] (fun s7 wx => ∃ B : Nat, s7 = .int .i64 B ∧ Hid (blockOk B = true) ∧ 1 ≤ B ∧ B ≤ 1024 ∧ wx = w1)
  case first =>
    have hr : (blk : Int) % 11 = 0 ∨ (blk : Int) % 11 = 1 ∨ (blk : Int) % 11 = 2 ∨ (blk : Int) % 11 = 3 ∨ (blk : Int) % 11 = 4 ∨ (blk : Int) % 11 = 5 ∨ (blk : Int) % 11 = 6 ∨ (blk : Int) % 11 = 7 ∨ (blk : Int) % 11 = 8 ∨ (blk : Int) % 11 = 9 ∨ (blk : Int) % 11 = 10 := by omega
    rcases hr with hr | hr | hr | hr | hr | hr | hr | hr | hr | hr | hr
    all_goals
      go_wp2
      go_meet
      case rel => first | exact ⟨1, rfl, ⟨by decide⟩, by decide, by decide, rfl⟩ | exact ⟨2, rfl, ⟨by decide⟩, by decide, by decide, rfl⟩ | exact ⟨4, rfl, ⟨by decide⟩, by decide, by decide, rfl⟩ | exact ⟨8, rfl, ⟨by decide⟩, by decide, by decide, rfl⟩ | exact ⟨16, rfl, ⟨by decide⟩, by decide, by decide, rfl⟩ | exact ⟨32, rfl, ⟨by decide⟩, by decide, by decide, rfl⟩ | exact ⟨64, rfl, ⟨by decide⟩, by decide, by decide, rfl⟩ | exact ⟨128, rfl, ⟨by decide⟩, by decide, by decide, rfl⟩ | exact ⟨256, rfl, ⟨by decide⟩, by decide, by decide, rfl⟩ | exact ⟨512, rfl, ⟨by decide⟩, by decide, by decide, rfl⟩ | exact ⟨1024, rfl, ⟨by decide⟩, by decide, by decide, rfl⟩
  case rest =>
    obtain ⟨B, rfl, HBK, hb1, hb2, rfl⟩ := hcut
    have hgood := HE1.out.good
    obtain ⟨L, hL⟩ : ∃ L, L = layL2 1500 l := ⟨_, rfl⟩
    rw [← hL] at HE1 HO1 hgood ⊢
    clear hL
    have hsl := sizes_le hgood
    have hlen := hgood.len
    go_wp2_with (first
      | (go_at_call 68; refine (off_new HE1.out (HG1.out.tab htl HT.out) B (by omega)).mono ?_; rintro e w2 ⟨hg2, ⟨hb, -⟩ | ⟨-, t, B', hB', rfl, hO⟩⟩; rw [HBK.out] at hb; cases hb; obtain rfl : B = B' := (by omega); have HO2 := hid hO; have HG2 := hid (HG1.out.trans hg2); have HL2 := hid (HO1.out.gr hg2); clear hO hg2 hB'))
    go_loopw [10, 41] (fun s10 i wr => ∃ j al : Nat, j ≤ L.length ∧ Hid (al = sizes (L.take j)) ∧ Hid (Gr w2 wr) ∧ s10 = .int .i64 al ∧ i = .int .i64 j) (fun _ i _ => L.length - (intOf i).toNat)
    case atStart => exact ⟨0, 0, Nat.zero_le _, ⟨rfl⟩, ⟨Gr.refl _⟩, rfl, rfl⟩
    case round =>
      obtain ⟨j, al, hj, hal, hgr, rfl, rfl⟩ := hrel
      by_cases hjl : j < L.length
      · obtain ⟨g, rfl, hgl, q1, q2⟩ := HL2.out j hjl
        have q1 := (hgr.out.cell hgl _).trans q1
        have q2 := (hgr.out.cell hgl _).trans q2
        have hsz := hgood.sz _ (List.getElem_mem hjl)
        have hali := sizes_le (show Good 1500 (L.take (j + 1)) from ⟨hgood.pw.sublist (List.take_sublist ..), fun o ho => hgood.sz o (List.mem_of_mem_take ho)⟩)
        have htk := sizes_take hjl
        have HOV := hid (fun i (hi : i ≤ L[j].2) => overs_upto hgood hjl hi)
        have HWT := hid (fun i (hi : i < L[j].2) => wordO_take hjl hi)
        have HLB := hid (fun i (hi : i < L[j].2) => liveB_mid hjl hi)
        rw [← hal.out] at htk HOV HWT
        generalize L[j].1 = sj at *
        generalize L[j].2 = zj at *
        have HTK := hid htk
        rw [htk] at hali
        obtain ⟨wa, hwa⟩ : ∃ wa, wa = wr.alloc (.cells #[.int .i64 sj, .int .i64 zj] 96) := ⟨_, rfl⟩
        have hga : Gr wr wa := by rw [hwa]; exact (Gr.refl wr).alloc _
        have x0 : wa.cell? ⟨wr.heap.size, 0, none⟩ = some (.int .i64 sj) := by rw [hwa]; exact World.cell?_alloc_new ..
        have x1 : wa.cell? ⟨wr.heap.size, 1, none⟩ = some (.int .i64 zj) := by rw [hwa]; exact World.cell?_alloc_new ..
        have HW := hid hwa
        have HGA := hid (hgr.out.trans hga)
        have HX0 := hid x0
        clear hwa hga htk hal
        go_upto_region 12 with (fail)
        rw [← HW.out]
        go_wp2
        go_loopw [10, 47] (fun s10 i w3 => ∃ r q : Nat, r ≤ zj ∧ Hid (q = al + r) ∧ q ≤ 1500 ∧ Hid (Gr wa w3) ∧ s10 = .int .i64 q ∧ i = .int .i64 r) (fun _ i _ => zj - (intOf i).toNat)
        case atStart => exact ⟨0, al, Nat.zero_le _, ⟨rfl⟩, by omega, ⟨Gr.refl _⟩, rfl, rfl⟩
        case round =>
          rename World => w3
          obtain ⟨r, q, hr, hq, hq2, hg3, rfl, rfl⟩ := hrel
          by_cases hrz : r < zj
          · have HG3 := hid (HGA.out.trans hg3.out)
            have c3 := (hg3.out.cell (b := wr.heap.size) (lt_cell x0) 0).trans x0
            have HT3 := hid ((HG2.out.trans HG3.out).tab htl HT.out)
            have E1 : Hid (wordV L (q : Int) = (sj : Int) + (r : Int) ∧ wordY L (q : Int) = true) := ⟨by
              have := HWT.out r hrz
              rw [← hq.out] at this
              unfold wordV wordY
              rw [if_neg (by omega), Int.toNat_natCast, this, decide_eq_true (by omega)]
              exact ⟨by simp, rfl⟩⟩
            have E2 : Hid (overs L 0 ((sj : Int) + (r : Int)) = (q : Int)) := ⟨by rw [HOV.out r (by omega), hq.out]; push_cast; rfl⟩
            have E3 : Hid ((decide (0 ≤ (sj : Int) + (r : Int)) && liveB L ((sj : Int) + (r : Int)).toNat) = true) := ⟨by
              rw [show ((sj : Int) + (r : Int)).toNat = sj + r by omega, HLB.out r hrz, decide_eq_true (by omega)]; rfl⟩
            have HQ := hid (show q + 1 = al + (r + 1) from by have := hq.out; omega)
            have hq3 : q + 1 ≤ 1500 := by have := hq.out; omega
            clear hq
            go_wp2_with (first
              | (go_at_call 69; refine (off_word (HO2.out.gr HG3.out) HT3.out _).mono ?_; rintro e w4 ⟨rfl, hg4⟩; rw [E1.out.1, E1.out.2]; have c4 := (hg4.cell (b := wr.heap.size) (lt_cell c3) 0).trans c3; have HG4 := hid (HG3.out.trans hg4); have HG5 := hid (hg3.out.trans hg4); clear hg4)
              | (go_at_call 70; refine (off_before (HO2.out.gr HG4.out) _).mono ?_; rintro e w5 ⟨rfl, hg5⟩; rw [E2.out]; have c5 := (hg5.cell (b := wr.heap.size) (lt_cell c4) 0).trans c4; have HG6 := hid (HG4.out.trans hg5); have HG7 := hid (HG5.out.trans hg5); clear hg5)
              | (go_at_call 71; refine (off_is (HO2.out.gr HG6.out) _).mono ?_; rintro e w6 ⟨rfl, rfl⟩; rw [E3.out]))
            go_roundw
            case rel => exact ⟨r + 1, q + 1, by omega, HQ, by omega, HG7, by go_num, by go_num⟩
            case measure => simp [intOf]; omega
          · obtain rfl : r = zj := by omega
            have HQ := hid (show q = sizes (L.take (j + 1)) from by rw [HTK.out, hq.out])
            have HG3 := hid (HGA.out.trans hg3.out)
            clear hq
            go_wp2
            go_roundw
            case rel => exact ⟨j + 1, q, by omega, HQ, HG3, by go_num, by go_num⟩
            case measure => simp [intOf]; omega
      · obtain rfl : j = L.length := by omega
        have HA := hid (show al = sizes L from by rw [hal.out, List.take_length])
        have HOr := hid (HO2.out.gr hgr.out)
        have HGr := hid (HG2.out.trans hgr.out)
        obtain ⟨N, hN⟩ : ∃ N, N = nbl 1500 B := ⟨_, rfl⟩
        have hNl := nbl_le (n := 1500) hb1
        rw [← hN] at hNl
        have HN := hid hN
        clear hN hal
        go_wp2_with (first
          | (go_at_call 72; refine (off_blocks HOr.out).mono ?_; rintro e w3 ⟨rfl, rfl⟩; rw [← HN.out]))
        go_loopw [91] (fun i w3 => ∃ b : Nat, b ≤ N ∧ Hid (Gr wr w3) ∧ i = .int .i64 b) (fun i _ => N - (intOf i).toNat)
        case atStart => exact ⟨0, Nat.zero_le _, ⟨Gr.refl _⟩, rfl⟩
        case round =>
          rename World => w3
          obtain ⟨b, hbN, hg3, rfl⟩ := hrel
          by_cases hbl : b < N
          · have htb : b * B < 1500 := (nbl_lt hb1).1 (by rw [← HN.out]; exact hbl)
            obtain ⟨tb, htb2⟩ : ∃ tb, tb = b * B := ⟨_, rfl⟩
            have hmul : (b : Int) * (B : Int) = (tb : Int) := by rw [htb2]; push_cast; rfl
            have htb3 : (tb : Int) ≤ 1500 := by omega
            obtain ⟨ov, hov⟩ : ∃ ov, ov = overs L 0 (tb : Int) := ⟨_, rfl⟩
            have E1 : Hid (aheadV (liveL 1500 L) B (b : Int) = ov ∧ aheadE 1500 B (b : Int) = 0) := ⟨by
              unfold aheadV aheadE
              rw [liveL_len, ← HN.out, if_neg (by omega), if_neg (by omega), countL_live hgood, hmul, hov]
              exact ⟨rfl, rfl⟩⟩
            have E2 := hid hov.symm
            have HO3 := hid (HOr.out.gr hg3.out)
            clear htb htb2 hov
            go_wp2_with (first
              | (go_at_call 73; refine (off_ahead HO3.out _).mono ?_; rintro e w4 ⟨rfl, rfl⟩; rw [E1.out.1, E1.out.2])
              | (go_at_call 70; first | rw [hmul] | skip; refine (off_before HO3.out _).mono ?_; rintro e w5 ⟨rfl, hg5⟩; rw [E2.out]; have HG5 := hid (hg3.out.trans hg5); clear hg5))
            go_roundw
            case rel => exact ⟨b + 1, by omega, HG5, by go_num⟩
            case measure => simp [intOf]; omega
          · have HO3 := hid (HOr.out.gr hg3.out)
            have HT3 := hid ((HGr.out.trans hg3.out).tab htl HT.out)
            go_wp2_with (first
              | (go_at_call 74; refine (off_live HO3.out).mono ?_; rintro e w5 ⟨rfl, rfl⟩; rw [← HA.out])
              | (go_at_call 66; refine (lives21 HT3.out).mono ?_; rintro e w6 ⟨rfl, hg6⟩; have HG6 := hid ((HGr.out.trans hg3.out).trans hg6); clear hg6))
            go_ret
            exact ⟨rfl, HG6.out⟩
end Go.Proofs.YtlbbkpjfoabobaaDoor

namespace Go.Proofs.YtlbbkpjfoabobaaDoor
open Go.ChangeShapes Go.WideShapes Go.ChangeAt Go.RowKit Word

set_option maxRecDepth 100000 in
theorem rises21_walk {W : World} (hT : TabAt W) (A : Option Addr) (cap : Nat) (l : List Nat) (hB : BytesAt W A l) (blk : Nat) (hblk : blk ≤ 255) :
    Gets Tryd.prog 14 #[.slice A l.length cap, .int .u8 blk] W (.bool true) := by
  by_cases h : 100 < l.length
  · have d2 : decide ((100 : Int) < (l.length : Int)) = true := by simp; omega
    have HT := hid hT
    clear hT hB h
    unfold Gets
    go_enter Tryd.func14, Tryd.ntmps14
    go_wp2_with (go_at_call 66; refine (lives21 HT.out).mono ?_; rintro e w6 ⟨rfl, hg6⟩)
    go_ret
    exact ⟨rfl, hg6⟩
  · exact rises21_in hT A cap l hB (by omega) blk hblk
set_option maxRecDepth 100000 in
theorem open_bytes {H : Type} {enc : TypeId × Value → H} {W : World} {r : Reach} {b0 : Nat} {v : Value} {d : DataW H} {p : List MemPlace}
    (hv : Value.okWide Tryd.prog W r b0 89 v) (h : DataW.Trod enc Tryd.prog W 0 (fun _ => true) true 89 v d p) :
    ∃ (A : Option Addr) (cap : Nat) (l : List Nat), v = .slice A l.length cap ∧ l.length ≤ maxLen ∧ BytesAt W A l := by
  obtain ⟨A, len, cap, rfl⟩ := okWide_slice Tryd.underlying89 hv
  obtain ⟨fuel, hf⟩ := h
  rcases Go.Deep.open_slice Tryd.underlying89 hf with ⟨hcs, _⟩ | ⟨a, len', cap', m, n, D, Pl, hcs, _, hl, hm, hmm, _, hi⟩
  · simp [Value.cells] at hcs
    obtain ⟨rfl, rfl, rfl⟩ := hcs
    exact ⟨none, 0, [], rfl, Nat.zero_le _, fun i h => absurd h (by simp)⟩
  · simp [Value.cells] at hcs
    obtain ⟨rfl, rfl, rfl⟩ := hcs
    have hle : len ≤ m := by rw [hmm]; simpa using hl
    obtain ⟨l, hlen, hR⟩ := list_of (fun i (x : Nat) => x ≤ 255 ∧ W.cell? (a.add i) = some (.int .u8 (x : Nat))) len (fun i hil => by
      obtain ⟨cs, hc, ht⟩ := hi i (by omega)
      rw [cellsU8, Nat.mul_one] at hc
      obtain ⟨_, hcl, hat⟩ := World.cells?_some hc
      obtain ⟨k, e0, _, w0⟩ := DataW.trod_int Tryd.underlying5 ht
      subst e0
      have hb := bd_u8 w0
      refine ⟨k.toNat, by omega, ?_⟩
      have := hat 0 (by simp)
      rw [add_add_, Nat.add_zero] at this
      rw [this]
      show some (Value.int .u8 k) = some (Value.int .u8 ((k.toNat : Nat) : Int))
      rw [show ((k.toNat : Nat) : Int) = k by omega])
    subst hlen
    refine ⟨some a, cap, l, rfl, by omega, fun i hil => ?_⟩
    obtain ⟨h0, h1⟩ := hR i hil
    have hs : a.spot = none := by
      have h0 := (hR 0 (by omega)).2
      have := spot_of_cell h0
      simpa [Addr.add] using this
    obtain ⟨b, o, s⟩ := a
    simp only at hs
    subst hs
    have ha : ∀ k, Addr.add ⟨b, o, none⟩ k = ⟨b, o + k, none⟩ := fun k => by unfold Addr.add; split <;> simp_all
    rw [ha] at h1
    exact ⟨h0, b, o, rfl, lt_of_cell h1, h1⟩
end Go.Proofs.YtlbbkpjfoabobaaDoor
