/- The reference of layers 14 and 15: headers and objects on a row of words. The reference of layers 14 and 15: kinds, reading of objects. The reference of layer 14: kinds, a field's kind. Words of a memory in a row, all of which are there; the reference of layer 15 on it, of any length. -/
import Derived.Test.YtbmidhlilafgeaaGreatDoorLay18P
import Derived.Test.YtbmidhlilafgeaaGreatDoorKM8
import Derived.Test.YtbmidhlilafgeaaGreatDoorKM4
import Derived.Deep.CutBlock
import Derived.Deep.DeepCutAuto
section
namespace Go.Proofs.YtbmidhlilafgeaaGreatDoor
open Go.RowKit Word

set_option maxRecDepth 100000 in
set_option maxHeartbeats 800000 in
theorem ref14_may {p f k : Nat} (hp : p ≤ 255) (hf : f ≤ 255) (hk : k ≤ 255) (w : World) : Calls Tryz.prog 189 #[.agg #[.int .i64 p, .int .i64 f, .int .i64 k]] w fun e w' => e = .returned (.bool (decide (p + f + k ≤ 255))) ∧ Gr w w' := by
  have d1 : decide (255 < (p : Int)) = false := decide_eq_false (by omega)
  have d2 : decide (255 < (f : Int)) = false := decide_eq_false (by omega)
  have d3 : decide (255 < (k : Int)) = false := decide_eq_false (by omega)
  have HD : Hid (decide ((p : Int) + f + k ≤ 255) = decide (p + f + k ≤ 255)) := ⟨by by_cases h : p + f + k ≤ 255 <;> simp [h] <;> omega⟩
  go_enter Tryz.func189, Tryz.ntmps189
  go_wp2
  go_ret
  exact ⟨congrArg (fun b => Ending.returned (.bool b)) HD.out, (Gr.refl w).alloc _⟩
set_option maxRecDepth 100000 in
set_option maxHeartbeats 800000 in
theorem ref14_size {p f k : Nat} (hs : p + f + k ≤ 255) (w : World) : Calls Tryz.prog 142 #[.agg #[.int .i64 p, .int .i64 f, .int .i64 k]] w fun e w' => e = .returned (.int .i64 (hdrN ⟨p, f, k⟩)) ∧ Gr w w' := by
  have HM := hid (fun W => ref14_may (p := p) (f := f) (k := k) (by omega) (by omega) (by omega) W)
  rw [decide_eq_true hs] at HM
  have HN : Hid (hdrN ⟨p, f, k⟩ = 1 + (p : Int) + f + k) := ⟨if_pos (hdrE_of hs)⟩
  have HR := hid (Rec.new w 90 [.int .i64 p, .int .i64 f, .int .i64 k])
  go_enter Tryz.func142, Tryz.ntmps142
  go_wp2_with (go_at_call 189; refine (HM.out _).mono ?_; rintro e w1 ⟨rfl, hg1⟩; have HG1 := hid (((Gr.refl w).alloc _).trans hg1); have R1 := HR.out.gr hg1; have y0 := R1.cell (j := 0) rfl; have y1 := R1.cell (j := 1) rfl; have y2 := R1.cell (j := 2) rfl; clear hg1 R1)
  go_ret
  exact ⟨ret_int (by rw [HN.out]; omega), HG1.out⟩
def PutEnd14 (w : World) (p f k : Nat) (e : Ending) (w' : World) : Prop := e = .returned (if p + f + k ≤ 255 then .tuple #[.int .u64 (hdrW p f k : Nat), .int .i64 0] else .tuple #[.int .u64 0, .int .i64 15]) ∧ Gr w w'
set_option maxRecDepth 100000 in
set_option maxHeartbeats 1600000 in
theorem ref14_put {p f k : Nat} (hp : p ≤ 255) (hf : f ≤ 255) (hk : k ≤ 255) (w : World) : Calls Tryz.prog 187 #[.agg #[.int .i64 p, .int .i64 f, .int .i64 k]] w (PutEnd14 w p f k) := by
  have HM := hid (fun W => ref14_may hp hf hk W)
  have HR := hid (Rec.new w 90 [.int .i64 p, .int .i64 f, .int .i64 k])
  by_cases hs : p + f + k ≤ 255
  · rw [decide_eq_true hs] at HM
    have HS := hid hs
    have hw1 : IntKind.u64.wrap (p : Int) = p := by rw [IntKind.wrap_u64]; omega
    have hw2 : IntKind.u64.wrap (f : Int) = f := by rw [IntKind.wrap_u64]; omega
    have hw3 : IntKind.u64.wrap (k : Int) = k := by rw [IntKind.wrap_u64]; omega
    have HW : Hid (((hdrW p f k : Nat) : Int) = ((p : Int) + (f : Int) * 256 + (k : Int) * 65536 + 2768240640) + (4294967295 - ((p : Int) + (f : Int) * 256 + (k : Int) * 65536 + 2768240640)) * 4294967296) := ⟨by unfold hdrW hdrL; omega⟩
    go_enter Tryz.func187, Tryz.ntmps187
    go_wp2_with (go_at_call 189; refine (HM.out _).mono ?_; rintro e w1 ⟨rfl, hg1⟩; have HG1 := hid (((Gr.refl w).alloc _).trans hg1); have R1 := HR.out.gr hg1; have y0 := R1.cell (j := 0) rfl; have y1 := R1.cell (j := 1) rfl; have y2 := R1.cell (j := 2) rfl; clear hg1 R1)
    go_ret2
    exact ⟨by rw [if_pos HS.out, HW.out]; rfl, HG1.out⟩
  · rw [decide_eq_false hs] at HM
    have HS := hid hs
    clear hs
    go_enter Tryz.func187, Tryz.ntmps187
    go_wp2_with (go_at_call 189; refine (HM.out _).mono ?_; rintro e w1 ⟨rfl, hg1⟩; have HG1 := hid (((Gr.refl w).alloc _).trans hg1); clear hg1)
    go_ret2
    exact ⟨by rw [if_neg HS.out]; rfl, HG1.out⟩
end Go.Proofs.YtbmidhlilafgeaaGreatDoor
end

section
namespace Go.Proofs.YtbmidhlilafgeaaGreatDoor
open Go.RowKit Word
theorem tk14 {x : Nat} (_hx : x < 18446744073709551616) : tkOk x = (decide (x % 256 + x / 256 % 256 + x / 65536 % 256 ≤ 255) && decide (hdrW (x % 256) (x / 256 % 256) (x / 65536 % 256) = x)) := by
  have h1 : x % 256 + 256 * (x / 256 % 256) + 65536 * (x / 65536 % 256) = x % 16777216 := by omega
  have h2 : x % 4294967296 = x % 16777216 + 16777216 * (x % 4294967296 / 16777216) := by omega
  have h3 : x = x / 4294967296 * 4294967296 + x % 4294967296 := by omega
  unfold tkOk
  refine Bool.eq_iff_iff.2 ?_
  simp only [Bool.and_eq_true, decide_eq_true_eq]
  unfold hdrW hdrL
  generalize x % 256 = p at *
  generalize x / 256 % 256 = f at *
  generalize x / 65536 % 256 = k at *
  constructor
  · rintro ⟨⟨a, b⟩, c⟩
    exact ⟨c, by omega⟩
  · rintro ⟨c, d⟩
    exact ⟨⟨by omega, by omega⟩, c⟩
set_option maxRecDepth 100000 in
set_option maxHeartbeats 6400000 in
theorem ref14_take {x : Nat} (hx : x < 18446744073709551616) (w : World) : Calls Tryz.prog 138 #[.int .u64 (x : Nat)] w fun e w' => e = .returned (.tuple #[hdrV (tkH x), .int .i64 (tkE x)]) ∧ Gr w w' := by
  have hk := tk14 hx
  have HT : Hid (tkH x = if tkOk x then ⟨(x % 256 : Nat), (x / 256 % 256 : Nat), (x / 65536 % 256 : Nat)⟩ else ⟨0, 0, 0⟩) := ⟨rfl⟩
  have HE : Hid (tkE x = if tkOk x then 0 else 16) := ⟨rfl⟩
  have e1 : (x : Int) % 256 = ((x % 256 : Nat) : Int) := by omega
  have e2 : ((x / 256 : Nat) : Int) % 256 = ((x / 256 % 256 : Nat) : Int) := by omega
  have e3 : ((x / 65536 : Nat) : Int) % 256 = ((x / 65536 % 256 : Nat) : Int) := by omega
  have e4 : (x : Int) / 256 = ((x / 256 : Nat) : Int) := by omega
  have e5 : (x : Int) / 65536 = ((x / 65536 : Nat) : Int) := by omega
  have e6 : ((x / 256 : Nat) : Int).tmod 256 = ((x / 256 % 256 : Nat) : Int) := rfl
  have e7 : ((x / 65536 : Nat) : Int).tmod 256 = ((x / 65536 % 256 : Nat) : Int) := rfl
  have e8 : IntKind.u64.wrap ((x / 256 : Nat) : Int) = ((x / 256 : Nat) : Int) := by rw [IntKind.wrap_u64]; omega
  have e9 : IntKind.u64.wrap ((x / 65536 : Nat) : Int) = ((x / 65536 : Nat) : Int) := by rw [IntKind.wrap_u64]; omega
  have hp : x % 256 ≤ 255 := by omega
  have hf : x / 256 % 256 ≤ 255 := by omega
  have hkk : x / 65536 % 256 ≤ 255 := by omega
  generalize x % 256 = p at *
  generalize x / 256 % 256 = f at *
  generalize x / 65536 % 256 = k at *
  generalize x / 256 = y1 at *
  generalize x / 65536 = y2 at *
  have HP := hid (fun W => ref14_put hp hf hkk W)
  unfold PutEnd14 at HP
  have KL := hid (fun (W : World) (blk : Nat) (p q r : Value) => load_hdr W blk p q r)
  have HR := hid (Rec.new w 90 [.int .i64 0, .int .i64 0, .int .i64 0])
  have HR4 := hid (fun W (g : Gr ((w.alloc (.cells #[.int .i64 0, .int .i64 0, .int .i64 0] 90)).alloc (.cells #[.int .i64 p, .int .i64 f, .int .i64 k] 90)) W) => ((tk_recs (w := w) (xs := [.int .i64 0, .int .i64 0, .int .i64 0]) (ys := [.int .i64 p, .int .i64 f, .int .i64 k]) g)))
  by_cases hs : p + f + k ≤ 255
  · rw [if_pos hs] at HP
    by_cases hw : hdrW p f k = x
    · have hok : tkOk x = true := by rw [hk, decide_eq_true hs, decide_eq_true hw]; rfl
      have HH : Hid (tkH x = ⟨p, f, k⟩ ∧ tkE x = 0) := ⟨⟨by rw [HT.out, if_pos hok], by rw [HE.out, if_pos hok]⟩⟩
      rw [hw] at HP
      unfold hdrV
      rw [HH.out.1, HH.out.2]
      clear hk hw hok HT HE hs hx
      go_enter Tryz.func138, Tryz.ntmps138
      go_wp2_with (go_at_call 187; refine (HP.out _).mono ?_; rintro e w1 ⟨rfl, hg1⟩; obtain ⟨ra, rb⟩ := HR4.out _ hg1; have y0 := ra.cell (j := 0) rfl; have y1 := ra.cell (j := 1) rfl; have y2 := ra.cell (j := 2) rfl; have yf := ra.free; have x0 := rb.cell (j := 0) rfl; have x1 := rb.cell (j := 1) rfl; have x2 := rb.cell (j := 2) rfl; have HRA := hid ra; have HG1 := hid hg1; clear hg1 ra rb)
      have R3 := Rec.set (Rec.set (Rec.set HRA.out 0 (.int .i64 p)) 1 (.int .i64 f)) 2 (.int .i64 k)
      refine bodyPost_ret (v := .tuple #[.agg #[.int .i64 p, .int .i64 f, .int .i64 k], .int .i64 0]) ?_ rfl ⟨rfl, tk_gr HG1.out⟩
      rw [results_cell_tmp rfl]
      have hl := KL.out _ w.heap.size _ _ _ (R3.cell (j := 0) rfl) (R3.cell (j := 1) rfl) (R3.cell (j := 2) rfl)
      simp [asAddr, Result.andThen, hl]
    · have hok : tkOk x = false := by rw [hk, decide_eq_false hw]; simp
      have HH : Hid (tkH x = ⟨0, 0, 0⟩ ∧ tkE x = 16) := ⟨⟨by rw [HT.out, hok]; rfl, by rw [HE.out, hok]; rfl⟩⟩
      have dw : (((hdrW p f k : Nat) : Int) == (x : Int)) = false := beq_false_of_ne (fun h => hw (by omega))
      generalize hdrW p f k = y at *
      unfold hdrV
      rw [HH.out.1, HH.out.2]
      clear hk hw hok HT HE hs hx
      go_enter Tryz.func138, Tryz.ntmps138
      go_wp2_with (go_at_call 187; refine (HP.out _).mono ?_; rintro e w1 ⟨rfl, hg1⟩; obtain ⟨ra, rb⟩ := HR4.out _ hg1; have y0 := ra.cell (j := 0) rfl; have y1 := ra.cell (j := 1) rfl; have y2 := ra.cell (j := 2) rfl; have yf := ra.free; have HRA := hid ra; have HG1 := hid hg1; clear hg1 ra rb)
      have R3 := Rec.set (Rec.set (Rec.set HRA.out 0 (.int .i64 0)) 1 (.int .i64 0)) 2 (.int .i64 0)
      refine bodyPost_ret (v := .tuple #[.agg #[.int .i64 0, .int .i64 0, .int .i64 0], .int .i64 16]) ?_ rfl ⟨rfl, tk_gr HG1.out⟩
      rw [results_cell_tmp rfl]
      have hl := KL.out _ w.heap.size _ _ _ (R3.cell (j := 0) rfl) (R3.cell (j := 1) rfl) (R3.cell (j := 2) rfl)
      simp [asAddr, Result.andThen, hl]
  · rw [if_neg hs] at HP
    have hok : tkOk x = false := by rw [hk, decide_eq_false hs]; rfl
    have HH : Hid (tkH x = ⟨0, 0, 0⟩ ∧ tkE x = 16) := ⟨⟨by rw [HT.out, hok]; rfl, by rw [HE.out, hok]; rfl⟩⟩
    unfold hdrV
    rw [HH.out.1, HH.out.2]
    clear hk hok HT HE hs hx
    go_enter Tryz.func138, Tryz.ntmps138
    go_wp2_with (go_at_call 187; refine (HP.out _).mono ?_; rintro e w1 ⟨rfl, hg1⟩; obtain ⟨ra, rb⟩ := HR4.out _ hg1; have y0 := ra.cell (j := 0) rfl; have y1 := ra.cell (j := 1) rfl; have y2 := ra.cell (j := 2) rfl; have yf := ra.free; have HRA := hid ra; have HG1 := hid hg1; clear hg1 ra rb)
    have R3 := Rec.set (Rec.set (Rec.set HRA.out 0 (.int .i64 0)) 1 (.int .i64 0)) 2 (.int .i64 0)
    refine bodyPost_ret (v := .tuple #[.agg #[.int .i64 0, .int .i64 0, .int .i64 0], .int .i64 16]) ?_ rfl ⟨rfl, tk_gr HG1.out⟩
    rw [results_cell_tmp rfl]
    have hl := KL.out _ w.heap.size _ _ _ (R3.cell (j := 0) rfl) (R3.cell (j := 1) rfl) (R3.cell (j := 2) rfl)
    simp [asAddr, Result.andThen, hl]
end Go.Proofs.YtbmidhlilafgeaaGreatDoor
end

section
section
namespace Go.Proofs.YtbmidhlilafgeaaGreatDoor
open Go.RowKit Word

/-- The kinds of all fields. -/
def kl (p f k : Nat) : List Int := List.replicate p 1 ++ List.replicate f 2 ++ List.replicate k 3
theorem kl_len (p f k : Nat) : (kl p f k).length = p + f + k := by simp [kl]; omega
theorem kl_at {p f k i : Nat} (hi : i < p + f + k) : (kl p f k)[i]'(by rw [kl_len]; exact hi) = if i < p then 1 else if i < p + f then 2 else 3 := by
  unfold kl
  by_cases h1 : i < p
  · rw [if_pos h1, List.getElem_append_left (by simp; omega), List.getElem_append_left (by simpa using h1)]
    simp
  · rw [if_neg h1]
    by_cases h2 : i < p + f
    · rw [if_pos h2, List.getElem_append_left (by simp; omega), List.getElem_append_right (by simp; omega)]
      simp
    · rw [if_neg h2, List.getElem_append_right (by simp; omega)]
      simp
def KindsEnd (w : World) (p f k : Nat) (e : Ending) (w' : World) : Prop := ∃ A c, e = .returned (.slice A (p + f + k) c) ∧ Gr w w' ∧ w'.ownsRow w.heap.size 3 1 (.slice A (p + f + k) c) (p + f + k) (zs (kl p f k))
set_option maxRecDepth 100000 in
set_option maxHeartbeats 6400000 in
theorem ref14_kinds {p f k : Nat} (hs : p + f + k ≤ 255) (w : World) : Calls Tryz.prog 170 #[.agg #[.int .i64 p, .int .i64 f, .int .i64 k]] w (KindsEnd w p f k) := by
  have HM := hid (fun W => ref14_may (p := p) (f := f) (k := k) (by omega) (by omega) (by omega) W)
  rw [decide_eq_true hs] at HM
  have HR := hid (Rec.new w 90 [.int .i64 p, .int .i64 f, .int .i64 k])
  obtain ⟨ii, hii, hi0, hi1, hi2⟩ := info_parts infoIntV
  go_enter Tryz.func170, Tryz.ntmps170
  go_wp2_with (go_at_call 189; refine (HM.out _).mono ?_; rintro e w1 ⟨rfl, hg1⟩; have HG1 := hid (((Gr.refl w).alloc _).trans hg1); have HR1 := hid (HR.out.gr hg1); clear hg1)
  go_loopw [3, 4] (fun s3 s4 wr => ∃ (j : Nat) (vL : Value), j ≤ p ∧ Hid (wr.ownsRow w.heap.size 3 1 vL (j) (zs (List.replicate j 1))) ∧ Hid (Rec wr w.heap.size 90 [.int .i64 p, .int .i64 f, .int .i64 k]) ∧ Hid (Touch (fun i => w.heap.size ≤ i) w wr) ∧ s3 = vL ∧ s4 = .int .i64 j) (fun _ s4 _ => p - (intOf s4).toNat)
  case atStart => exact ⟨0, _, Nat.zero_le _, ⟨own_nil _ _ _ _⟩, HR1, ⟨HG1.out.touch _⟩, rfl, rfl⟩
  case round =>
    obtain ⟨j, vL, hj, HO, HQ, HT, rfl, rfl⟩ := hrel
    have y0 := HQ.out.cell (j := 0) rfl
    have y1 := HQ.out.cell (j := 1) rfl
    have y2 := HQ.out.cell (j := 2) rfl
    obtain ⟨A, cc, rfl, hc1, hc2⟩ := own_shape HO.out
    unfold maxLen at hc2
    by_cases hlast : j < p
    · have HSU : Hid (zs (List.replicate (j + 1) 1) = zs (List.replicate j 1) ++ [.int .i64 1]) := ⟨by rw [List.replicate_succ']; unfold zs; rw [List.map_append]; rfl⟩
      have hNb : j ≤ 255 := by omega
      have HJ := hid hlast
      have hjI : (j : Int) < (p : Int) := by omega
      clear hlast hj
      go_wp2_with (at_builtin; refine wpList_append_lies _ rfl _ _ 30 rfl w.heap.size 3 ii _ 1 8 Tryz.underlying30 hii hi0 hi1 hi2 rfl (by decide) (.slice A j cc) j (zs (List.replicate j 1)) rfl (HO.out.alloc _) ⟨wr.heap.size, 0, none⟩ 1 1 [.int .i64 1] rfl rfl (World.news_of_block (cs := #[.int .i64 1]) (t := 3) (fr := (0, 0)) (heap_alloc_new wr (.cells #[.int .i64 1] 3))) (by simp [Value.oneCell']) (by omega) (by unfold maxLen; omega) (by omega) (by have := HT.out.size; rw [World.size_alloc]; omega) (wr.heap.size + 1) (by simp) ?_; intro g3 c3 w3 hown3 hgrow3 hat3 hlt3; have t3 : Touch (fun k => (Value.slice A j cc).ownBlock = some k) wr w3 := (((Gr.refl _).alloc _).touch _).trans (grown_touch hgrow3 _ (fun k e _ => e)); have HT3 := hid t3; have HO3 := hid hown3; clear hown3 hgrow3 hat3 hlt3 t3)
      go_round
      case rel =>
        refine ⟨j + 1, .slice (some ⟨g3, 0, none⟩) (j + 1) c3, HJ.out, ⟨?_⟩, ⟨HQ.out.touch HT3.out (fun e => own_ne HO.out HQ.out (by decide) e rfl rfl)⟩, ⟨HT.out.trans (HT3.out.mono (fun i _ h => (own_lt HO.out h).1))⟩, rfl, by go_num⟩
        rw [HSU.out]
        exact HO3.out
      case measure => have := HJ.out; simp [intOf]; omega
    · obtain rfl : p = j := by omega
      clear hlast hj
      obtain ⟨wa, rfl⟩ : ∃ wa : World, wa = wr := ⟨_, rfl⟩
      go_wp2_with (fail)
      go_loopw [3, 5] (fun s3 s5 wr => ∃ (j : Nat) (vL : Value), j ≤ f ∧ Hid (wr.ownsRow w.heap.size 3 1 vL (p + j) (zs (List.replicate p 1 ++ List.replicate j 2))) ∧ Hid (Rec wr w.heap.size 90 [.int .i64 p, .int .i64 f, .int .i64 k]) ∧ Hid (Touch (fun i => w.heap.size ≤ i) w wr) ∧ s3 = vL ∧ s5 = .int .i64 j) (fun _ s5 _ => f - (intOf s5).toNat)
      case atStart => exact ⟨0, _, Nat.zero_le _, ⟨by rw [Nat.add_zero]; have := HO.out; simpa using this⟩, HQ, HT, rfl, rfl⟩
      case round =>
        clear y0 y1 y2 hc1 hc2 HO HQ HT
        obtain ⟨j, vL, hj, HO, HQ, HT, rfl, rfl⟩ := hrel
        have y0 := HQ.out.cell (j := 0) rfl
        have y1 := HQ.out.cell (j := 1) rfl
        have y2 := HQ.out.cell (j := 2) rfl
        obtain ⟨A, cc, rfl, hc1, hc2⟩ := own_shape HO.out
        unfold maxLen at hc2
        by_cases hlast : j < f
        · have HSU : Hid (zs (List.replicate p 1 ++ List.replicate (j + 1) 2) = zs (List.replicate p 1 ++ List.replicate j 2) ++ [.int .i64 2]) := ⟨by rw [List.replicate_succ', ← List.append_assoc]; unfold zs; rw [List.map_append]; rfl⟩
          obtain ⟨N, hN⟩ : ∃ N, N = p + j := ⟨_, rfl⟩
          have HN := hid hN
          rw [← hN] at HO hc1
          have hNb : N ≤ 255 := by omega
          have HJ := hid hlast
          have hjI : (j : Int) < (f : Int) := by omega
          clear hlast hj
          rw [← hN]
          clear hN
          go_wp2_with (at_builtin; refine wpList_append_lies _ rfl _ _ 30 rfl w.heap.size 3 ii _ 1 8 Tryz.underlying30 hii hi0 hi1 hi2 rfl (by decide) (.slice A N cc) N (zs (List.replicate p 1 ++ List.replicate j 2)) rfl (HO.out.alloc _) ⟨wr.heap.size, 0, none⟩ 1 1 [.int .i64 2] rfl rfl (World.news_of_block (cs := #[.int .i64 2]) (t := 3) (fr := (0, 0)) (heap_alloc_new wr (.cells #[.int .i64 2] 3))) (by simp [Value.oneCell']) (by omega) (by unfold maxLen; omega) (by omega) (by have := HT.out.size; rw [World.size_alloc]; omega) (wr.heap.size + 1) (by simp) ?_; intro g3 c3 w3 hown3 hgrow3 hat3 hlt3; have t3 : Touch (fun k => (Value.slice A N cc).ownBlock = some k) wr w3 := (((Gr.refl _).alloc _).touch _).trans (grown_touch hgrow3 _ (fun k e _ => e)); have HT3 := hid t3; have HO3 := hid hown3; clear hown3 hgrow3 hat3 hlt3 t3)
          go_round
          case rel =>
            refine ⟨j + 1, .slice (some ⟨g3, 0, none⟩) (N + 1) c3, HJ.out, ⟨?_⟩, ⟨HQ.out.touch HT3.out (fun e => own_ne HO.out HQ.out (by decide) e rfl rfl)⟩, ⟨HT.out.trans (HT3.out.mono (fun i _ h => (own_lt HO.out h).1))⟩, rfl, by go_num⟩
            rw [HSU.out, show p + (j + 1) = N + 1 by have := HN.out; omega]
            exact HO3.out
          case measure => have := HJ.out; simp [intOf]; omega
        · obtain rfl : f = j := by omega
          clear hlast hj
          obtain ⟨wb, rfl⟩ : ∃ wb : World, wb = wr := ⟨_, rfl⟩
          go_wp2_with (fail)
          go_loopw [3, 6] (fun s3 s6 wr => ∃ (j : Nat) (vL : Value), j ≤ k ∧ Hid (wr.ownsRow w.heap.size 3 1 vL (p + f + j) (zs ((List.replicate p 1 ++ List.replicate f 2) ++ List.replicate j 3))) ∧ Hid (Rec wr w.heap.size 90 [.int .i64 p, .int .i64 f, .int .i64 k]) ∧ Hid (Touch (fun i => w.heap.size ≤ i) w wr) ∧ s3 = vL ∧ s6 = .int .i64 j) (fun _ s6 _ => k - (intOf s6).toNat)
          case atStart => exact ⟨0, _, Nat.zero_le _, ⟨by rw [Nat.add_zero]; have := HO.out; simpa using this⟩, HQ, HT, rfl, rfl⟩
          case round =>
            clear y0 y1 y2 hc1 hc2 HO HQ HT
            obtain ⟨j, vL, hj, HO, HQ, HT, rfl, rfl⟩ := hrel
            have y0 := HQ.out.cell (j := 0) rfl
            have y1 := HQ.out.cell (j := 1) rfl
            have y2 := HQ.out.cell (j := 2) rfl
            obtain ⟨A, cc, rfl, hc1, hc2⟩ := own_shape HO.out
            unfold maxLen at hc2
            by_cases hlast : j < k
            · have HSU : Hid (zs ((List.replicate p 1 ++ List.replicate f 2) ++ List.replicate (j + 1) 3) = zs ((List.replicate p 1 ++ List.replicate f 2) ++ List.replicate j 3) ++ [.int .i64 3]) := ⟨by rw [List.replicate_succ', ← List.append_assoc]; unfold zs; rw [List.map_append]; rfl⟩
              obtain ⟨N, hN⟩ : ∃ N, N = p + f + j := ⟨_, rfl⟩
              have HN := hid hN
              rw [← hN] at HO hc1
              have hNb : N ≤ 255 := by omega
              have HJ := hid hlast
              have hjI : (j : Int) < (k : Int) := by omega
              clear hlast hj
              rw [← hN]
              clear hN
              go_wp2_with (at_builtin; refine wpList_append_lies _ rfl _ _ 30 rfl w.heap.size 3 ii _ 1 8 Tryz.underlying30 hii hi0 hi1 hi2 rfl (by decide) (.slice A N cc) N (zs ((List.replicate p 1 ++ List.replicate f 2) ++ List.replicate j 3)) rfl (HO.out.alloc _) ⟨wr.heap.size, 0, none⟩ 1 1 [.int .i64 3] rfl rfl (World.news_of_block (cs := #[.int .i64 3]) (t := 3) (fr := (0, 0)) (heap_alloc_new wr (.cells #[.int .i64 3] 3))) (by simp [Value.oneCell']) (by omega) (by unfold maxLen; omega) (by omega) (by have := HT.out.size; rw [World.size_alloc]; omega) (wr.heap.size + 1) (by simp) ?_; intro g3 c3 w3 hown3 hgrow3 hat3 hlt3; have t3 : Touch (fun k => (Value.slice A N cc).ownBlock = some k) wr w3 := (((Gr.refl _).alloc _).touch _).trans (grown_touch hgrow3 _ (fun k e _ => e)); have HT3 := hid t3; have HO3 := hid hown3; clear hown3 hgrow3 hat3 hlt3 t3)
              go_round
              case rel =>
                refine ⟨j + 1, .slice (some ⟨g3, 0, none⟩) (N + 1) c3, HJ.out, ⟨?_⟩, ⟨HQ.out.touch HT3.out (fun e => own_ne HO.out HQ.out (by decide) e rfl rfl)⟩, ⟨HT.out.trans (HT3.out.mono (fun i _ h => (own_lt HO.out h).1))⟩, rfl, by go_num⟩
                rw [HSU.out, show p + f + (j + 1) = N + 1 by have := HN.out; omega]
                exact HO3.out
              case measure => have := HJ.out; simp [intOf]; omega
            · obtain rfl : k = j := by omega
              clear hlast hj
              go_wp2
              go_ret
              exact ⟨A, cc, rfl, (HT.out.mono (T := fun _ => False) (fun i hi h => by omega)).gr, HO.out⟩
end Go.Proofs.YtbmidhlilafgeaaGreatDoor
end

section
namespace Go.Proofs.YtbmidhlilafgeaaGreatDoor
open Go.RowKit Word

set_option maxRecDepth 100000 in
set_option maxHeartbeats 3200000 in
theorem ref14_kind {p f k : Nat} (hs : p + f + k ≤ 255) (i : Int) (w : World) : Calls Tryz.prog 117 #[.agg #[.int .i64 p, .int .i64 f, .int .i64 k], .int .i64 i] w fun e w' => e = .returned (.int .i64 (kindOf ⟨p, f, k⟩ i)) ∧ Gr w w' := by
  have HK := hid (fun W => ref14_kinds hs W)
  have HV : Hid (kindOf ⟨p, f, k⟩ i = if 0 ≤ i ∧ i < (p : Int) + f + k then (if i < p then 1 else if i < (p : Int) + f then 2 else 3) else 0) := ⟨by
    unfold kindOf
    rw [show hdrN ⟨p, f, k⟩ = 1 + (p : Int) + f + k from if_pos (hdrE_of hs)]
    rw [show 1 + (p : Int) + f + k - 1 = (p : Int) + f + k by omega]⟩
  obtain ⟨S, hS⟩ : ∃ S, S = p + f + k := ⟨_, rfl⟩
  have HS := hid hS
  unfold KindsEnd at HK
  rw [← hS] at hs HK
  rcases (by omega : i < 0 ∨ (0 ≤ i ∧ (S : Int) ≤ i) ∨ (0 ≤ i ∧ i < S)) with h | h | h
  · have d0 : decide (i < 0) = true := decide_eq_true h
    have HE : Hid (kindOf ⟨p, f, k⟩ i = 0) := ⟨by rw [HV.out, if_neg (by omega)]⟩
    clear h hS
    go_enter Tryz.func117, Tryz.ntmps117
    go_wp2_with (go_at_call 170; refine (HK.out _).mono ?_; rintro e w1 ⟨A, c, rfl, hg1, ho1⟩; have HG1 := hid (((Gr.refl w).alloc _).trans hg1); clear hg1 ho1)
    go_ret
    exact ⟨ret_int HE.out.symm, HG1.out⟩
  · have d0 : decide (i < 0) = false := decide_eq_false (by omega)
    have d1 : decide ((S : Int) ≤ i) = true := decide_eq_true h.2
    have HE : Hid (kindOf ⟨p, f, k⟩ i = 0) := ⟨by rw [HV.out, if_neg (by omega)]⟩
    clear h hS
    go_enter Tryz.func117, Tryz.ntmps117
    go_wp2_with (go_at_call 170; refine (HK.out _).mono ?_; rintro e w1 ⟨A, c, rfl, hg1, ho1⟩; have HG1 := hid (((Gr.refl w).alloc _).trans hg1); clear hg1 ho1)
    go_ret
    exact ⟨ret_int HE.out.symm, HG1.out⟩
  · obtain ⟨j, rfl⟩ : ∃ j : Nat, i = j := ⟨i.toNat, by omega⟩
    have hjS : j < S := by omega
    have hjI : (j : Int) < (S : Int) := by omega
    have d2 : decide (S ≤ j) = false := decide_eq_false (by omega)
    have d3 : decide ((S : Int) ≤ (j : Int)) = false := decide_eq_false (by omega)
    have hat := kl_at (p := p) (f := f) (k := k) (i := j) (by omega)
    have HZ : Hid ((zs (kl p f k))[j]? = some (.int .i64 (kindOf ⟨p, f, k⟩ j))) := ⟨by
      unfold zs
      rw [List.getElem?_map, List.getElem?_eq_getElem (by rw [kl_len]; omega), Option.map_some, hat, HV.out, if_pos (⟨by omega, by omega⟩ : (0 : Int) ≤ (j : Int) ∧ (j : Int) < (p : Int) + f + k)]
      by_cases h1 : j < p
      · rw [if_pos h1, if_pos (by omega : (j : Int) < (p : Int))]
      · rw [if_neg h1, if_neg (by omega : ¬ (j : Int) < (p : Int))]
        by_cases h2 : j < p + f
        · rw [if_pos h2, if_pos (by omega : (j : Int) < (p : Int) + f)]
        · rw [if_neg h2, if_neg (by omega : ¬ (j : Int) < (p : Int) + f)]⟩
    clear hat HV
    generalize kindOf ⟨p, f, k⟩ (j : Int) = y at *
    have hS0 : S ≠ 0 := by omega
    clear h hS
    go_enter Tryz.func117, Tryz.ntmps117
    go_wp2_with (go_at_call 170; refine (HK.out _).mono ?_; rintro e w1 ⟨A, c, rfl, hg1, ho1⟩; have HG1 := hid (((Gr.refl w).alloc _).trans hg1); obtain ⟨g, c', ea, -, -, -, -⟩ := own_form ho1 hS0; simp only [Value.slice.injEq] at ea; obtain ⟨rfl, -, rfl⟩ := ea; have kc := own_cell ho1 HZ.out; clear hg1 ho1)
    go_ret
    exact ⟨rfl, HG1.out⟩
end Go.Proofs.YtbmidhlilafgeaaGreatDoor
end
end

section
namespace Go.Proofs.YtbmidhlilafgeaaGreatDoor
open Go.RowKit Word

/-- The first k words of a memory. -/
def wrds (v : Vm) (k : Nat) : List Value := (List.range k).map fun a : Nat => .int .u64 (v.ldV a : Nat)
theorem wrds_len (v : Vm) (k : Nat) : (wrds v k).length = k := by simp [wrds]
theorem wrds_succ (v : Vm) (k : Nat) : wrds v (k + 1) = wrds v k ++ [.int .u64 (v.ldV k : Nat)] := by unfold wrds; rw [List.range_succ, List.map_append]; rfl
theorem wrds_at (v : Vm) {M j : Nat} (h : j < M) : (wrds v M)[j]? = some (.int .u64 (v.ldV j : Nat)) := by unfold wrds; rw [List.getElem?_map, List.getElem?_range h]; rfl
/-- A memory of M words, all of which can be loaded. -/
structure FullN (M : Nat) (v : Vm) : Prop where
  ok : VmOk v
  n : v.n = M
  al : ∀ a : Nat, a < M → v.ldE a = 0
  m1 : 1 ≤ M
theorem FullN.m2 {M : Nat} {v : Vm} (h : FullN M v) : M ≤ 524288 := by rw [← h.n]; exact h.ok.n2
theorem FullN.ldE {M : Nat} {v : Vm} (h : FullN M v) (a : Int) : v.ldE a = if 0 ≤ a ∧ a < (M : Int) then 0 else 11 := by
  by_cases hr : 0 ≤ a ∧ a < (M : Int)
  · rw [if_pos hr]
    obtain ⟨j, rfl⟩ : ∃ j : Nat, a = j := ⟨a.toNat, by omega⟩
    exact h.al j (by omega)
  · rw [if_neg hr]
    unfold Vm.ldE
    rw [if_neg (by rw [h.n]; exact hr)]
/-- The words of a memory, in a row. -/
def Wrds (w : World) (A : Option Addr) (cp M : Nat) (v : Vm) : Prop := w.ownsRow 0 50 1 (.slice A M cp) M (wrds v M)
theorem Wrds.gr {w : World} {A : Option Addr} {cp M : Nat} {v : Vm} (h : Wrds w A cp M v) {w' : World} (g : Gr w w') : Wrds w' A cp M v := own_gr h g
set_option maxRecDepth 100000 in
set_option maxHeartbeats 3200000 in
theorem ref15n_read {w : World} {A : Option Addr} {cp M : Nat} {v : Vm} (hf : FullN M v) (hW : Wrds w A cp M v) (a : Int) : Calls Tryz.prog 74 #[.slice A M cp, .int .i64 a] w fun e w' => e = .returned (.tuple #[hdrV (v.rdH a), .int .i64 (v.rdE a)]) ∧ Gr w w' := by
  have hld := hf.ldE a
  have hm1 := hf.m1
  have hm2 := hf.m2
  obtain ⟨g, c', ea, -, -, -, hgl⟩ := own_form hW (by omega)
  simp only [Value.slice.injEq] at ea
  obtain ⟨rfl, -, rfl⟩ := ea
  have HW := hid hW
  have KL := hid (fun (W : World) (blk : Nat) (p q r : Value) => load_hdr W blk p q r)
  rcases (by omega : a = 0 ∨ a < 0 ∨ (0 < a ∧ (M : Int) ≤ a) ∨ (0 < a ∧ a < (M : Int))) with h | h | h | h
  · subst h
    have HE : Hid (v.rdE 0 = 18 ∧ v.rdH 0 = ⟨0, 0, 0⟩) := ⟨⟨if_pos rfl, if_neg (fun h => absurd h.1 (by omega))⟩⟩
    rw [HE.out.1, HE.out.2]
    unfold hdrV
    clear hW hld
    go_enter Tryz.func74, Tryz.ntmps74
    go_wp2
    refine bodyPost_ret (v := .tuple #[.agg #[.int .i64 0, .int .i64 0, .int .i64 0], .int .i64 18]) ?_ rfl ⟨rfl, (Gr.refl w).alloc _⟩
    rw [results_cell_tmp rfl]
    simp [asAddr, Result.andThen, go_sem]
  · have HE : Hid (v.rdE a = 5 ∧ v.rdH a = ⟨0, 0, 0⟩) := ⟨⟨by unfold Vm.rdE; rw [if_neg (by omega), if_pos h], if_neg (fun h' => by omega)⟩⟩
    have d0 : (a == 0) = false := by simp; omega
    have d1 : decide (a < 0) = true := decide_eq_true h
    rw [HE.out.1, HE.out.2]
    unfold hdrV
    clear hW hld h
    go_enter Tryz.func74, Tryz.ntmps74
    go_wp2
    refine bodyPost_ret (v := .tuple #[.agg #[.int .i64 0, .int .i64 0, .int .i64 0], .int .i64 5]) ?_ rfl ⟨rfl, (Gr.refl w).alloc _⟩
    rw [results_cell_tmp rfl]
    simp [asAddr, Result.andThen, go_sem]
  · rw [if_neg (by omega)] at hld
    have HE : Hid (v.rdE a = 11 ∧ v.rdH a = ⟨0, 0, 0⟩) := ⟨⟨by unfold Vm.rdE; rw [if_neg (by omega), if_neg (by omega), if_neg (by rw [hld]; decide), hld], if_neg (fun h' => by rw [hld] at h'; exact absurd h'.2 (by decide))⟩⟩
    have d0 : (a == 0) = false := by simp; omega
    have d1 : decide (a < 0) = false := decide_eq_false (by omega)
    have d2 : decide ((M : Int) ≤ a) = true := decide_eq_true h.2
    rw [HE.out.1, HE.out.2]
    unfold hdrV
    clear hW hld h
    go_enter Tryz.func74, Tryz.ntmps74
    go_wp2
    refine bodyPost_ret (v := .tuple #[.agg #[.int .i64 0, .int .i64 0, .int .i64 0], .int .i64 11]) ?_ rfl ⟨rfl, (Gr.refl w).alloc _⟩
    rw [results_cell_tmp rfl]
    simp [asAddr, Result.andThen, go_sem]
  · obtain ⟨j, rfl⟩ : ∃ j : Nat, a = j := ⟨a.toNat, by omega⟩
    rw [if_pos (by omega)] at hld
    have HE : Hid (v.rdE j = tkE (v.ldV j) ∧ v.rdH j = tkH (v.ldV j)) := ⟨⟨by unfold Vm.rdE; rw [if_neg (by omega), if_neg (by omega), if_pos hld], if_pos ⟨h.1, hld⟩⟩⟩
    have d0 : ((j : Int) == 0) = false := by simp; omega
    have d1 : decide ((j : Int) < 0) = false := decide_eq_false (by omega)
    have d2 : decide ((M : Int) ≤ (j : Int)) = false := decide_eq_false (by omega)
    have d3 : decide (M ≤ j) = false := decide_eq_false (by omega)
    have hj4 : j < M := by omega
    have hjI : (j : Int) < (M : Int) := by omega
    have kc := own_cell HW.out (wrds_at v hj4)
    have hx := hf.ok.ldV_lt (j : Int)
    rw [HE.out.1, HE.out.2]
    have HT := hid (fun W => ref14_take hx W)
    unfold hdrV at HT ⊢
    generalize tkH (v.ldV j) = hd at *
    obtain ⟨hp, hq, hr⟩ := hd
    generalize tkE (v.ldV j) = er at *
    generalize v.ldV j = x at *
    clear hW hld h HE hx hf
    go_enter Tryz.func74, Tryz.ntmps74
    go_wp2_with (go_at_call 138; refine (HT.out _).mono ?_; rintro e w2 ⟨rfl, hg2⟩; have r2 := (Rec.new w 90 [.int .i64 0, .int .i64 0, .int .i64 0]).gr hg2; have k0 := r2.cell (j := 0) rfl; have k1 := r2.cell (j := 1) rfl; have k2 := r2.cell (j := 2) rfl; have kf := r2.free; have HR2 := hid r2; have HG2 := hid (((Gr.refl w).alloc _).trans hg2); clear hg2 r2)
    have R3 := Rec.set (Rec.set (Rec.set HR2.out 0 (.int .i64 hp)) 1 (.int .i64 hq)) 2 (.int .i64 hr)
    refine bodyPost_ret (v := .tuple #[.agg #[.int .i64 hp, .int .i64 hq, .int .i64 hr], .int .i64 er]) ?_ rfl ⟨rfl, rd_gr HG2.out⟩
    rw [results_cell_tmp rfl]
    have hl := KL.out _ w.heap.size _ _ _ (R3.cell (j := 0) rfl) (R3.cell (j := 1) rfl) (R3.cell (j := 2) rfl)
    simp [asAddr, Result.andThen, hl]
section
variable {w : World} {A : Option Addr} {cp M : Nat} {v : Vm}
set_option maxRecDepth 100000 in
set_option maxHeartbeats 1600000 in
theorem ref15n_place (hf : FullN M v) (hW : Wrds w A cp M v) (a i kd : Int) (hk : kd ≠ 0) : Calls Tryz.prog 190 #[.slice A M cp, .int .i64 a, .int .i64 i, .int .i64 kd] w fun e w' => e = .returned (.tuple #[.int .i64 (v.plA a i kd), .int .i64 (v.plE a i kd)]) ∧ Gr w w' := by
  have HRD := hid (fun (w' : World) (g : Gr w w') => ref15n_read hf (hW.gr g) a)
  have hn2 := hf.n
  have hm2 := hf.m2
  by_cases hE : v.rdE a = 0
  · obtain ⟨ha, hl, p, f, k, hh, hs⟩ := rdE_zero hE
    have hr := ldE_in hl
    rw [hh] at HRD
    have HP : Hid (v.plE a i kd = if kindOf ⟨p, f, k⟩ i = kd then 0 else if kindOf ⟨p, f, k⟩ i = 0 then 19 else 20) := ⟨by unfold Vm.plE; rw [if_neg (fun h => h hE), hh]⟩
    have HA : Hid (v.plA a i kd = if v.plE a i kd = 0 then a + 1 + i else 0) := ⟨rfl⟩
    have HK := hid (fun W => ref14_kind hs i W)
    have hN : hdrN ⟨p, f, k⟩ = 1 + (p : Int) + f + k := if_pos (hdrE_of hs)
    have hki : kindOf ⟨p, f, k⟩ i ≠ 0 → 0 ≤ i ∧ i < 255 := fun h => by
      unfold kindOf at h
      split at h
      · rename_i h'
        rw [hN] at h'
        omega
      · exact absurd rfl h
    generalize kindOf ⟨(p : Int), (f : Int), (k : Int)⟩ i = kk at HP HK hki
    have HE := hid hE
    have hr2 : a < (M : Int) := by omega
    have HR := hid (fun W => Rec.new W 90 [.int .i64 p, .int .i64 f, .int .i64 k])
    clear hE hl hh hs hN hW hr hn2 hf
    unfold hdrV at HRD
    by_cases h1 : kk = kd
    · have e0 : v.plE a i kd = 0 := by rw [HP.out, if_pos h1]
      have HE0 : Hid (v.plE a i kd = 0 ∧ v.plA a i kd = a + 1 + i) := ⟨⟨e0, by rw [HA.out, if_pos e0]⟩⟩
      have hii := hki (by rw [h1]; exact hk)
      have d0 : (kk == kd) = true := by simpa using h1
      have d9 : (kk == 0) = false := by rw [h1]; simpa using hk
      clear h1 hki HP HA e0
      go_enter Tryz.func190, Tryz.ntmps190
      go_wp2_with (first
        | (go_at_call 74; refine (HRD.out _ (Gr.refl w)).mono ?_; rintro e w1 ⟨rfl, hg1⟩; rw [HE.out]; have HG1 := hid hg1; have y0 := (HR.out w1).cell (j := 0) rfl; have y1 := (HR.out w1).cell (j := 1) rfl; have y2 := (HR.out w1).cell (j := 2) rfl; clear hg1)
        | (go_at_call 117; refine (HK.out _).mono ?_; rintro e w2 ⟨rfl, hg2⟩; have HG2 := hid hg2; clear hg2))
      go_ret2
      exact ⟨ret2 (vint (by rw [HE0.out.2])) (vint (by rw [HE0.out.1])), (HG1.out.alloc _).trans HG2.out⟩
    · have d0 : (kk == kd) = false := by simpa using h1
      by_cases h2 : kk = 0
      · have e0 : v.plE a i kd = 19 := by rw [HP.out, if_neg h1, if_pos h2]
        have HE0 : Hid (v.plE a i kd = 19 ∧ v.plA a i kd = 0) := ⟨⟨e0, by rw [HA.out, if_neg (by rw [e0]; decide)]⟩⟩
        have d1 : (kk == 0) = true := by simpa using h2
        clear h1 h2 hki HP HA e0
        go_enter Tryz.func190, Tryz.ntmps190
        go_wp2_with (first
          | (go_at_call 74; refine (HRD.out _ (Gr.refl w)).mono ?_; rintro e w1 ⟨rfl, hg1⟩; rw [HE.out]; have HG1 := hid hg1; have y0 := (HR.out w1).cell (j := 0) rfl; have y1 := (HR.out w1).cell (j := 1) rfl; have y2 := (HR.out w1).cell (j := 2) rfl; clear hg1)
          | (go_at_call 117; refine (HK.out _).mono ?_; rintro e w2 ⟨rfl, hg2⟩; have HG2 := hid hg2; clear hg2))
        go_ret2
        exact ⟨ret2 (vint (by rw [HE0.out.2])) (vint (by rw [HE0.out.1])), (HG1.out.alloc _).trans HG2.out⟩
      · have e0 : v.plE a i kd = 20 := by rw [HP.out, if_neg h1, if_neg h2]
        have HE0 : Hid (v.plE a i kd = 20 ∧ v.plA a i kd = 0) := ⟨⟨e0, by rw [HA.out, if_neg (by rw [e0]; decide)]⟩⟩
        have d1 : (kk == 0) = false := by simpa using h2
        clear h1 h2 hki HP HA e0
        go_enter Tryz.func190, Tryz.ntmps190
        go_wp2_with (first
          | (go_at_call 74; refine (HRD.out _ (Gr.refl w)).mono ?_; rintro e w1 ⟨rfl, hg1⟩; rw [HE.out]; have HG1 := hid hg1; have y0 := (HR.out w1).cell (j := 0) rfl; have y1 := (HR.out w1).cell (j := 1) rfl; have y2 := (HR.out w1).cell (j := 2) rfl; clear hg1)
          | (go_at_call 117; refine (HK.out _).mono ?_; rintro e w2 ⟨rfl, hg2⟩; have HG2 := hid hg2; clear hg2))
        go_ret2
        exact ⟨ret2 (vint (by rw [HE0.out.2])) (vint (by rw [HE0.out.1])), (HG1.out.alloc _).trans HG2.out⟩
  · have e1 : v.plE a i kd = v.rdE a := by unfold Vm.plE; rw [if_pos hE]
    have HE0 : Hid (v.plE a i kd = v.rdE a ∧ v.plA a i kd = 0) := ⟨⟨e1, by unfold Vm.plA; rw [if_neg (by rw [e1]; exact hE)]⟩⟩
    obtain ⟨y, hy⟩ : ∃ y, y = v.rdE a := ⟨_, rfl⟩
    have d2 : (y == 0) = false := by rw [hy]; simpa using hE
    rw [← hy] at HE0 HRD
    clear hE hy e1 hW hf
    unfold hdrV at HRD
    go_enter Tryz.func190, Tryz.ntmps190
    go_wp2_with (go_at_call 74; refine (HRD.out _ (Gr.refl w)).mono ?_; rintro e w1 ⟨rfl, hg1⟩; have HG1 := hid hg1; clear hg1)
    go_ret2
    exact ⟨ret2 (vint (by rw [HE0.out.2])) (vint (by rw [HE0.out.1])), HG1.out.alloc _⟩
theorem plE_addr_nonneg {a i kd : Int} (hk : kd ≠ 0) (h : v.plE a i kd = 0) : 0 ≤ a + 1 + i := by
  unfold Vm.plE at h
  split at h
  · exact absurd h (by assumption)
  · rename_i hE
    have hE : v.rdE a = 0 := Classical.not_not.1 hE
    obtain ⟨ha, -, -⟩ := rdE_zero hE
    have : 0 ≤ i := by
      rcases Int.lt_or_le i 0 with h2 | h2
      · have e : kindOf (v.rdH a) i = 0 := by unfold kindOf; rw [if_neg (by omega)]
        rw [e, if_neg (fun e => hk e.symm), if_pos rfl] at h
        cases h
      · exact h2
    omega
set_option maxRecDepth 100000 in
set_option maxHeartbeats 1600000 in
theorem ref15n_get (hf : FullN M v) (hW : Wrds w A cp M v) (a i : Int) : Calls Tryz.prog 143 #[.slice A M cp, .int .i64 a, .int .i64 i, .int .i64 1] w fun e w' => e = .returned (.tuple #[.int .u64 (v.ptV a i : Nat), .int .i64 (v.ptE a i)]) ∧ Gr w w' := by
  have HRD := hid (fun (w' : World) (g : Gr w w') => ref15n_place hf (hW.gr g) a i 1 (by decide))
  have HW := hid hW
  have hm1 := hf.m1
  have hm2 := hf.m2
  by_cases hE : v.plE a i 1 = 0
  · have hat := plE_addr_nonneg (by decide : (1 : Int) ≠ 0) hE
    have HE : Hid (v.gtE a i 1 = v.ldE (a + 1 + i) ∧ v.gtV a i 1 = v.ldV (a + 1 + i)) := ⟨⟨if_neg (fun h => h hE), if_neg (fun h => h hE)⟩⟩
    have HA : Hid (v.plA a i 1 = a + 1 + i) := ⟨if_pos hE⟩
    have hld := hf.ldE (a + 1 + i)
    have hx := hf.ok.ldV_lt (a + 1 + i)
    rw [hE, HA.out] at HRD
    generalize a + 1 + i = y at hat HE HRD hld hx
    obtain ⟨j, rfl⟩ : ∃ j : Nat, y = j := ⟨y.toNat, by omega⟩
    by_cases hj : j < M
    · rw [if_pos (by omega)] at hld
      obtain ⟨g, c', ea, -, -, -, hgl⟩ := own_form hW (by omega)
      simp only [Value.slice.injEq] at ea
      obtain ⟨rfl, -, rfl⟩ := ea
      have kc0 := own_cell hW (wrds_at v hj)
      have d2 : decide ((M : Int) ≤ (j : Int)) = false := decide_eq_false (by omega)
      have d3 : decide (M ≤ j) = false := decide_eq_false (by omega)
      have hjI : (j : Int) < (M : Int) := by omega
      by_cases hb : 2147483647 < v.ldV j
      · have e1 : v.ptE a i = 25 := by unfold Vm.ptE; rw [HE.out.1, hld, if_neg (fun h => h rfl), HE.out.2, if_pos hb]
        have HP : Hid (v.ptE a i = 25 ∧ v.ptV a i = 0) := ⟨⟨e1, by unfold Vm.ptV; rw [if_neg (by rw [e1]; decide)]⟩⟩
        obtain ⟨x, HX⟩ : ∃ x, Hid (v.ldV (j : Int) = x) := ⟨_, ⟨rfl⟩⟩
        rw [HX.out] at hb hx kc0
        have d4 : decide (2147483648 ≤ (x : Int)) = true := decide_eq_true (by omega)
        have HJ4 := hid hj
        clear hE e1 hld hb hf hW hx hat hj
        go_enter Tryz.func143, Tryz.ntmps143
        go_wp2_with (go_at_call 190; refine (HRD.out _ (Gr.refl w)).mono ?_; rintro e w1 ⟨rfl, hg1⟩; have HG1 := hid hg1; have kc := (own_cell (HW.out.gr hg1) (wrds_at v HJ4.out)); rw [HX.out] at kc; clear hg1)
        go_ret2
        exact ⟨ret2 (congrArg (fun n : Nat => Value.int .u64 (n : Int)) HP.out.2.symm) (vint HP.out.1.symm), HG1.out⟩
      · have e1 : v.ptE a i = 0 := by unfold Vm.ptE; rw [HE.out.1, hld, if_neg (fun h => h rfl), HE.out.2, if_neg hb]
        have HP : Hid (v.ptE a i = 0 ∧ v.ptV a i = v.ldV j) := ⟨⟨e1, by unfold Vm.ptV; rw [if_pos e1, HE.out.2]⟩⟩
        obtain ⟨x, HX⟩ : ∃ x, Hid (v.ldV (j : Int) = x) := ⟨_, ⟨rfl⟩⟩
        rw [HX.out] at hb hx kc0 HP
        have d4 : decide (2147483648 ≤ (x : Int)) = false := decide_eq_false (by omega)
        have HJ4 := hid hj
        clear hE e1 hld hb hf hW hx hat hj
        go_enter Tryz.func143, Tryz.ntmps143
        go_wp2_with (go_at_call 190; refine (HRD.out _ (Gr.refl w)).mono ?_; rintro e w1 ⟨rfl, hg1⟩; have HG1 := hid hg1; have kc := (own_cell (HW.out.gr hg1) (wrds_at v HJ4.out)); rw [HX.out] at kc; clear hg1)
        go_ret2
        exact ⟨ret2 (congrArg (fun n : Nat => Value.int .u64 (n : Int)) HP.out.2.symm) (vint HP.out.1.symm), HG1.out⟩
    · rw [if_neg (by omega)] at hld
      have e1 : v.ptE a i = 11 := by unfold Vm.ptE; rw [HE.out.1, hld, if_pos (by decide)]
      have HP : Hid (v.ptE a i = 11 ∧ v.ptV a i = 0) := ⟨⟨e1, by unfold Vm.ptV; rw [if_neg (by rw [e1]; decide)]⟩⟩
      have d2 : decide ((M : Int) ≤ (j : Int)) = true := decide_eq_true (by omega)
      have d3 : decide (M ≤ j) = true := decide_eq_true (by omega)
      clear hE e1 hld hf hW hx hat hj
      go_enter Tryz.func143, Tryz.ntmps143
      go_wp2_with (go_at_call 190; refine (HRD.out _ (Gr.refl w)).mono ?_; rintro e w1 ⟨rfl, hg1⟩; have HG1 := hid hg1; clear hg1)
      go_ret2
      exact ⟨ret2 (congrArg (fun n : Nat => Value.int .u64 (n : Int)) HP.out.2.symm) (vint HP.out.1.symm), HG1.out⟩
  · have e1 : v.ptE a i = v.plE a i 1 := by unfold Vm.ptE Vm.gtE; rw [if_pos hE, if_pos hE]
    have HE : Hid (v.ptE a i = v.plE a i 1 ∧ v.ptV a i = 0) := ⟨⟨e1, by unfold Vm.ptV; rw [if_neg (by rw [e1]; exact hE)]⟩⟩
    have HA : Hid (v.plA a i 1 = 0) := ⟨if_neg hE⟩
    rw [HA.out] at HRD
    obtain ⟨y, hy⟩ : ∃ y, y = v.plE a i 1 := ⟨_, rfl⟩
    have d2 : (y == 0) = false := by rw [hy]; simpa using hE
    rw [← hy] at HE HRD
    clear hE hy hW e1 hf
    go_enter Tryz.func143, Tryz.ntmps143
    go_wp2_with (go_at_call 190; refine (HRD.out _ (Gr.refl w)).mono ?_; rintro e w1 ⟨rfl, hg1⟩; have HG1 := hid hg1; clear hg1)
    go_ret2
    exact ⟨ret2 (congrArg (fun n : Nat => Value.int .u64 (n : Int)) HE.out.2.symm) (vint HE.out.1.symm), HG1.out⟩
end
end Go.Proofs.YtbmidhlilafgeaaGreatDoor
end
