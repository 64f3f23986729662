/- Part 8 of what PackingPlays leans on: my own lemmas, merged by shake.py. -/
import Derived.Test.YtbmidhlilafgeaaGreatDoorPackingPlaysG
import Derived.Deep.CutBlock
import Derived.Deep.DeepCutAuto
import Derived.SizedLaws
section
section
namespace Go.Proofs.YtbmidhlilafgeaaGreatDoor
open Go.RowKit Word

set_option maxRecDepth 100000 in
set_option maxHeartbeats 800000 in
theorem ref14_may {p f k : Nat} (hp : p ≤ 255) (hf : f ≤ 255) (hk : k ≤ 255) (w : World) : Calls Tryz.prog 189 #[.agg #[.int .i64 p, .int .i64 f, .int .i64 k]] w fun e w' => e = .returned (.bool (decide (p + f + k ≤ 255))) ∧ Gr w w' := by
  have d1 : decide (255 < (p : Int)) = false := decide_eq_false (by omega)
  have d2 : decide (255 < (f : Int)) = false := decide_eq_false (by omega)
  have d3 : decide (255 < (k : Int)) = false := decide_eq_false (by omega)
  have HD : Hid (decide ((p : Int) + f + k ≤ 255) = decide (p + f + k ≤ 255)) := ⟨by by_cases h : p + f + k ≤ 255 <;> simp [h] <;> omega⟩
  go_enter Tryz.func189, Tryz.ntmps189
  go_wp2
  go_ret
  exact ⟨congrArg (fun b => Ending.returned (.bool b)) HD.out, (Gr.refl w).alloc _⟩
set_option maxRecDepth 100000 in
set_option maxHeartbeats 800000 in
theorem ref14_size {p f k : Nat} (hs : p + f + k ≤ 255) (w : World) : Calls Tryz.prog 142 #[.agg #[.int .i64 p, .int .i64 f, .int .i64 k]] w fun e w' => e = .returned (.int .i64 (hdrN ⟨p, f, k⟩)) ∧ Gr w w' := by
  have HM := hid (fun W => ref14_may (p := p) (f := f) (k := k) (by omega) (by omega) (by omega) W)
  rw [decide_eq_true hs] at HM
  have HN : Hid (hdrN ⟨p, f, k⟩ = 1 + (p : Int) + f + k) := ⟨if_pos (hdrE_of hs)⟩
  have HR := hid (Rec.new w 90 [.int .i64 p, .int .i64 f, .int .i64 k])
  go_enter Tryz.func142, Tryz.ntmps142
  go_wp2_with (go_at_call 189; refine (HM.out _).mono ?_; rintro e w1 ⟨rfl, hg1⟩; have HG1 := hid (((Gr.refl w).alloc _).trans hg1); have R1 := HR.out.gr hg1; have y0 := R1.cell (j := 0) rfl; have y1 := R1.cell (j := 1) rfl; have y2 := R1.cell (j := 2) rfl; clear hg1 R1)
  go_ret
  exact ⟨ret_int (by rw [HN.out]; omega), HG1.out⟩
def PutEnd14 (w : World) (p f k : Nat) (e : Ending) (w' : World) : Prop := e = .returned (if p + f + k ≤ 255 then .tuple #[.int .u64 (hdrW p f k : Nat), .int .i64 0] else .tuple #[.int .u64 0, .int .i64 15]) ∧ Gr w w'
set_option maxRecDepth 100000 in
set_option maxHeartbeats 1600000 in
theorem ref14_put {p f k : Nat} (hp : p ≤ 255) (hf : f ≤ 255) (hk : k ≤ 255) (w : World) : Calls Tryz.prog 187 #[.agg #[.int .i64 p, .int .i64 f, .int .i64 k]] w (PutEnd14 w p f k) := by
  have HM := hid (fun W => ref14_may hp hf hk W)
  have HR := hid (Rec.new w 90 [.int .i64 p, .int .i64 f, .int .i64 k])
  by_cases hs : p + f + k ≤ 255
  · rw [decide_eq_true hs] at HM
    have HS := hid hs
    have hw1 : IntKind.u64.wrap (p : Int) = p := by rw [IntKind.wrap_u64]; omega
    have hw2 : IntKind.u64.wrap (f : Int) = f := by rw [IntKind.wrap_u64]; omega
    have hw3 : IntKind.u64.wrap (k : Int) = k := by rw [IntKind.wrap_u64]; omega
    have HW : Hid (((hdrW p f k : Nat) : Int) = ((p : Int) + (f : Int) * 256 + (k : Int) * 65536 + 2768240640) + (4294967295 - ((p : Int) + (f : Int) * 256 + (k : Int) * 65536 + 2768240640)) * 4294967296) := ⟨by unfold hdrW hdrL; omega⟩
    go_enter Tryz.func187, Tryz.ntmps187
    go_wp2_with (go_at_call 189; refine (HM.out _).mono ?_; rintro e w1 ⟨rfl, hg1⟩; have HG1 := hid (((Gr.refl w).alloc _).trans hg1); have R1 := HR.out.gr hg1; have y0 := R1.cell (j := 0) rfl; have y1 := R1.cell (j := 1) rfl; have y2 := R1.cell (j := 2) rfl; clear hg1 R1)
    go_ret2
    exact ⟨by rw [if_pos HS.out, HW.out]; rfl, HG1.out⟩
  · rw [decide_eq_false hs] at HM
    have HS := hid hs
    clear hs
    go_enter Tryz.func187, Tryz.ntmps187
    go_wp2_with (go_at_call 189; refine (HM.out _).mono ?_; rintro e w1 ⟨rfl, hg1⟩; have HG1 := hid (((Gr.refl w).alloc _).trans hg1); clear hg1)
    go_ret2
    exact ⟨by rw [if_neg HS.out]; rfl, HG1.out⟩
end Go.Proofs.YtbmidhlilafgeaaGreatDoor
end

section
namespace Go.Proofs.YtbmidhlilafgeaaGreatDoor
open Go.RowKit Word
theorem tk14 {x : Nat} (_hx : x < 18446744073709551616) : tkOk x = (decide (x % 256 + x / 256 % 256 + x / 65536 % 256 ≤ 255) && decide (hdrW (x % 256) (x / 256 % 256) (x / 65536 % 256) = x)) := by
  have h1 : x % 256 + 256 * (x / 256 % 256) + 65536 * (x / 65536 % 256) = x % 16777216 := by omega
  have h2 : x % 4294967296 = x % 16777216 + 16777216 * (x % 4294967296 / 16777216) := by omega
  have h3 : x = x / 4294967296 * 4294967296 + x % 4294967296 := by omega
  unfold tkOk
  refine Bool.eq_iff_iff.2 ?_
  simp only [Bool.and_eq_true, decide_eq_true_eq]
  unfold hdrW hdrL
  generalize x % 256 = p at *
  generalize x / 256 % 256 = f at *
  generalize x / 65536 % 256 = k at *
  constructor
  · rintro ⟨⟨a, b⟩, c⟩
    exact ⟨c, by omega⟩
  · rintro ⟨c, d⟩
    exact ⟨⟨by omega, by omega⟩, c⟩
set_option maxRecDepth 100000 in
set_option maxHeartbeats 6400000 in
theorem ref14_take {x : Nat} (hx : x < 18446744073709551616) (w : World) : Calls Tryz.prog 138 #[.int .u64 (x : Nat)] w fun e w' => e = .returned (.tuple #[hdrV (tkH x), .int .i64 (tkE x)]) ∧ Gr w w' := by
  have hk := tk14 hx
  have HT : Hid (tkH x = if tkOk x then ⟨(x % 256 : Nat), (x / 256 % 256 : Nat), (x / 65536 % 256 : Nat)⟩ else ⟨0, 0, 0⟩) := ⟨rfl⟩
  have HE : Hid (tkE x = if tkOk x then 0 else 16) := ⟨rfl⟩
  have e1 : (x : Int) % 256 = ((x % 256 : Nat) : Int) := by omega
  have e2 : ((x / 256 : Nat) : Int) % 256 = ((x / 256 % 256 : Nat) : Int) := by omega
  have e3 : ((x / 65536 : Nat) : Int) % 256 = ((x / 65536 % 256 : Nat) : Int) := by omega
  have e4 : (x : Int) / 256 = ((x / 256 : Nat) : Int) := by omega
  have e5 : (x : Int) / 65536 = ((x / 65536 : Nat) : Int) := by omega
  have e6 : ((x / 256 : Nat) : Int).tmod 256 = ((x / 256 % 256 : Nat) : Int) := rfl
  have e7 : ((x / 65536 : Nat) : Int).tmod 256 = ((x / 65536 % 256 : Nat) : Int) := rfl
  have e8 : IntKind.u64.wrap ((x / 256 : Nat) : Int) = ((x / 256 : Nat) : Int) := by rw [IntKind.wrap_u64]; omega
  have e9 : IntKind.u64.wrap ((x / 65536 : Nat) : Int) = ((x / 65536 : Nat) : Int) := by rw [IntKind.wrap_u64]; omega
  have hp : x % 256 ≤ 255 := by omega
  have hf : x / 256 % 256 ≤ 255 := by omega
  have hkk : x / 65536 % 256 ≤ 255 := by omega
  generalize x % 256 = p at *
  generalize x / 256 % 256 = f at *
  generalize x / 65536 % 256 = k at *
  generalize x / 256 = y1 at *
  generalize x / 65536 = y2 at *
  have HP := hid (fun W => ref14_put hp hf hkk W)
  unfold PutEnd14 at HP
  have KL := hid (fun (W : World) (blk : Nat) (p q r : Value) => load_hdr W blk p q r)
  have HR := hid (Rec.new w 90 [.int .i64 0, .int .i64 0, .int .i64 0])
  have HR4 := hid (fun W (g : Gr ((w.alloc (.cells #[.int .i64 0, .int .i64 0, .int .i64 0] 90)).alloc (.cells #[.int .i64 p, .int .i64 f, .int .i64 k] 90)) W) => ((tk_recs (w := w) (xs := [.int .i64 0, .int .i64 0, .int .i64 0]) (ys := [.int .i64 p, .int .i64 f, .int .i64 k]) g)))
  by_cases hs : p + f + k ≤ 255
  · rw [if_pos hs] at HP
    by_cases hw : hdrW p f k = x
    · have hok : tkOk x = true := by rw [hk, decide_eq_true hs, decide_eq_true hw]; rfl
      have HH : Hid (tkH x = ⟨p, f, k⟩ ∧ tkE x = 0) := ⟨⟨by rw [HT.out, if_pos hok], by rw [HE.out, if_pos hok]⟩⟩
      rw [hw] at HP
      unfold hdrV
      rw [HH.out.1, HH.out.2]
      clear hk hw hok HT HE hs hx
      go_enter Tryz.func138, Tryz.ntmps138
      go_wp2_with (go_at_call 187; refine (HP.out _).mono ?_; rintro e w1 ⟨rfl, hg1⟩; obtain ⟨ra, rb⟩ := HR4.out _ hg1; have y0 := ra.cell (j := 0) rfl; have y1 := ra.cell (j := 1) rfl; have y2 := ra.cell (j := 2) rfl; have yf := ra.free; have x0 := rb.cell (j := 0) rfl; have x1 := rb.cell (j := 1) rfl; have x2 := rb.cell (j := 2) rfl; have HRA := hid ra; have HG1 := hid hg1; clear hg1 ra rb)
      have R3 := Rec.set (Rec.set (Rec.set HRA.out 0 (.int .i64 p)) 1 (.int .i64 f)) 2 (.int .i64 k)
      refine bodyPost_ret (v := .tuple #[.agg #[.int .i64 p, .int .i64 f, .int .i64 k], .int .i64 0]) ?_ rfl ⟨rfl, tk_gr HG1.out⟩
      rw [results_cell_tmp rfl]
      have hl := KL.out _ w.heap.size _ _ _ (R3.cell (j := 0) rfl) (R3.cell (j := 1) rfl) (R3.cell (j := 2) rfl)
      simp [asAddr, Result.andThen, hl]
    · have hok : tkOk x = false := by rw [hk, decide_eq_false hw]; simp
      have HH : Hid (tkH x = ⟨0, 0, 0⟩ ∧ tkE x = 16) := ⟨⟨by rw [HT.out, hok]; rfl, by rw [HE.out, hok]; rfl⟩⟩
      have dw : (((hdrW p f k : Nat) : Int) == (x : Int)) = false := beq_false_of_ne (fun h => hw (by omega))
      generalize hdrW p f k = y at *
      unfold hdrV
      rw [HH.out.1, HH.out.2]
      clear hk hw hok HT HE hs hx
      go_enter Tryz.func138, Tryz.ntmps138
      go_wp2_with (go_at_call 187; refine (HP.out _).mono ?_; rintro e w1 ⟨rfl, hg1⟩; obtain ⟨ra, rb⟩ := HR4.out _ hg1; have y0 := ra.cell (j := 0) rfl; have y1 := ra.cell (j := 1) rfl; have y2 := ra.cell (j := 2) rfl; have yf := ra.free; have HRA := hid ra; have HG1 := hid hg1; clear hg1 ra rb)
      have R3 := Rec.set (Rec.set (Rec.set HRA.out 0 (.int .i64 0)) 1 (.int .i64 0)) 2 (.int .i64 0)
      refine bodyPost_ret (v := .tuple #[.agg #[.int .i64 0, .int .i64 0, .int .i64 0], .int .i64 16]) ?_ rfl ⟨rfl, tk_gr HG1.out⟩
      rw [results_cell_tmp rfl]
      have hl := KL.out _ w.heap.size _ _ _ (R3.cell (j := 0) rfl) (R3.cell (j := 1) rfl) (R3.cell (j := 2) rfl)
      simp [asAddr, Result.andThen, hl]
  · rw [if_neg hs] at HP
    have hok : tkOk x = false := by rw [hk, decide_eq_false hs]; rfl
    have HH : Hid (tkH x = ⟨0, 0, 0⟩ ∧ tkE x = 16) := ⟨⟨by rw [HT.out, hok]; rfl, by rw [HE.out, hok]; rfl⟩⟩
    unfold hdrV
    rw [HH.out.1, HH.out.2]
    clear hk hok HT HE hs hx
    go_enter Tryz.func138, Tryz.ntmps138
    go_wp2_with (go_at_call 187; refine (HP.out _).mono ?_; rintro e w1 ⟨rfl, hg1⟩; obtain ⟨ra, rb⟩ := HR4.out _ hg1; have y0 := ra.cell (j := 0) rfl; have y1 := ra.cell (j := 1) rfl; have y2 := ra.cell (j := 2) rfl; have yf := ra.free; have HRA := hid ra; have HG1 := hid hg1; clear hg1 ra rb)
    have R3 := Rec.set (Rec.set (Rec.set HRA.out 0 (.int .i64 0)) 1 (.int .i64 0)) 2 (.int .i64 0)
    refine bodyPost_ret (v := .tuple #[.agg #[.int .i64 0, .int .i64 0, .int .i64 0], .int .i64 16]) ?_ rfl ⟨rfl, tk_gr HG1.out⟩
    rw [results_cell_tmp rfl]
    have hl := KL.out _ w.heap.size _ _ _ (R3.cell (j := 0) rfl) (R3.cell (j := 1) rfl) (R3.cell (j := 2) rfl)
    simp [asAddr, Result.andThen, hl]
end Go.Proofs.YtbmidhlilafgeaaGreatDoor
end

section
section
namespace Go.Proofs.YtbmidhlilafgeaaGreatDoor
open Go.RowKit Word

/-- The kinds of all fields. -/
def kl (p f k : Nat) : List Int := List.replicate p 1 ++ List.replicate f 2 ++ List.replicate k 3
theorem kl_len (p f k : Nat) : (kl p f k).length = p + f + k := by simp [kl]; omega
theorem kl_at {p f k i : Nat} (hi : i < p + f + k) : (kl p f k)[i]'(by rw [kl_len]; exact hi) = if i < p then 1 else if i < p + f then 2 else 3 := by
  unfold kl
  by_cases h1 : i < p
  · rw [if_pos h1, List.getElem_append_left (by simp; omega), List.getElem_append_left (by simpa using h1)]
    simp
  · rw [if_neg h1]
    by_cases h2 : i < p + f
    · rw [if_pos h2, List.getElem_append_left (by simp; omega), List.getElem_append_right (by simp; omega)]
      simp
    · rw [if_neg h2, List.getElem_append_right (by simp; omega)]
      simp
def KindsEnd (w : World) (p f k : Nat) (e : Ending) (w' : World) : Prop := ∃ A c, e = .returned (.slice A (p + f + k) c) ∧ Gr w w' ∧ w'.ownsRow w.heap.size 3 1 (.slice A (p + f + k) c) (p + f + k) (zs (kl p f k))
set_option maxRecDepth 100000 in
set_option maxHeartbeats 6400000 in
theorem ref14_kinds {p f k : Nat} (hs : p + f + k ≤ 255) (w : World) : Calls Tryz.prog 170 #[.agg #[.int .i64 p, .int .i64 f, .int .i64 k]] w (KindsEnd w p f k) := by
  have HM := hid (fun W => ref14_may (p := p) (f := f) (k := k) (by omega) (by omega) (by omega) W)
  rw [decide_eq_true hs] at HM
  have HR := hid (Rec.new w 90 [.int .i64 p, .int .i64 f, .int .i64 k])
  obtain ⟨ii, hii, hi0, hi1, hi2⟩ := info_parts infoIntV
  go_enter Tryz.func170, Tryz.ntmps170
  go_wp2_with (go_at_call 189; refine (HM.out _).mono ?_; rintro e w1 ⟨rfl, hg1⟩; have HG1 := hid (((Gr.refl w).alloc _).trans hg1); have HR1 := hid (HR.out.gr hg1); clear hg1)
  go_loopw [3, 4] (fun s3 s4 wr => ∃ (j : Nat) (vL : Value), j ≤ p ∧ Hid (wr.ownsRow w.heap.size 3 1 vL (j) (zs (List.replicate j 1))) ∧ Hid (Rec wr w.heap.size 90 [.int .i64 p, .int .i64 f, .int .i64 k]) ∧ Hid (Touch (fun i => w.heap.size ≤ i) w wr) ∧ s3 = vL ∧ s4 = .int .i64 j) (fun _ s4 _ => p - (intOf s4).toNat)
  case atStart => exact ⟨0, _, Nat.zero_le _, ⟨own_nil _ _ _ _⟩, HR1, ⟨HG1.out.touch _⟩, rfl, rfl⟩
  case round =>
    obtain ⟨j, vL, hj, HO, HQ, HT, rfl, rfl⟩ := hrel
    have y0 := HQ.out.cell (j := 0) rfl
    have y1 := HQ.out.cell (j := 1) rfl
    have y2 := HQ.out.cell (j := 2) rfl
    obtain ⟨A, cc, rfl, hc1, hc2⟩ := own_shape HO.out
    unfold maxLen at hc2
    by_cases hlast : j < p
    · have HSU : Hid (zs (List.replicate (j + 1) 1) = zs (List.replicate j 1) ++ [.int .i64 1]) := ⟨by rw [List.replicate_succ']; unfold zs; rw [List.map_append]; rfl⟩
      have hNb : j ≤ 255 := by omega
      have HJ := hid hlast
      have hjI : (j : Int) < (p : Int) := by omega
      clear hlast hj
      go_wp2_with (at_builtin; refine wpList_append_lies _ rfl _ _ 30 rfl w.heap.size 3 ii _ 1 8 Tryz.underlying30 hii hi0 hi1 hi2 rfl (by decide) (.slice A j cc) j (zs (List.replicate j 1)) rfl (HO.out.alloc _) ⟨wr.heap.size, 0, none⟩ 1 1 [.int .i64 1] rfl rfl (World.news_of_block (cs := #[.int .i64 1]) (t := 3) (fr := (0, 0)) (heap_alloc_new wr (.cells #[.int .i64 1] 3))) (by simp [Value.oneCell']) (by omega) (by unfold maxLen; omega) (by omega) (by have := HT.out.size; rw [World.size_alloc]; omega) (wr.heap.size + 1) (by simp) ?_; intro g3 c3 w3 hown3 hgrow3 hat3 hlt3; have t3 : Touch (fun k => (Value.slice A j cc).ownBlock = some k) wr w3 := (((Gr.refl _).alloc _).touch _).trans (grown_touch hgrow3 _ (fun k e _ => e)); have HT3 := hid t3; have HO3 := hid hown3; clear hown3 hgrow3 hat3 hlt3 t3)
      go_round
      case rel =>
        refine ⟨j + 1, .slice (some ⟨g3, 0, none⟩) (j + 1) c3, HJ.out, ⟨?_⟩, ⟨HQ.out.touch HT3.out (fun e => own_ne HO.out HQ.out (by decide) e rfl rfl)⟩, ⟨HT.out.trans (HT3.out.mono (fun i _ h => (own_lt HO.out h).1))⟩, rfl, by go_num⟩
        rw [HSU.out]
        exact HO3.out
      case measure => have := HJ.out; simp [intOf]; omega
    · obtain rfl : p = j := by omega
      clear hlast hj
      obtain ⟨wa, rfl⟩ : ∃ wa : World, wa = wr := ⟨_, rfl⟩
      go_wp2_with (fail)
      go_loopw [3, 5] (fun s3 s5 wr => ∃ (j : Nat) (vL : Value), j ≤ f ∧ Hid (wr.ownsRow w.heap.size 3 1 vL (p + j) (zs (List.replicate p 1 ++ List.replicate j 2))) ∧ Hid (Rec wr w.heap.size 90 [.int .i64 p, .int .i64 f, .int .i64 k]) ∧ Hid (Touch (fun i => w.heap.size ≤ i) w wr) ∧ s3 = vL ∧ s5 = .int .i64 j) (fun _ s5 _ => f - (intOf s5).toNat)
      case atStart => exact ⟨0, _, Nat.zero_le _, ⟨by rw [Nat.add_zero]; have := HO.out; simpa using this⟩, HQ, HT, rfl, rfl⟩
      case round =>
        clear y0 y1 y2 hc1 hc2 HO HQ HT
        obtain ⟨j, vL, hj, HO, HQ, HT, rfl, rfl⟩ := hrel
        have y0 := HQ.out.cell (j := 0) rfl
        have y1 := HQ.out.cell (j := 1) rfl
        have y2 := HQ.out.cell (j := 2) rfl
        obtain ⟨A, cc, rfl, hc1, hc2⟩ := own_shape HO.out
        unfold maxLen at hc2
        by_cases hlast : j < f
        · have HSU : Hid (zs (List.replicate p 1 ++ List.replicate (j + 1) 2) = zs (List.replicate p 1 ++ List.replicate j 2) ++ [.int .i64 2]) := ⟨by rw [List.replicate_succ', ← List.append_assoc]; unfold zs; rw [List.map_append]; rfl⟩
          obtain ⟨N, hN⟩ : ∃ N, N = p + j := ⟨_, rfl⟩
          have HN := hid hN
          rw [← hN] at HO hc1
          have hNb : N ≤ 255 := by omega
          have HJ := hid hlast
          have hjI : (j : Int) < (f : Int) := by omega
          clear hlast hj
          rw [← hN]
          clear hN
          go_wp2_with (at_builtin; refine wpList_append_lies _ rfl _ _ 30 rfl w.heap.size 3 ii _ 1 8 Tryz.underlying30 hii hi0 hi1 hi2 rfl (by decide) (.slice A N cc) N (zs (List.replicate p 1 ++ List.replicate j 2)) rfl (HO.out.alloc _) ⟨wr.heap.size, 0, none⟩ 1 1 [.int .i64 2] rfl rfl (World.news_of_block (cs := #[.int .i64 2]) (t := 3) (fr := (0, 0)) (heap_alloc_new wr (.cells #[.int .i64 2] 3))) (by simp [Value.oneCell']) (by omega) (by unfold maxLen; omega) (by omega) (by have := HT.out.size; rw [World.size_alloc]; omega) (wr.heap.size + 1) (by simp) ?_; intro g3 c3 w3 hown3 hgrow3 hat3 hlt3; have t3 : Touch (fun k => (Value.slice A N cc).ownBlock = some k) wr w3 := (((Gr.refl _).alloc _).touch _).trans (grown_touch hgrow3 _ (fun k e _ => e)); have HT3 := hid t3; have HO3 := hid hown3; clear hown3 hgrow3 hat3 hlt3 t3)
          go_round
          case rel =>
            refine ⟨j + 1, .slice (some ⟨g3, 0, none⟩) (N + 1) c3, HJ.out, ⟨?_⟩, ⟨HQ.out.touch HT3.out (fun e => own_ne HO.out HQ.out (by decide) e rfl rfl)⟩, ⟨HT.out.trans (HT3.out.mono (fun i _ h => (own_lt HO.out h).1))⟩, rfl, by go_num⟩
            rw [HSU.out, show p + (j + 1) = N + 1 by have := HN.out; omega]
            exact HO3.out
          case measure => have := HJ.out; simp [intOf]; omega
        · obtain rfl : f = j := by omega
          clear hlast hj
          obtain ⟨wb, rfl⟩ : ∃ wb : World, wb = wr := ⟨_, rfl⟩
          go_wp2_with (fail)
          go_loopw [3, 6] (fun s3 s6 wr => ∃ (j : Nat) (vL : Value), j ≤ k ∧ Hid (wr.ownsRow w.heap.size 3 1 vL (p + f + j) (zs ((List.replicate p 1 ++ List.replicate f 2) ++ List.replicate j 3))) ∧ Hid (Rec wr w.heap.size 90 [.int .i64 p, .int .i64 f, .int .i64 k]) ∧ Hid (Touch (fun i => w.heap.size ≤ i) w wr) ∧ s3 = vL ∧ s6 = .int .i64 j) (fun _ s6 _ => k - (intOf s6).toNat)
          case atStart => exact ⟨0, _, Nat.zero_le _, ⟨by rw [Nat.add_zero]; have := HO.out; simpa using this⟩, HQ, HT, rfl, rfl⟩
          case round =>
            clear y0 y1 y2 hc1 hc2 HO HQ HT
            obtain ⟨j, vL, hj, HO, HQ, HT, rfl, rfl⟩ := hrel
            have y0 := HQ.out.cell (j := 0) rfl
            have y1 := HQ.out.cell (j := 1) rfl
            have y2 := HQ.out.cell (j := 2) rfl
            obtain ⟨A, cc, rfl, hc1, hc2⟩ := own_shape HO.out
            unfold maxLen at hc2
            by_cases hlast : j < k
            · have HSU : Hid (zs ((List.replicate p 1 ++ List.replicate f 2) ++ List.replicate (j + 1) 3) = zs ((List.replicate p 1 ++ List.replicate f 2) ++ List.replicate j 3) ++ [.int .i64 3]) := ⟨by rw [List.replicate_succ', ← List.append_assoc]; unfold zs; rw [List.map_append]; rfl⟩
              obtain ⟨N, hN⟩ : ∃ N, N = p + f + j := ⟨_, rfl⟩
              have HN := hid hN
              rw [← hN] at HO hc1
              have hNb : N ≤ 255 := by omega
              have HJ := hid hlast
              have hjI : (j : Int) < (k : Int) := by omega
              clear hlast hj
              rw [← hN]
              clear hN
              go_wp2_with (at_builtin; refine wpList_append_lies _ rfl _ _ 30 rfl w.heap.size 3 ii _ 1 8 Tryz.underlying30 hii hi0 hi1 hi2 rfl (by decide) (.slice A N cc) N (zs ((List.replicate p 1 ++ List.replicate f 2) ++ List.replicate j 3)) rfl (HO.out.alloc _) ⟨wr.heap.size, 0, none⟩ 1 1 [.int .i64 3] rfl rfl (World.news_of_block (cs := #[.int .i64 3]) (t := 3) (fr := (0, 0)) (heap_alloc_new wr (.cells #[.int .i64 3] 3))) (by simp [Value.oneCell']) (by omega) (by unfold maxLen; omega) (by omega) (by have := HT.out.size; rw [World.size_alloc]; omega) (wr.heap.size + 1) (by simp) ?_; intro g3 c3 w3 hown3 hgrow3 hat3 hlt3; have t3 : Touch (fun k => (Value.slice A N cc).ownBlock = some k) wr w3 := (((Gr.refl _).alloc _).touch _).trans (grown_touch hgrow3 _ (fun k e _ => e)); have HT3 := hid t3; have HO3 := hid hown3; clear hown3 hgrow3 hat3 hlt3 t3)
              go_round
              case rel =>
                refine ⟨j + 1, .slice (some ⟨g3, 0, none⟩) (N + 1) c3, HJ.out, ⟨?_⟩, ⟨HQ.out.touch HT3.out (fun e => own_ne HO.out HQ.out (by decide) e rfl rfl)⟩, ⟨HT.out.trans (HT3.out.mono (fun i _ h => (own_lt HO.out h).1))⟩, rfl, by go_num⟩
                rw [HSU.out, show p + f + (j + 1) = N + 1 by have := HN.out; omega]
                exact HO3.out
              case measure => have := HJ.out; simp [intOf]; omega
            · obtain rfl : k = j := by omega
              clear hlast hj
              go_wp2
              go_ret
              exact ⟨A, cc, rfl, (HT.out.mono (T := fun _ => False) (fun i hi h => by omega)).gr, HO.out⟩
end Go.Proofs.YtbmidhlilafgeaaGreatDoor
end

section
namespace Go.Proofs.YtbmidhlilafgeaaGreatDoor
open Go.RowKit Word

set_option maxRecDepth 100000 in
set_option maxHeartbeats 3200000 in
theorem ref14_kind {p f k : Nat} (hs : p + f + k ≤ 255) (i : Int) (w : World) : Calls Tryz.prog 117 #[.agg #[.int .i64 p, .int .i64 f, .int .i64 k], .int .i64 i] w fun e w' => e = .returned (.int .i64 (kindOf ⟨p, f, k⟩ i)) ∧ Gr w w' := by
  have HK := hid (fun W => ref14_kinds hs W)
  have HV : Hid (kindOf ⟨p, f, k⟩ i = if 0 ≤ i ∧ i < (p : Int) + f + k then (if i < p then 1 else if i < (p : Int) + f then 2 else 3) else 0) := ⟨by
    unfold kindOf
    rw [show hdrN ⟨p, f, k⟩ = 1 + (p : Int) + f + k from if_pos (hdrE_of hs)]
    rw [show 1 + (p : Int) + f + k - 1 = (p : Int) + f + k by omega]⟩
  obtain ⟨S, hS⟩ : ∃ S, S = p + f + k := ⟨_, rfl⟩
  have HS := hid hS
  unfold KindsEnd at HK
  rw [← hS] at hs HK
  rcases (by omega : i < 0 ∨ (0 ≤ i ∧ (S : Int) ≤ i) ∨ (0 ≤ i ∧ i < S)) with h | h | h
  · have d0 : decide (i < 0) = true := decide_eq_true h
    have HE : Hid (kindOf ⟨p, f, k⟩ i = 0) := ⟨by rw [HV.out, if_neg (by omega)]⟩
    clear h hS
    go_enter Tryz.func117, Tryz.ntmps117
    go_wp2_with (go_at_call 170; refine (HK.out _).mono ?_; rintro e w1 ⟨A, c, rfl, hg1, ho1⟩; have HG1 := hid (((Gr.refl w).alloc _).trans hg1); clear hg1 ho1)
    go_ret
    exact ⟨ret_int HE.out.symm, HG1.out⟩
  · have d0 : decide (i < 0) = false := decide_eq_false (by omega)
    have d1 : decide ((S : Int) ≤ i) = true := decide_eq_true h.2
    have HE : Hid (kindOf ⟨p, f, k⟩ i = 0) := ⟨by rw [HV.out, if_neg (by omega)]⟩
    clear h hS
    go_enter Tryz.func117, Tryz.ntmps117
    go_wp2_with (go_at_call 170; refine (HK.out _).mono ?_; rintro e w1 ⟨A, c, rfl, hg1, ho1⟩; have HG1 := hid (((Gr.refl w).alloc _).trans hg1); clear hg1 ho1)
    go_ret
    exact ⟨ret_int HE.out.symm, HG1.out⟩
  · obtain ⟨j, rfl⟩ : ∃ j : Nat, i = j := ⟨i.toNat, by omega⟩
    have hjS : j < S := by omega
    have hjI : (j : Int) < (S : Int) := by omega
    have d2 : decide (S ≤ j) = false := decide_eq_false (by omega)
    have d3 : decide ((S : Int) ≤ (j : Int)) = false := decide_eq_false (by omega)
    have hat := kl_at (p := p) (f := f) (k := k) (i := j) (by omega)
    have HZ : Hid ((zs (kl p f k))[j]? = some (.int .i64 (kindOf ⟨p, f, k⟩ j))) := ⟨by
      unfold zs
      rw [List.getElem?_map, List.getElem?_eq_getElem (by rw [kl_len]; omega), Option.map_some, hat, HV.out, if_pos (⟨by omega, by omega⟩ : (0 : Int) ≤ (j : Int) ∧ (j : Int) < (p : Int) + f + k)]
      by_cases h1 : j < p
      · rw [if_pos h1, if_pos (by omega : (j : Int) < (p : Int))]
      · rw [if_neg h1, if_neg (by omega : ¬ (j : Int) < (p : Int))]
        by_cases h2 : j < p + f
        · rw [if_pos h2, if_pos (by omega : (j : Int) < (p : Int) + f)]
        · rw [if_neg h2, if_neg (by omega : ¬ (j : Int) < (p : Int) + f)]⟩
    clear hat HV
    generalize kindOf ⟨p, f, k⟩ (j : Int) = y at *
    have hS0 : S ≠ 0 := by omega
    clear h hS
    go_enter Tryz.func117, Tryz.ntmps117
    go_wp2_with (go_at_call 170; refine (HK.out _).mono ?_; rintro e w1 ⟨A, c, rfl, hg1, ho1⟩; have HG1 := hid (((Gr.refl w).alloc _).trans hg1); obtain ⟨g, c', ea, -, -, -, -⟩ := own_form ho1 hS0; simp only [Value.slice.injEq] at ea; obtain ⟨rfl, -, rfl⟩ := ea; have kc := own_cell ho1 HZ.out; clear hg1 ho1)
    go_ret
    exact ⟨rfl, HG1.out⟩
end Go.Proofs.YtbmidhlilafgeaaGreatDoor
end
end

section
namespace Go.Proofs.YtbmidhlilafgeaaGreatDoor
open Go.RowKit Word

/-- The first k words of a memory. -/
def wrds (v : Vm) (k : Nat) : List Value := (List.range k).map fun a : Nat => .int .u64 (v.ldV a : Nat)
theorem wrds_succ (v : Vm) (k : Nat) : wrds v (k + 1) = wrds v k ++ [.int .u64 (v.ldV k : Nat)] := by unfold wrds; rw [List.range_succ, List.map_append]; rfl
theorem wrds_at (v : Vm) {M j : Nat} (h : j < M) : (wrds v M)[j]? = some (.int .u64 (v.ldV j : Nat)) := by unfold wrds; rw [List.getElem?_map, List.getElem?_range h]; rfl
/-- A memory of M words, all of which can be loaded. -/
structure FullN (M : Nat) (v : Vm) : Prop where
  ok : VmOk v
  n : v.n = M
  al : ∀ a : Nat, a < M → v.ldE a = 0
  m1 : 1 ≤ M
theorem FullN.m2 {M : Nat} {v : Vm} (h : FullN M v) : M ≤ 524288 := by rw [← h.n]; exact h.ok.n2
theorem FullN.ldE {M : Nat} {v : Vm} (h : FullN M v) (a : Int) : v.ldE a = if 0 ≤ a ∧ a < (M : Int) then 0 else 11 := by
  by_cases hr : 0 ≤ a ∧ a < (M : Int)
  · rw [if_pos hr]
    obtain ⟨j, rfl⟩ : ∃ j : Nat, a = j := ⟨a.toNat, by omega⟩
    exact h.al j (by omega)
  · rw [if_neg hr]
    unfold Vm.ldE
    rw [if_neg (by rw [h.n]; exact hr)]
/-- The words of a memory, in a row. -/
def Wrds (w : World) (A : Option Addr) (cp M : Nat) (v : Vm) : Prop := w.ownsRow 0 50 1 (.slice A M cp) M (wrds v M)
theorem Wrds.gr {w : World} {A : Option Addr} {cp M : Nat} {v : Vm} (h : Wrds w A cp M v) {w' : World} (g : Gr w w') : Wrds w' A cp M v := own_gr h g
set_option maxRecDepth 100000 in
set_option maxHeartbeats 3200000 in
theorem ref15n_read {w : World} {A : Option Addr} {cp M : Nat} {v : Vm} (hf : FullN M v) (hW : Wrds w A cp M v) (a : Int) : Calls Tryz.prog 74 #[.slice A M cp, .int .i64 a] w fun e w' => e = .returned (.tuple #[hdrV (v.rdH a), .int .i64 (v.rdE a)]) ∧ Gr w w' := by
  have hld := hf.ldE a
  have hm1 := hf.m1
  have hm2 := hf.m2
  obtain ⟨g, c', ea, -, -, -, hgl⟩ := own_form hW (by omega)
  simp only [Value.slice.injEq] at ea
  obtain ⟨rfl, -, rfl⟩ := ea
  have HW := hid hW
  have KL := hid (fun (W : World) (blk : Nat) (p q r : Value) => load_hdr W blk p q r)
  rcases (by omega : a = 0 ∨ a < 0 ∨ (0 < a ∧ (M : Int) ≤ a) ∨ (0 < a ∧ a < (M : Int))) with h | h | h | h
  · subst h
    have HE : Hid (v.rdE 0 = 18 ∧ v.rdH 0 = ⟨0, 0, 0⟩) := ⟨⟨if_pos rfl, if_neg (fun h => absurd h.1 (by omega))⟩⟩
    rw [HE.out.1, HE.out.2]
    unfold hdrV
    clear hW hld
    go_enter Tryz.func74, Tryz.ntmps74
    go_wp2
    refine bodyPost_ret (v := .tuple #[.agg #[.int .i64 0, .int .i64 0, .int .i64 0], .int .i64 18]) ?_ rfl ⟨rfl, (Gr.refl w).alloc _⟩
    rw [results_cell_tmp rfl]
    simp [asAddr, Result.andThen, go_sem]
  · have HE : Hid (v.rdE a = 5 ∧ v.rdH a = ⟨0, 0, 0⟩) := ⟨⟨by unfold Vm.rdE; rw [if_neg (by omega), if_pos h], if_neg (fun h' => by omega)⟩⟩
    have d0 : (a == 0) = false := by simp; omega
    have d1 : decide (a < 0) = true := decide_eq_true h
    rw [HE.out.1, HE.out.2]
    unfold hdrV
    clear hW hld h
    go_enter Tryz.func74, Tryz.ntmps74
    go_wp2
    refine bodyPost_ret (v := .tuple #[.agg #[.int .i64 0, .int .i64 0, .int .i64 0], .int .i64 5]) ?_ rfl ⟨rfl, (Gr.refl w).alloc _⟩
    rw [results_cell_tmp rfl]
    simp [asAddr, Result.andThen, go_sem]
  · rw [if_neg (by omega)] at hld
    have HE : Hid (v.rdE a = 11 ∧ v.rdH a = ⟨0, 0, 0⟩) := ⟨⟨by unfold Vm.rdE; rw [if_neg (by omega), if_neg (by omega), if_neg (by rw [hld]; decide), hld], if_neg (fun h' => by rw [hld] at h'; exact absurd h'.2 (by decide))⟩⟩
    have d0 : (a == 0) = false := by simp; omega
    have d1 : decide (a < 0) = false := decide_eq_false (by omega)
    have d2 : decide ((M : Int) ≤ a) = true := decide_eq_true h.2
    rw [HE.out.1, HE.out.2]
    unfold hdrV
    clear hW hld h
    go_enter Tryz.func74, Tryz.ntmps74
    go_wp2
    refine bodyPost_ret (v := .tuple #[.agg #[.int .i64 0, .int .i64 0, .int .i64 0], .int .i64 11]) ?_ rfl ⟨rfl, (Gr.refl w).alloc _⟩
    rw [results_cell_tmp rfl]
    simp [asAddr, Result.andThen, go_sem]
  · obtain ⟨j, rfl⟩ : ∃ j : Nat, a = j := ⟨a.toNat, by omega⟩
    rw [if_pos (by omega)] at hld
    have HE : Hid (v.rdE j = tkE (v.ldV j) ∧ v.rdH j = tkH (v.ldV j)) := ⟨⟨by unfold Vm.rdE; rw [if_neg (by omega), if_neg (by omega), if_pos hld], if_pos ⟨h.1, hld⟩⟩⟩
    have d0 : ((j : Int) == 0) = false := by simp; omega
    have d1 : decide ((j : Int) < 0) = false := decide_eq_false (by omega)
    have d2 : decide ((M : Int) ≤ (j : Int)) = false := decide_eq_false (by omega)
    have d3 : decide (M ≤ j) = false := decide_eq_false (by omega)
    have hj4 : j < M := by omega
    have hjI : (j : Int) < (M : Int) := by omega
    have kc := own_cell HW.out (wrds_at v hj4)
    have hx := hf.ok.ldV_lt (j : Int)
    rw [HE.out.1, HE.out.2]
    have HT := hid (fun W => ref14_take hx W)
    unfold hdrV at HT ⊢
    generalize tkH (v.ldV j) = hd at *
    obtain ⟨hp, hq, hr⟩ := hd
    generalize tkE (v.ldV j) = er at *
    generalize v.ldV j = x at *
    clear hW hld h HE hx hf
    go_enter Tryz.func74, Tryz.ntmps74
    go_wp2_with (go_at_call 138; refine (HT.out _).mono ?_; rintro e w2 ⟨rfl, hg2⟩; have r2 := (Rec.new w 90 [.int .i64 0, .int .i64 0, .int .i64 0]).gr hg2; have k0 := r2.cell (j := 0) rfl; have k1 := r2.cell (j := 1) rfl; have k2 := r2.cell (j := 2) rfl; have kf := r2.free; have HR2 := hid r2; have HG2 := hid (((Gr.refl w).alloc _).trans hg2); clear hg2 r2)
    have R3 := Rec.set (Rec.set (Rec.set HR2.out 0 (.int .i64 hp)) 1 (.int .i64 hq)) 2 (.int .i64 hr)
    refine bodyPost_ret (v := .tuple #[.agg #[.int .i64 hp, .int .i64 hq, .int .i64 hr], .int .i64 er]) ?_ rfl ⟨rfl, rd_gr HG2.out⟩
    rw [results_cell_tmp rfl]
    have hl := KL.out _ w.heap.size _ _ _ (R3.cell (j := 0) rfl) (R3.cell (j := 1) rfl) (R3.cell (j := 2) rfl)
    simp [asAddr, Result.andThen, hl]
section
variable {w : World} {A : Option Addr} {cp M : Nat} {v : Vm}
set_option maxRecDepth 100000 in
set_option maxHeartbeats 1600000 in
theorem ref15n_place (hf : FullN M v) (hW : Wrds w A cp M v) (a i kd : Int) (hk : kd ≠ 0) : Calls Tryz.prog 190 #[.slice A M cp, .int .i64 a, .int .i64 i, .int .i64 kd] w fun e w' => e = .returned (.tuple #[.int .i64 (v.plA a i kd), .int .i64 (v.plE a i kd)]) ∧ Gr w w' := by
  have HRD := hid (fun (w' : World) (g : Gr w w') => ref15n_read hf (hW.gr g) a)
  have hn2 := hf.n
  have hm2 := hf.m2
  by_cases hE : v.rdE a = 0
  · obtain ⟨ha, hl, p, f, k, hh, hs⟩ := rdE_zero hE
    have hr := ldE_in hl
    rw [hh] at HRD
    have HP : Hid (v.plE a i kd = if kindOf ⟨p, f, k⟩ i = kd then 0 else if kindOf ⟨p, f, k⟩ i = 0 then 19 else 20) := ⟨by unfold Vm.plE; rw [if_neg (fun h => h hE), hh]⟩
    have HA : Hid (v.plA a i kd = if v.plE a i kd = 0 then a + 1 + i else 0) := ⟨rfl⟩
    have HK := hid (fun W => ref14_kind hs i W)
    have hN : hdrN ⟨p, f, k⟩ = 1 + (p : Int) + f + k := if_pos (hdrE_of hs)
    have hki : kindOf ⟨p, f, k⟩ i ≠ 0 → 0 ≤ i ∧ i < 255 := fun h => by
      unfold kindOf at h
      split at h
      · rename_i h'
        rw [hN] at h'
        omega
      · exact absurd rfl h
    generalize kindOf ⟨(p : Int), (f : Int), (k : Int)⟩ i = kk at HP HK hki
    have HE := hid hE
    have hr2 : a < (M : Int) := by omega
    have HR := hid (fun W => Rec.new W 90 [.int .i64 p, .int .i64 f, .int .i64 k])
    clear hE hl hh hs hN hW hr hn2 hf
    unfold hdrV at HRD
    by_cases h1 : kk = kd
    · have e0 : v.plE a i kd = 0 := by rw [HP.out, if_pos h1]
      have HE0 : Hid (v.plE a i kd = 0 ∧ v.plA a i kd = a + 1 + i) := ⟨⟨e0, by rw [HA.out, if_pos e0]⟩⟩
      have hii := hki (by rw [h1]; exact hk)
      have d0 : (kk == kd) = true := by simpa using h1
      have d9 : (kk == 0) = false := by rw [h1]; simpa using hk
      clear h1 hki HP HA e0
      go_enter Tryz.func190, Tryz.ntmps190
      go_wp2_with (first
        | (go_at_call 74; refine (HRD.out _ (Gr.refl w)).mono ?_; rintro e w1 ⟨rfl, hg1⟩; rw [HE.out]; have HG1 := hid hg1; have y0 := (HR.out w1).cell (j := 0) rfl; have y1 := (HR.out w1).cell (j := 1) rfl; have y2 := (HR.out w1).cell (j := 2) rfl; clear hg1)
        | (go_at_call 117; refine (HK.out _).mono ?_; rintro e w2 ⟨rfl, hg2⟩; have HG2 := hid hg2; clear hg2))
      go_ret2
      exact ⟨ret2 (vint (by rw [HE0.out.2])) (vint (by rw [HE0.out.1])), (HG1.out.alloc _).trans HG2.out⟩
    · have d0 : (kk == kd) = false := by simpa using h1
      by_cases h2 : kk = 0
      · have e0 : v.plE a i kd = 19 := by rw [HP.out, if_neg h1, if_pos h2]
        have HE0 : Hid (v.plE a i kd = 19 ∧ v.plA a i kd = 0) := ⟨⟨e0, by rw [HA.out, if_neg (by rw [e0]; decide)]⟩⟩
        have d1 : (kk == 0) = true := by simpa using h2
        clear h1 h2 hki HP HA e0
        go_enter Tryz.func190, Tryz.ntmps190
        go_wp2_with (first
          | (go_at_call 74; refine (HRD.out _ (Gr.refl w)).mono ?_; rintro e w1 ⟨rfl, hg1⟩; rw [HE.out]; have HG1 := hid hg1; have y0 := (HR.out w1).cell (j := 0) rfl; have y1 := (HR.out w1).cell (j := 1) rfl; have y2 := (HR.out w1).cell (j := 2) rfl; clear hg1)
          | (go_at_call 117; refine (HK.out _).mono ?_; rintro e w2 ⟨rfl, hg2⟩; have HG2 := hid hg2; clear hg2))
        go_ret2
        exact ⟨ret2 (vint (by rw [HE0.out.2])) (vint (by rw [HE0.out.1])), (HG1.out.alloc _).trans HG2.out⟩
      · have e0 : v.plE a i kd = 20 := by rw [HP.out, if_neg h1, if_neg h2]
        have HE0 : Hid (v.plE a i kd = 20 ∧ v.plA a i kd = 0) := ⟨⟨e0, by rw [HA.out, if_neg (by rw [e0]; decide)]⟩⟩
        have d1 : (kk == 0) = false := by simpa using h2
        clear h1 h2 hki HP HA e0
        go_enter Tryz.func190, Tryz.ntmps190
        go_wp2_with (first
          | (go_at_call 74; refine (HRD.out _ (Gr.refl w)).mono ?_; rintro e w1 ⟨rfl, hg1⟩; rw [HE.out]; have HG1 := hid hg1; have y0 := (HR.out w1).cell (j := 0) rfl; have y1 := (HR.out w1).cell (j := 1) rfl; have y2 := (HR.out w1).cell (j := 2) rfl; clear hg1)
          | (go_at_call 117; refine (HK.out _).mono ?_; rintro e w2 ⟨rfl, hg2⟩; have HG2 := hid hg2; clear hg2))
        go_ret2
        exact ⟨ret2 (vint (by rw [HE0.out.2])) (vint (by rw [HE0.out.1])), (HG1.out.alloc _).trans HG2.out⟩
  · have e1 : v.plE a i kd = v.rdE a := by unfold Vm.plE; rw [if_pos hE]
    have HE0 : Hid (v.plE a i kd = v.rdE a ∧ v.plA a i kd = 0) := ⟨⟨e1, by unfold Vm.plA; rw [if_neg (by rw [e1]; exact hE)]⟩⟩
    obtain ⟨y, hy⟩ : ∃ y, y = v.rdE a := ⟨_, rfl⟩
    have d2 : (y == 0) = false := by rw [hy]; simpa using hE
    rw [← hy] at HE0 HRD
    clear hE hy e1 hW hf
    unfold hdrV at HRD
    go_enter Tryz.func190, Tryz.ntmps190
    go_wp2_with (go_at_call 74; refine (HRD.out _ (Gr.refl w)).mono ?_; rintro e w1 ⟨rfl, hg1⟩; have HG1 := hid hg1; clear hg1)
    go_ret2
    exact ⟨ret2 (vint (by rw [HE0.out.2])) (vint (by rw [HE0.out.1])), HG1.out.alloc _⟩
theorem plE_addr_nonneg {a i kd : Int} (hk : kd ≠ 0) (h : v.plE a i kd = 0) : 0 ≤ a + 1 + i := by
  unfold Vm.plE at h
  split at h
  · exact absurd h (by assumption)
  · rename_i hE
    have hE : v.rdE a = 0 := Classical.not_not.1 hE
    obtain ⟨ha, -, -⟩ := rdE_zero hE
    have : 0 ≤ i := by
      rcases Int.lt_or_le i 0 with h2 | h2
      · have e : kindOf (v.rdH a) i = 0 := by unfold kindOf; rw [if_neg (by omega)]
        rw [e, if_neg (fun e => hk e.symm), if_pos rfl] at h
        cases h
      · exact h2
    omega
set_option maxRecDepth 100000 in
set_option maxHeartbeats 1600000 in
theorem ref15n_get (hf : FullN M v) (hW : Wrds w A cp M v) (a i : Int) : Calls Tryz.prog 143 #[.slice A M cp, .int .i64 a, .int .i64 i, .int .i64 1] w fun e w' => e = .returned (.tuple #[.int .u64 (v.ptV a i : Nat), .int .i64 (v.ptE a i)]) ∧ Gr w w' := by
  have HRD := hid (fun (w' : World) (g : Gr w w') => ref15n_place hf (hW.gr g) a i 1 (by decide))
  have HW := hid hW
  have hm1 := hf.m1
  have hm2 := hf.m2
  by_cases hE : v.plE a i 1 = 0
  · have hat := plE_addr_nonneg (by decide : (1 : Int) ≠ 0) hE
    have HE : Hid (v.gtE a i 1 = v.ldE (a + 1 + i) ∧ v.gtV a i 1 = v.ldV (a + 1 + i)) := ⟨⟨if_neg (fun h => h hE), if_neg (fun h => h hE)⟩⟩
    have HA : Hid (v.plA a i 1 = a + 1 + i) := ⟨if_pos hE⟩
    have hld := hf.ldE (a + 1 + i)
    have hx := hf.ok.ldV_lt (a + 1 + i)
    rw [hE, HA.out] at HRD
    generalize a + 1 + i = y at hat HE HRD hld hx
    obtain ⟨j, rfl⟩ : ∃ j : Nat, y = j := ⟨y.toNat, by omega⟩
    by_cases hj : j < M
    · rw [if_pos (by omega)] at hld
      obtain ⟨g, c', ea, -, -, -, hgl⟩ := own_form hW (by omega)
      simp only [Value.slice.injEq] at ea
      obtain ⟨rfl, -, rfl⟩ := ea
      have kc0 := own_cell hW (wrds_at v hj)
      have d2 : decide ((M : Int) ≤ (j : Int)) = false := decide_eq_false (by omega)
      have d3 : decide (M ≤ j) = false := decide_eq_false (by omega)
      have hjI : (j : Int) < (M : Int) := by omega
      by_cases hb : 2147483647 < v.ldV j
      · have e1 : v.ptE a i = 25 := by unfold Vm.ptE; rw [HE.out.1, hld, if_neg (fun h => h rfl), HE.out.2, if_pos hb]
        have HP : Hid (v.ptE a i = 25 ∧ v.ptV a i = 0) := ⟨⟨e1, by unfold Vm.ptV; rw [if_neg (by rw [e1]; decide)]⟩⟩
        obtain ⟨x, HX⟩ : ∃ x, Hid (v.ldV (j : Int) = x) := ⟨_, ⟨rfl⟩⟩
        rw [HX.out] at hb hx kc0
        have d4 : decide (2147483648 ≤ (x : Int)) = true := decide_eq_true (by omega)
        have HJ4 := hid hj
        clear hE e1 hld hb hf hW hx hat hj
        go_enter Tryz.func143, Tryz.ntmps143
        go_wp2_with (go_at_call 190; refine (HRD.out _ (Gr.refl w)).mono ?_; rintro e w1 ⟨rfl, hg1⟩; have HG1 := hid hg1; have kc := (own_cell (HW.out.gr hg1) (wrds_at v HJ4.out)); rw [HX.out] at kc; clear hg1)
        go_ret2
        exact ⟨ret2 (congrArg (fun n : Nat => Value.int .u64 (n : Int)) HP.out.2.symm) (vint HP.out.1.symm), HG1.out⟩
      · have e1 : v.ptE a i = 0 := by unfold Vm.ptE; rw [HE.out.1, hld, if_neg (fun h => h rfl), HE.out.2, if_neg hb]
        have HP : Hid (v.ptE a i = 0 ∧ v.ptV a i = v.ldV j) := ⟨⟨e1, by unfold Vm.ptV; rw [if_pos e1, HE.out.2]⟩⟩
        obtain ⟨x, HX⟩ : ∃ x, Hid (v.ldV (j : Int) = x) := ⟨_, ⟨rfl⟩⟩
        rw [HX.out] at hb hx kc0 HP
        have d4 : decide (2147483648 ≤ (x : Int)) = false := decide_eq_false (by omega)
        have HJ4 := hid hj
        clear hE e1 hld hb hf hW hx hat hj
        go_enter Tryz.func143, Tryz.ntmps143
        go_wp2_with (go_at_call 190; refine (HRD.out _ (Gr.refl w)).mono ?_; rintro e w1 ⟨rfl, hg1⟩; have HG1 := hid hg1; have kc := (own_cell (HW.out.gr hg1) (wrds_at v HJ4.out)); rw [HX.out] at kc; clear hg1)
        go_ret2
        exact ⟨ret2 (congrArg (fun n : Nat => Value.int .u64 (n : Int)) HP.out.2.symm) (vint HP.out.1.symm), HG1.out⟩
    · rw [if_neg (by omega)] at hld
      have e1 : v.ptE a i = 11 := by unfold Vm.ptE; rw [HE.out.1, hld, if_pos (by decide)]
      have HP : Hid (v.ptE a i = 11 ∧ v.ptV a i = 0) := ⟨⟨e1, by unfold Vm.ptV; rw [if_neg (by rw [e1]; decide)]⟩⟩
      have d2 : decide ((M : Int) ≤ (j : Int)) = true := decide_eq_true (by omega)
      have d3 : decide (M ≤ j) = true := decide_eq_true (by omega)
      clear hE e1 hld hf hW hx hat hj
      go_enter Tryz.func143, Tryz.ntmps143
      go_wp2_with (go_at_call 190; refine (HRD.out _ (Gr.refl w)).mono ?_; rintro e w1 ⟨rfl, hg1⟩; have HG1 := hid hg1; clear hg1)
      go_ret2
      exact ⟨ret2 (congrArg (fun n : Nat => Value.int .u64 (n : Int)) HP.out.2.symm) (vint HP.out.1.symm), HG1.out⟩
  · have e1 : v.ptE a i = v.plE a i 1 := by unfold Vm.ptE Vm.gtE; rw [if_pos hE, if_pos hE]
    have HE : Hid (v.ptE a i = v.plE a i 1 ∧ v.ptV a i = 0) := ⟨⟨e1, by unfold Vm.ptV; rw [if_neg (by rw [e1]; exact hE)]⟩⟩
    have HA : Hid (v.plA a i 1 = 0) := ⟨if_neg hE⟩
    rw [HA.out] at HRD
    obtain ⟨y, hy⟩ : ∃ y, y = v.plE a i 1 := ⟨_, rfl⟩
    have d2 : (y == 0) = false := by rw [hy]; simpa using hE
    rw [← hy] at HE HRD
    clear hE hy hW e1 hf
    go_enter Tryz.func143, Tryz.ntmps143
    go_wp2_with (go_at_call 190; refine (HRD.out _ (Gr.refl w)).mono ?_; rintro e w1 ⟨rfl, hg1⟩; have HG1 := hid hg1; clear hg1)
    go_ret2
    exact ⟨ret2 (congrArg (fun n : Nat => Value.int .u64 (n : Int)) HE.out.2.symm) (vint HE.out.1.symm), HG1.out⟩
end
end Go.Proofs.YtbmidhlilafgeaaGreatDoor
end
end
section
namespace Go.Proofs.YtbmidhlilafgeaaGreatDoor
open Go.RowKit Word

def HdsAt (w : World) (A : Option Addr) (l : List Hdr) : Prop := ∀ i (h : i < l.length), ∃ b o, A = some ⟨b, o, none⟩ ∧ b < w.heap.size ∧
  w.cell? ⟨b, o + i * 3, none⟩ = some (.int .i64 l[i].p) ∧ w.cell? ⟨b, o + i * 3 + 1, none⟩ = some (.int .i64 l[i].f) ∧ w.cell? ⟨b, o + i * 3 + 2, none⟩ = some (.int .i64 l[i].k)
def U8sAt (w : World) (A : Option Addr) (l : List Nat) : Prop := ∀ i (h : i < l.length), ∃ b o, A = some ⟨b, o, none⟩ ∧ b < w.heap.size ∧ l[i] < 256 ∧ w.cell? ⟨b, o + i, none⟩ = some (.int .u8 (l[i] : Nat))
theorem HdsAt.gr {w w' : World} {A : Option Addr} {l : List Hdr} (h : HdsAt w A l) (g : Gr w w') : HdsAt w' A l := fun i hi => by
  obtain ⟨b, o, e, hb, k0, k1, k2⟩ := h i hi
  exact ⟨b, o, e, Nat.lt_of_lt_of_le hb g.size, (g.cell hb _).trans k0, (g.cell hb _).trans k1, (g.cell hb _).trans k2⟩
theorem U8sAt.gr {w w' : World} {A : Option Addr} {l : List Nat} (h : U8sAt w A l) (g : Gr w w') : U8sAt w' A l := fun i hi => by
  obtain ⟨b, o, e, hb, k0, k1⟩ := h i hi
  exact ⟨b, o, e, Nat.lt_of_lt_of_le hb g.size, k0, (g.cell hb _).trans k1⟩
/-- The data of a heap that is laid, as they lie in memory. -/
structure LaidCAt (w : World) (A1 A2 A3 : Option Addr) (x : LaidC) : Prop where
  h : HdsAt w A1 x.H
  p : U8sAt w A2 x.P
  r : U8sAt w A3 x.R
  lh : x.H.length ≤ 9223372036854775807
  lp : x.P.length ≤ 4611686018427387904
  lr : x.R.length ≤ 9223372036854775807
  pg : x.pg < 256
  bk : x.bk < 256
  st : x.st < 256
  ah : x.ah < 256
theorem LaidCAt.gr {w w' : World} {A1 A2 A3 : Option Addr} {x : LaidC} (h : LaidCAt w A1 A2 A3 x) (g : Gr w w') : LaidCAt w' A1 A2 A3 x :=
  ⟨h.h.gr g, h.p.gr g, h.r.gr g, h.lh, h.lp, h.lr, h.pg, h.bk, h.st, h.ah⟩
def laidV (x : LaidC) (A1 A2 A3 : Option Addr) (c1 c2 c3 : Nat) : List Value := [.int .u8 x.pg, .slice A1 x.H.length c1, .slice A2 x.P.length c2, .slice A3 x.R.length c3, .int .u8 x.bk, .int .u8 x.st, .int .u8 x.ah]
/-- While the starts are found. -/
structure L24A (w wr : World) (x : LaidC) (xs : List Value) (k : Nat) (vS : Value) : Prop where
  rx : Rec wr w.heap.size 25 xs
  own : wr.ownsRow 0 3 1 vS k (zs (x.starts k))
  ofr : ∀ g, vS.ownBlock = some g → w.heap.size + 1 ≤ g
  t : Touch (fun b => w.heap.size ≤ b) w wr
theorem L24A.gr {w wr w' : World} {x : LaidC} {xs : List Value} {k : Nat} {vS : Value} (h : L24A w wr x xs k vS) (g : Gr wr w') : L24A w w' x xs k vS :=
  ⟨h.rx.gr g, own_gr h.own g, h.ofr, h.t.trans (g.touch _)⟩
theorem L24A.app {w wr w' : World} {x : LaidC} {xs : List Value} {A : Option Addr} {c g2 c2 k : Nat} (h : L24A w wr x xs k (.slice A k c)) (t : Touch (fun b => (Value.slice A k c).ownBlock = some b) wr w')
    (ho : w'.ownsRow 0 3 1 (.slice (some ⟨g2, 0, none⟩) (k + 1) c2) (k + 1) (zs (x.starts k) ++ [.int .i64 ((x.at k : Nat) : Int)])) (hat : (Value.slice A k c).ownBlock = some g2 ∨ wr.heap.size ≤ g2) : L24A w w' x xs (k + 1) (.slice (some ⟨g2, 0, none⟩) (k + 1) c2) := by
  have hl := h.rx.lt
  refine ⟨h.rx.touch t (fun e => own_ne h.own h.rx (by decide) e rfl rfl), by rw [x.starts_succ]; exact ho, fun g hg => ?_, h.t.trans (t.mono (fun i _ e => by have := h.ofr i e; omega))⟩
  cases hg
  rcases hat with h' | h'
  · exact h.ofr _ h'
  · show w.heap.size + 1 ≤ g2
    omega
def cfL (c : Cf) : List Value := [.int .i64 c.fr, .int .i64 c.tp, .int .i64 c.to, .int .i64 c.lm, .int .i64 c.bk, .int .i64 c.st, .int .i64 c.ah]
/-- While a heap is laid. -/
structure L24 (w wr : World) (x : LaidC) (xs : List Value) (q r g b11 : Nat) (v : Vm) (rs : List Int) (vS vF : Value) (F : List Int) : Prop where
  rx : Rec wr w.heap.size 25 xs
  own : wr.ownsRow 0 3 1 vS x.k (zs (x.starts x.k))
  ofr : ∀ g, vS.ownBlock = some g → w.heap.size + 1 ≤ g
  cf : Rec wr b11 34 (cfL x.cf)
  lb : w.heap.size + 1 ≤ b11
  vm : ∃ SV, VmAt wr SV q v ∧ (∀ i, SV i → w.heap.size + 1 ≤ i) ∧ (∀ g, vS.ownBlock = some g → ¬ SV g) ∧ (∀ g, vF.ownBlock = some g → ¬ SV g) ∧ ¬ SV b11 ∧ ¬ SV r ∧ ¬ SV g
  rt : RtAt wr r g rs
  lr : w.heap.size + 1 ≤ r ∧ w.heap.size + 1 ≤ g
  fo : wr.ownsRow 0 3 1 vF F.length (zs F)
  fl : ∀ g, vF.ownBlock = some g → w.heap.size + 1 ≤ g
  gS : ∀ g', vS.ownBlock = some g' → g' ≠ g
  gF : ∀ g', vF.ownBlock = some g' → g' ≠ g
  SF : ∀ g1 g2, vS.ownBlock = some g1 → vF.ownBlock = some g2 → g1 ≠ g2
  t : Touch (fun b => w.heap.size ≤ b) w wr
section
variable {w wr w' : World} {x : LaidC} {xs : List Value} {q r g b11 : Nat} {v v' : Vm} {rs : List Int} {vS vF : Value} {F : List Int}
theorem L24.gr (h : L24 w wr x xs q r g b11 v rs vS vF F) (g' : Gr wr w') : L24 w w' x xs q r g b11 v rs vS vF F := by
  obtain ⟨h1, h2, h3, h4, h5, ⟨SV, h6, h7⟩, h8, h9, h10, h11, h12, h13, h14, h15⟩ := h
  exact ⟨h1.gr g', own_gr h2 g', h3, h4.gr g', h5, ⟨SV, h6.gr g', h7⟩, h8.gr g', h9, own_gr h10 g', h11, h12, h13, h14, h15.trans (g'.touch _)⟩
/-- Behind a call that turned the memory. -/
theorem L24.turn (h : L24 w wr x xs q r g b11 v rs vS vF F) {SV : Nat → Prop} (hs : ∀ i, SV i → w.heap.size + 1 ≤ i) (hS : ∀ g, vS.ownBlock = some g → ¬ SV g) (hF : ∀ g, vF.ownBlock = some g → ¬ SV g) (hb : ¬ SV b11) (hr : ¬ SV r) (hg : ¬ SV g)
    (t : Touch SV wr w') (hv : VmAt w' (plus SV wr) q v') : L24 w w' x xs q r g b11 v' rs vS vF F := by
  have hz := h.t.size
  have hl := h.rx.lt
  have hbl := h.cf.lt
  have hrl := h.rt.lt
  refine ⟨h.rx.touch t (fun h => by have := hs _ h; omega), own_touch h.own t hS, h.ofr, h.cf.touch t hb, h.lb, ⟨plus SV wr, hv, fun i hi => ?_, fun g hg' hi => ?_, fun g hg' hi => ?_, fun hi => ?_, fun hi => ?_, fun hi => ?_⟩, h.rt.touch t hr hg, h.lr, own_touch h.fo t hF, h.fl, h.gS, h.gF, h.SF, h.t.trans (t.mono (fun i _ hi => by have := hs i hi; omega))⟩
  · exact hi.elim (hs i) (fun h => by omega)
  · exact hi.elim (hS g hg') (fun h' => by have := (own_lt h.own hg').2; omega)
  · exact hi.elim (hF g hg') (fun h' => by have := (own_lt h.fo hg').2; omega)
  · exact hi.elim hb (fun h => by omega)
  · exact hi.elim hr (fun h => by omega)
  · exact hi.elim hg (fun h => by omega)
/-- One more field. -/
theorem L24.app {A : Option Addr} {c g2 c2 N : Nat} {a : Int} (h : L24 w wr x xs q r g b11 v rs vS (.slice A N c) F) (hN : N = F.length) (t : Touch (fun k => (Value.slice A N c).ownBlock = some k) wr w')
    (ho : w'.ownsRow 0 3 1 (.slice (some ⟨g2, 0, none⟩) (N + 1) c2) (N + 1) (zs F ++ [.int .i64 a])) (hat : (Value.slice A N c).ownBlock = some g2 ∨ wr.heap.size ≤ g2) : L24 w w' x xs q r g b11 v rs vS (.slice (some ⟨g2, 0, none⟩) (N + 1) c2) (F ++ [a]) := by
  obtain ⟨h1, h2, h3, h4, h5, ⟨SV, h6, h7, h7a, h7b, h7c, h7d, h7e⟩, h8, h9, h10, h11, h12, h13, h14, h15⟩ := h
  have hl := h1.lt
  have hrl := h8.lt
  have hne : ∀ k, (Value.slice A N c).ownBlock = some k → k ≠ b11 := fun k hk => own_ne h10 h4 (by decide) hk rfl
  have hnr : ∀ k, (Value.slice A N c).ownBlock = some k → k ≠ r := fun k hk => own_ne h10 h8.rcd (by decide) hk rfl
  refine ⟨h1.touch t (fun e => own_ne h10 h1 (by decide) e rfl rfl), own_touch h2 t (fun g1 hg1 e => h14 g1 g1 hg1 e rfl), h3, h4.touch t (fun e => hne _ e rfl), h5, ⟨cutS SV wr, h6.cut.touch t (fun i hi _ e => h7b i e hi.1), fun i hi => h7 i hi.1, fun g1 hg1 hi => h7a g1 hg1 hi.1, fun g1 hg1 hi => ?_, fun hi => h7c hi.1, fun hi => h7d hi.1, fun hi => h7e hi.1⟩, h8.touch t (fun e => hnr _ e rfl) (fun e => h13 _ e rfl), h9, ?_, fun g1 hg1 => ?_, h12, fun g1 hg1 => ?_, fun g1 g3 hg1 hg3 => ?_, h15.trans (t.mono (fun i _ e => by have := h11 i e; omega))⟩
  · cases hg1
    rcases hat with h | h
    · exact h7b _ h hi.1
    · have : g2 < wr.heap.size := hi.2
      omega
  · rw [List.length_append, ← hN, show zs (F ++ [a]) = zs F ++ [.int .i64 a] by unfold zs; rw [List.map_append]; rfl]
    exact ho
  · cases hg1
    rcases hat with h | h
    · exact h11 _ h
    · show w.heap.size + 1 ≤ g2
      have := h15.size; omega
  · cases hg1
    rcases hat with h | h
    · exact h13 _ h
    · show g2 ≠ g
      omega
  · cases hg3
    rcases hat with h | h
    · exact h14 _ _ hg1 h
    · have := (own_lt h2 hg1).2
      show g1 ≠ g2
      omega
/-- A root set. -/
theorem L24.set (h : L24 w wr x xs q r g b11 v rs vS vF F) {rs' : List Int} (t : Touch (fun k => k = g) wr w') (hr : RtAt w' r g rs') : L24 w w' x xs q r g b11 v rs' vS vF F := by
  obtain ⟨h1, h2, h3, h4, h5, ⟨SV, h6, h7, h7a, h7b, h7c, h7d, h7e⟩, h8, h9, h10, h11, h12, h13, h14, h15⟩ := h
  have hne : g ≠ b11 := own_ne h8.row h4 (by decide) rfl rfl
  exact ⟨h1.touch t (fun e => by have := h1.lt; omega), own_touch h2 t (fun g1 hg1 e => h12 g1 hg1 e), h3, h4.touch t (fun e => hne e.symm), h5, ⟨SV, h6.touch t (fun i hi _ e => h7e (e ▸ hi)), h7, h7a, h7b, h7c, h7d, h7e⟩, hr, h9, own_touch h10 t (fun g1 hg1 e => h13 g1 hg1 e), h11, h12, h13, h14, h15.trans (t.mono (fun i _ e => by omega))⟩
end
/-- The memory alone, a header's block told apart too. -/
def L24V (w wr : World) (q : Nat) (v : Vm) (vS vF : Value) (b11 r g bh : Nat) : Prop := ∃ SV, VmAt wr SV q v ∧ (∀ i, SV i → w.heap.size + 1 ≤ i) ∧ (∀ g, vS.ownBlock = some g → ¬ SV g) ∧ (∀ g, vF.ownBlock = some g → ¬ SV g) ∧ ¬ SV b11 ∧ ¬ SV r ∧ ¬ SV g ∧ ¬ SV bh
def heapL (x : LaidC) (q r : Nat) (vL : Value) : List Value := [.pointer (some ⟨q, 0, none⟩), .pointer (some ⟨r, 0, none⟩), .int .i64 x.cf.fr, .int .i64 x.cf.tp, .int .i64 x.cf.to, .int .i64 x.cf.lm, .int .i64 x.cf.bk, .int .i64 x.cf.st, .int .i64 x.cf.ah, vL, .int .i64 (x.page : Nat)]
/-- While the words are read. -/
structure L24R (w wr : World) (x : LaidC) (q r g hp : Nat) (v : Vm) (rs : List Int) (k : Nat) (vL : Value) : Prop where
  hr : Rec wr hp 37 (heapL x q r vL)
  own : wr.ownsRow 0 50 1 vL k (wrds v k)
  vm : ∃ SV, VmAt wr SV q v ∧ (∀ i, SV i → w.heap.size + 1 ≤ i) ∧ (∀ g, vL.ownBlock = some g → ¬ SV g) ∧ ¬ SV hp ∧ ¬ SV r ∧ ¬ SV g
  rt : RtAt wr r g rs
  hl : w.heap.size + 1 ≤ hp
  lr : w.heap.size + 1 ≤ r ∧ w.heap.size + 1 ≤ g
  ofr : ∀ g, vL.ownBlock = some g → w.heap.size + 1 ≤ g
  t : Touch (fun b => w.heap.size ≤ b) w wr
theorem L24R.gr {w wr w' : World} {x : LaidC} {q r g hp : Nat} {v : Vm} {rs : List Int} {k : Nat} {vL : Value} (h : L24R w wr x q r g hp v rs k vL) (g' : Gr wr w') : L24R w w' x q r g hp v rs k vL := by
  obtain ⟨h1, h2, ⟨SV, h3, h4⟩, h5, h6, h7, h8, h9⟩ := h
  exact ⟨h1.gr g', own_gr h2 g', ⟨SV, h3.gr g', h4⟩, h5.gr g', h6, h7, h8, h9.trans (g'.touch _)⟩
theorem L24R.app {w wr w1 : World} {x : LaidC} {q r g hp : Nat} {v : Vm} {rs : List Int} {A : Option Addr} {c g2 c2 k : Nat} (h : L24R w wr x q r g hp v rs k (.slice A k c)) (t : Touch (fun b => (Value.slice A k c).ownBlock = some b) wr w1)
    (ho : w1.ownsRow 0 50 1 (.slice (some ⟨g2, 0, none⟩) (k + 1) c2) (k + 1) (wrds v k ++ [.int .u64 (v.ldV k : Nat)])) (hat : (Value.slice A k c).ownBlock = some g2 ∨ wr.heap.size ≤ g2) :
    L24R w (w1.setCell ⟨hp, 9, none⟩ (.slice (some ⟨g2, 0, none⟩) (k + 1) c2)) x q r g hp v rs (k + 1) (.slice (some ⟨g2, 0, none⟩) (k + 1) c2) := by
  obtain ⟨h1, h2, ⟨SV, h3, h4, h5, h6, h7, h7'⟩, h8, h9, h10, h11, h12⟩ := h
  have hne : ∀ b, (Value.slice A k c).ownBlock = some b → b ≠ hp := fun b hb => own_ne h2 h1 (by decide) hb rfl
  have hnr : ∀ b, (Value.slice A k c).ownBlock = some b → b ≠ r := fun b hb => own_ne h2 h8.rcd (by decide) hb rfl
  have hng : ∀ b, (Value.slice A k c).ownBlock = some b → b ≠ g := fun b hb => own_ne h2 h8.row (by decide) hb rfl
  have hr1 := h1.touch t (fun e => hne _ e rfl)
  have hgp : g2 ≠ hp := own_ne ho hr1 (by decide) rfl rfl
  have tH := (Touch.refl (fun b => b = hp) w1).setCell (a := ⟨hp, 9, none⟩) (fun _ => rfl) (.slice (some ⟨g2, 0, none⟩) (k + 1) c2)
  have hrh : r ≠ hp := own_ne h8.rcd h1 (by decide) rfl rfl
  have hgh : g ≠ hp := own_ne h8.row h1 (by decide) rfl rfl
  have hwz := h12.size
  have hh1 := h1.lt
  refine ⟨hr1.set 9 _, ?_, ⟨cutS SV wr, (h3.cut.touch t (fun i hi _ e => h5 i e hi.1)).touch tH (fun i hi _ e => h6 (e ▸ hi.1)), fun i hi => h4 i hi.1, fun b hb hi => ?_, fun h => h6 h.1, fun h => h7 h.1, fun h => h7' h.1⟩, ?_, h9, h10, fun b hb => ?_, (h12.trans (t.mono (fun i _ e => by have := h11 i e; omega))).trans (tH.mono (fun i _ e => by omega))⟩
  · rw [wrds_succ]
    exact own_touch ho tH (fun b hb e => by cases hb; exact hgp e)
  · cases hb
    rcases hat with h | h
    · exact h5 _ h hi.1
    · have : g2 < wr.heap.size := hi.2
      omega
  · exact (h8.touch t (fun e => hnr _ e rfl) (fun e => hng _ e rfl)).touch tH hrh hgh
  · cases hb
    rcases hat with h | h
    · exact h11 _ h
    · show w.heap.size + 1 ≤ g2
      omega
def Lay24End (w : World) (x : LaidC) (more : Nat) (e : Ending) (w' : World) : Prop :=
  ∃ hp q r g A c v0 SV, e = .returned (.pointer (some ⟨hp, 0, none⟩)) ∧ Gr w w' ∧ Run24 x (x.room + more) v0 ∧ (∀ a : Nat, a < x.n → v0.ldV a = 0) ∧ VmAt w' SV q (layC x v0) ∧ RtAt w' r g x.rs ∧
    Rec w' hp 37 (heapL x q r (.slice A x.n c)) ∧ Wrds w' A c x.n (layC x v0) ∧ (∀ i, SV i → w.heap.size ≤ i ∧ i < w'.heap.size) ∧ ¬ SV hp ∧ ¬ SV r ∧ ¬ SV g ∧ (w.heap.size ≤ hp ∧ w.heap.size ≤ r ∧ w.heap.size ≤ g) ∧ (∀ b, (Value.slice A x.n c).ownBlock = some b → w.heap.size ≤ b ∧ ¬ SV b)
theorem fit_at {x : LaidC} {k : Nat} (hf : ∀ j, j < k → fitC x.H j = true) (hk : k ≤ x.H.length) : k ≤ x.k ∧ k ≤ szC x.H k ∧ szC x.H k ≤ 512 := by
  have h1 : k ≤ x.k := by
    rcases Nat.lt_or_ge x.k k with h | h
    · have := hf _ h
      have h2 := first_at (fun k => !fitC x.H k) x.H.length (show x.k < x.H.length by omega)
      have h2 : (!fitC x.H x.k) = true := h2
      rw [this] at h2
      cases h2
    · exact h
  have h3 := szC_le x.H
  have h4 := szC_mono x.H (i := k) (j := kC x.H) h1
  have h5 : ∀ j, j ≤ k → j ≤ szC x.H j := fun j => by
    induction j with
    | zero => intro _; exact Nat.zero_le _
    | succ j ih =>
      intro h
      obtain ⟨p, f, c, -, -, -, h1', -⟩ := kC_hd (H := x.H) (j := j) (by have : x.k = kC x.H := rfl; omega)
      have := ih (by omega)
      omega
  exact ⟨h1, h5 k (Nat.le_refl _), by omega⟩
theorem wrd_wrap (y : Nat) : IntKind.u64.wrap ((y : Int) * 11400714819323198485) = (wrdC y : Int) := by rw [IntKind.wrap_u64]; unfold wrdC; omega
set_option maxRecDepth 100000 in
set_option maxHeartbeats 6400000 in
theorem lay24_walk {w : World} {A1 A2 A3 : Option Addr} {c1 c2 c3 : Nat} {x : LaidC} (hL : LaidCAt w A1 A2 A3 x) {more : Nat} (hm : more ≤ 2000) :
    Calls Tryz.prog 13 #[.agg (laidV x A1 A2 A3 c1 c2 c3).toArray, .int .i64 more] w (Lay24End w x more) := by
  have HIN := hid hL
  obtain ⟨N1, hN1⟩ : ∃ N, N = x.H.length := ⟨_, rfl⟩
  obtain ⟨N2, hN2⟩ : ∃ N, N = x.P.length := ⟨_, rfl⟩
  obtain ⟨N3, hN3⟩ : ∃ N, N = x.R.length := ⟨_, rfl⟩
  have hf1 := hL.lh
  have hf2 := hL.lp
  have hf3 := hL.lr
  have hu1 := hL.pg
  have hu2 := hL.bk
  have hu3 := hL.st
  have hu4 := hL.ah
  have hpgb := x.page_pos
  have HPG : Hid (wrap64 (2 ^ (x.pg % 6)) = (x.page : Int)) := ⟨by
    have h6 : x.pg % 6 < 6 := Nat.mod_lt _ (by decide)
    have e : x.page = 2 ^ (x.pg % 6) := rfl
    rw [e]
    rcases (by omega : x.pg % 6 = 0 ∨ x.pg % 6 = 1 ∨ x.pg % 6 = 2 ∨ x.pg % 6 = 3 ∨ x.pg % 6 = 4 ∨ x.pg % 6 = 5) with h | h | h | h | h | h <;> rw [h] <;> decide +kernel⟩
  obtain ⟨xs, hxs⟩ : ∃ xs, xs = laidV x A1 A2 A3 c1 c2 c3 := ⟨_, rfl⟩
  have hxs' := hxs
  unfold laidV at hxs'
  rw [← hN1, ← hN2, ← hN3] at hxs'
  rw [← hxs]
  have HN := hid (And.intro hN1 (And.intro hN2 hN3))
  have HXS := hid hxs'
  rw [← hN1] at hf1
  rw [← hN2] at hf2
  rw [← hN3] at hf3
  have rx := Rec.new w 25 xs
  have hga := (Gr.refl w).alloc (.cells xs.toArray 25)
  have HL0 : Hid (L24A w (w.alloc (.cells xs.toArray 25)) x xs 0 (.slice none 0 0)) := ⟨rx, own_nil _ _ _ _, (fun g hg => by cases hg), hga.touch _⟩
  obtain ⟨W0, hW0⟩ : ∃ W0, W0 = w.alloc (.cells xs.toArray 25) := ⟨_, rfl⟩
  have hg0 : Gr w W0 := by rw [hW0]; exact hga
  have hs0 : W0.heap.size = w.heap.size + 1 := by rw [hW0, World.size_alloc]
  rw [← hW0] at HL0
  rw [hxs'] at HL0 hW0 ⊢
  have HG0 := hid hg0
  have y0 := HL0.out.rx.cell (j := 0) rfl
  have y1 := HL0.out.rx.cell (j := 1) rfl
  have yl := HL0.out.rx.lt
  clear hL hN1 hN2 hN3 hxs hxs' rx hga hg0
  go_enter Tryz.func13, Tryz.ntmps13
  go_upto_region 1 with (fail)
  rw [show w.alloc (.cells #[.int .u8 x.pg, .slice A1 N1 c1, .slice A2 N2 c2, .slice A3 N3 c3, .int .u8 x.bk, .int .u8 x.st, .int .u8 x.ah] 25) = W0 from hW0.symm]
  clear hW0
  go_upto_region 3 with (fail)
  rw [HPG.out]
  obtain ⟨pg, hpge⟩ : ∃ pg, pg = x.page := ⟨_, rfl⟩
  have HPGE := hid hpge
  rw [← hpge] at hpgb ⊢
  clear hpge
  go_upto_block 0 with (fail)
  go_cut [6, 7] (fun s6 s7 wx => ∃ vS, s6 = .int .i64 ((x.top : Nat) : Int) ∧ s7 = vS ∧ Hid (L24A w wx x [.int .u8 x.pg, .slice A1 N1 c1, .slice A2 N2 c2, .slice A3 N3 c3, .int .u8 x.bk, .int .u8 x.st, .int .u8 x.ah] x.k vS))
  case first =>
    go_wp2_with (fail)
    go_loopw [6, 7, 36] (fun s6 s7 s36 wr => ∃ (k : Nat) (vS : Value), k ≤ N1 ∧ Hid (L24A w wr x [.int .u8 x.pg, .slice A1 N1 c1, .slice A2 N2 c2, .slice A3 N3 c3, .int .u8 x.bk, .int .u8 x.st, .int .u8 x.ah] k vS) ∧ Hid (∀ j, j < k → fitC x.H j = true) ∧ s6 = .int .i64 ((x.at k : Nat) : Int) ∧ s7 = vS ∧ s36 = .int .i64 k) (fun _ _ s36 _ => N1 - (intOf s36).toNat)
    case atStart => exact ⟨0, _, by omega, HL0, ⟨fun j hj => absurd hj (Nat.not_lt_zero _)⟩, by rw [HPGE.out]; rfl, rfl, rfl⟩
    case round =>
      obtain ⟨k, vS, hk, HLk, HF, rfl, rfl, rfl⟩ := hrel
      clear y0 y1 yl HL0
      by_cases hlast : k = N1
      · have hkk : x.k = k := kC_end (by rw [← HN.out.1]; exact hk) HF.out (fun h => by have := HN.out.1; omega)
        have HKK := hid hkk
        subst hlast
        clear hkk
        go_wp2
        go_meet
        exact ⟨_, by rw [← HKK.out]; rfl, rfl, by rw [HKK.out]; exact HLk⟩
      · have hkl : k < x.H.length := by have := HN.out.1; omega
        obtain ⟨b, o, rfl, hb, e0, e1, e2⟩ := HIN.out.h k hkl
        obtain ⟨fa1, fa2, fa3⟩ := fit_at HF.out (Nat.le_of_lt hkl)
        have hhd : hdC x.H k = x.H[k] := by unfold hdC; rw [List.getD_eq_getElem?_getD, List.getElem?_eq_getElem hkl]; rfl
        obtain ⟨⟨p, f, c⟩, hh⟩ : ∃ h, h = x.H[k] := ⟨_, rfl⟩
        rw [← hh] at e0 e1 e2 hhd
        have HTT := hid HLk.out.t
        have i0 := (HTT.out.cell hb (by omega) (o + k * 3)).trans e0
        have i1 := (HTT.out.cell hb (by omega) (o + k * 3 + 1)).trans e1
        have i2 := (HTT.out.cell hb (by omega) (o + k * 3 + 2)).trans e2
        have y1 := HLk.out.rx.cell (j := 1) rfl
        have HKN := hid (And.intro hk hlast)
        have hkN : (k : Int) < (N1 : Int) := by omega
        have HSZ := hid (fun W => hdr_size ⟨p, f, c⟩ W)
        unfold hdrV at HSZ
        obtain ⟨tk, htk⟩ : ∃ tk, tk = x.at k := ⟨_, rfl⟩
        have htke : tk = pg + szC x.H k := by rw [htk, HPGE.out]; rfl
        have HTK := hid htk
        rw [← htk]
        clear hb e0 e1 e2 hh hlast htk
        by_cases hfit : fitC x.H k = true
        · obtain ⟨hE, hS⟩ := fitC_iff.1 hfit
          rw [hhd] at hE
          obtain ⟨p, f, c, hh, hs⟩ := hdrE_zero hE
          simp only [Hdr.mk.injEq] at hh
          obtain ⟨rfl, rfl, rfl⟩ := hh
          have hN : hdrN ⟨(p : Int), f, c⟩ = ((1 + p + f + c : Nat) : Int) := by rw [show hdrN ⟨p, f, c⟩ = 1 + (p : Int) + f + c from if_pos (hdrE_of hs)]; push_cast; rfl
          have hsz : szC x.H (k + 1) = szC x.H k + (1 + p + f + c) := by
            show szC x.H k + (hdrN (hdC x.H k)).toNat = _
            rw [hhd, hN]; omega
          rw [hN] at HSZ
          obtain ⟨z, hz⟩ : ∃ z, z = 1 + p + f + c := ⟨_, rfl⟩
          rw [← hz] at hsz HSZ
          have hnx : x.at (k + 1) = tk + z := by rw [htke, HPGE.out]; unfold LaidC.at; rw [hsz]; omega
          have HNX := hid hnx
          have d0 : ((z : Int) == 0) = false := by simp; omega
          have e0 : decide (512 + (pg : Int) - (tk : Int) < (z : Int)) = false := decide_eq_false (by omega)
          have hz256 : z ≤ 256 := by omega
          have HFIT := hid hfit
          have htkb : tk ≤ 600 := by omega
          have hkb : k ≤ 512 := by omega
          have hown := HLk.out.own
          obtain ⟨A, cc, rfl, hc1, hc2⟩ := own_shape hown
          unfold maxLen at hc2
          have HO := hid hown
          obtain ⟨ii, hii, hi0, hi1, hi2⟩ := info_parts infoIntV
          have HRH := hid (Rec.new wr 90 [.int .i64 p, .int .i64 f, .int .i64 c])
          clear hfit hE hS hN hsz hnx hz hhd htke hown fa1 fa2 fa3 hkl
          go_wp2_with (first
            | (go_at_call 55; refine (HSZ.out _).mono ?_; rintro e w3 ⟨rfl, hg3⟩; have HG3 := hid (((Gr.refl wr).alloc _).trans hg3); clear hg3)
            | (at_builtin; refine wpList_append_lies _ rfl _ _ 30 rfl 0 3 ii _ 1 8 Tryz.underlying30 hii hi0 hi1 hi2 rfl (by decide) (.slice A k cc) k (zs (x.starts k)) rfl ((own_gr HO.out HG3.out).alloc _) ⟨w3.heap.size, 0, none⟩ 1 1 [.int .i64 (tk : Int)] rfl rfl (World.news_of_block (cs := #[.int .i64 (tk : Int)]) (t := 3) (fr := (0, 0)) (heap_alloc_new w3 (.cells #[.int .i64 (tk : Int)] 3))) (by simp [Value.oneCell']) (by omega) (by unfold maxLen; omega) (by omega) (Nat.zero_le _) (w3.heap.size + 1) (by simp) ?_; intro g4 c4 w4 hown4 hgrow4 hat4 hlt4; have t4 : Touch (fun b => (Value.slice A k cc).ownBlock = some b) w3 w4 := (((Gr.refl _).alloc _).touch _).trans (grown_touch hgrow4 _ (fun b e _ => e)); have HT4 := hid t4; have HO4 := hid hown4; have HA4 := hid hat4; clear hown4 hgrow4 hat4 hlt4 t4))
          go_round
          case rel =>
            refine ⟨k + 1, .slice (some ⟨g4, 0, none⟩) (k + 1) c4, by have := HKN.out; omega, ⟨?_⟩, ⟨fun j hj => ?_⟩, by rw [HNX.out]; go_num, rfl, by go_num⟩
            · refine (HLk.out.gr HG3.out).app HT4.out (by rw [← HTK.out]; exact HO4.out) (HA4.out.imp id (fun h => by omega))
            · rcases Nat.lt_or_ge j k with h | h
              · exact HF.out j h
              · rw [show j = k by omega]; exact HFIT.out
          case measure => have := HKN.out; simp [intOf]; omega
        · have hkk : x.k = k := kC_end (Nat.le_of_lt hkl) HF.out (fun _ => by simpa using hfit)
          have HKK := hid hkk
          by_cases hE : hdrE ⟨p, f, c⟩ = 0
          · obtain ⟨p, f, c, hh, hs⟩ := hdrE_zero hE
            simp only [Hdr.mk.injEq] at hh
            obtain ⟨rfl, rfl, rfl⟩ := hh
            have hN : hdrN ⟨(p : Int), f, c⟩ = ((1 + p + f + c : Nat) : Int) := by rw [show hdrN ⟨p, f, c⟩ = 1 + (p : Int) + f + c from if_pos (hdrE_of hs)]; push_cast; rfl
            have hsz : szC x.H (k + 1) = szC x.H k + (1 + p + f + c) := by
              show szC x.H k + (hdrN (hdC x.H k)).toNat = _
              rw [hhd, hN]; omega
            have hbig : ¬ szC x.H (k + 1) ≤ 512 := fun h => hfit (fitC_iff.2 ⟨by rw [hhd]; exact hE, h⟩)
            rw [hN] at HSZ
            obtain ⟨z, hz⟩ : ∃ z, z = 1 + p + f + c := ⟨_, rfl⟩
            rw [← hz] at hsz HSZ
            have d0 : ((z : Int) == 0) = false := by simp; omega
            have e0 : decide (512 + (pg : Int) - (tk : Int) < (z : Int)) = true := decide_eq_true (by omega)
            have hz256 : z ≤ 256 := by omega
            have htkb : tk ≤ 600 := by omega
            clear hfit hE hN hsz hz hhd htke fa1 fa2 fa3 hkl hbig hkk
            go_wp2_with (go_at_call 55; refine (HSZ.out _).mono ?_; rintro e w3 ⟨rfl, hg3⟩; have HG3 := hid (((Gr.refl wr).alloc _).trans hg3); clear hg3)
            go_meet
            exact ⟨_, by rw [HTK.out, ← HKK.out]; rfl, rfl, by rw [HKK.out]; exact ⟨HLk.out.gr HG3.out⟩⟩
          · have hN : hdrN ⟨p, f, c⟩ = 0 := if_neg hE
            rw [hN] at HSZ
            clear hfit hE hN hhd htke fa1 fa2 fa3 hkl hkk
            go_wp2_with (go_at_call 55; refine (HSZ.out _).mono ?_; rintro e w3 ⟨rfl, hg3⟩; have HG3 := hid (((Gr.refl wr).alloc _).trans hg3); clear hg3)
            go_meet
            exact ⟨_, by rw [HTK.out, ← HKK.out]; rfl, rfl, by rw [HKK.out]; exact ⟨HLk.out.gr HG3.out⟩⟩
  case rest =>
    obtain ⟨vS, rfl, rfl, HLA⟩ := hcut
    clear y0 y1 yl HL0
    obtain ⟨A, cc, rfl, hc1, hc2⟩ := own_shape HLA.out.own
    unfold maxLen at hc2
    have y3 := HLA.out.rx.cell (j := 3) rfl
    have y4 := HLA.out.rx.cell (j := 4) rfl
    have y5 := HLA.out.rx.cell (j := 5) rfl
    have y6 := HLA.out.rx.cell (j := 6) rfl
    have yl := HLA.out.rx.lt
    have htop := x.top_le
    rw [← HPGE.out] at htop
    obtain ⟨tp, htpe⟩ : ∃ tp, tp = x.top := ⟨_, rfl⟩
    have HTP := hid htpe
    rw [← htpe] at htop ⊢
    clear htpe
    have HBK : Hid (wrap64 (2 ^ (x.bk % 8)) = ((2 ^ (x.bk % 8) : Nat) : Int)) := ⟨by
      have h6 : x.bk % 8 < 8 := Nat.mod_lt _ (by decide)
      rcases (by omega : x.bk % 8 = 0 ∨ x.bk % 8 = 1 ∨ x.bk % 8 = 2 ∨ x.bk % 8 = 3 ∨ x.bk % 8 = 4 ∨ x.bk % 8 = 5 ∨ x.bk % 8 = 6 ∨ x.bk % 8 = 7) with h | h | h | h | h | h | h | h <;> rw [h] <;> decide +kernel⟩
    go_upto_region 13 with (fail)
    have hcfl : ([.int .i64 (pg : Int), .int .i64 (tp : Int), .int .i64 ((pg : Int) + 512), .int .i64 ((pg : Int) + 1024), .int .i64 (wrap64 (2 ^ (x.bk % 8))), .int .i64 ((x.st : Int) % 20 + 1), .int .i64 ((x.ah : Int) % 5)] : List Value) = cfL x.cf := by
      rw [HBK.out, HPGE.out, HTP.out]; rfl
    obtain ⟨W1, hW1⟩ : ∃ W1, W1 = wc.alloc (.cells #[.int .i64 (pg : Int), .int .i64 (tp : Int), .int .i64 ((pg : Int) + 512), .int .i64 ((pg : Int) + 1024), .int .i64 (wrap64 (2 ^ (x.bk % 8))), .int .i64 ((x.st : Int) % 20 + 1), .int .i64 ((x.ah : Int) % 5)] 34) := ⟨_, rfl⟩
    have hg1 : Gr wc W1 := by rw [hW1]; exact (Gr.refl wc).alloc _
    have hs1 : W1.heap.size = wc.heap.size + 1 := by rw [hW1, World.size_alloc]
    have rc := Rec.new wc 34 [.int .i64 (pg : Int), .int .i64 (tp : Int), .int .i64 ((pg : Int) + 512), .int .i64 ((pg : Int) + 1024), .int .i64 (wrap64 (2 ^ (x.bk % 8))), .int .i64 ((x.st : Int) % 20 + 1), .int .i64 ((x.ah : Int) % 5)]
    rw [show wc.alloc (.cells ([.int .i64 (pg : Int), .int .i64 (tp : Int), .int .i64 ((pg : Int) + 512), .int .i64 ((pg : Int) + 1024), .int .i64 (wrap64 (2 ^ (x.bk % 8))), .int .i64 ((x.st : Int) % 20 + 1), .int .i64 ((x.ah : Int) % 5)] : List Value).toArray 34) = W1 from hW1.symm, hcfl] at rc
    rw [← hW1]
    have HRC := hid rc
    have HLB := hid (HLA.out.gr hg1)
    have z0 := rc.cell (j := 0) rfl
    have z1 := rc.cell (j := 1) rfl
    have z2 := rc.cell (j := 2) rfl
    have z3 := rc.cell (j := 3) rfl
    have z4 := rc.cell (j := 4) rfl
    have z5 := rc.cell (j := 5) rfl
    have z6 := rc.cell (j := 6) rfl
    have zl := rc.lt
    have u3 := HLB.out.rx.cell (j := 3) rfl
    have ul := HLB.out.rx.lt
    have hwc := HLA.out.t.size
    have HW1 := hid (And.intro hs1 hwc)
    obtain ⟨b11, hb11⟩ : ∃ b, b = wc.heap.size := ⟨_, rfl⟩
    have HB11 : Hid (w.heap.size + 1 ≤ b11) := ⟨by have := HLA.out.rx.lt; omega⟩
    rw [← hb11] at z0 z1 z2 z3 z4 z5 z6 zl HRC ⊢
    have HRM := hid (fun W => lay_room x W)
    rw [← HPGE.out] at HRM
    unfold cfV at HRM
    have hrm := x.room_le
    obtain ⟨-, -, hq3, hq4, hq5⟩ := new24_ok (x := x) (rm := x.room + more) (by omega) (by omega)
    have HNV := hid (fun W => vm_new (n := x.n) (pg := x.page) (rm := x.room + more) (new24_ok (x := x) (rm := x.room + more) (by omega) (by omega)).1 (new24_ok (x := x) (rm := x.room + more) (by omega) (by omega)).2.1 (by unfold LaidC.n; omega) hq4 hq3 x.page_pos.1 (by have := x.page_pos; omega) W)
    rw [show ((x.n : Nat) : Int) = (pg : Int) + 1024 by rw [HPGE.out]; rfl, show ((x.page : Nat) : Int) = (pg : Int) by rw [HPGE.out], show ((x.room + more : Nat) : Int) = (x.room : Int) + (more : Int) by push_cast; rfl] at HNV
    have hmin := run_minB2 Tryz.prog
    have hmax := run_maxB2 Tryz.prog
    have HNR := hid (fun W => rt_new (n := x.nr) x.nr_le.1 x.nr_le.2 W)
    rw [show ((x.nr : Nat) : Int) = max 1 (min (N3 : Int) 64) by unfold LaidC.nr; rw [← HN.out.2.2]; omega] at HNR
    clear hcfl hW1 rc hg1 hs1 hb11 y3 y4 y5 y6 yl hq3 hq4 hq5 hwc
    obtain ⟨rmN, hrmN⟩ : ∃ rmN, rmN = x.room := ⟨_, rfl⟩
    have HRN := hid hrmN
    rw [← hrmN] at HRM HNV hrm
    clear hrmN
    go_upto_region 15 with (first
      | (go_at_call 57; refine (HRM.out _).mono ?_; rintro e w2 ⟨rfl, hg2⟩; have HG2 := hid hg2; clear hg2)
      | (go_at_call 56; refine (HNV.out _).mono ?_; rintro e w3 ⟨q, rfl, hg3, hv3⟩; have HG3 := hid (HG2.out.trans hg3); have HV3 := hid (And.intro hv3 HG2.out.size); have u3' := (HG3.out.cell ul 3).trans u3; have ul' := Nat.lt_of_lt_of_le ul HG3.out.size; clear hg3 hv3)
      | (go_at_call 58; refine (HNR.out _).mono ?_; rintro e w4 ⟨r, g, rfl, hg4, hr4, hlr, hlg⟩; have HG4 := hid (HG3.out.trans hg4); have HG34 := hid hg4; have HR4 := hid hr4; have HRL := hid (And.intro hlr hlg); clear hg4 hr4 hlr hlg))
    have hrm2 : x.room + more ≤ 4096 := by rw [← HRN.out]; omega
    have hrm1 : 1 ≤ x.room + more := by have := x.room_le; omega
    have HND : Hid (Calls Tryz.prog 59 #[.pointer (some ⟨q, 0, none⟩), .int .i64 (pg : Int), .int .i64 (tp : Int)] w4 fun e w' => e = .returned (.int .i64 0) ∧ ∃ v0, Run24 x (x.room + more) v0 ∧ (∀ a : Nat, a < x.n → v0.ldV a = 0) ∧ Touch (cutS (fun k => w2.heap.size ≤ k) w3) w4 w' ∧ VmAt w' (plus (cutS (fun k => w2.heap.size ≤ k) w3) w4) q v0) := ⟨by
      have hv4 := HV3.out.1.cut.gr HG34.out
      rw [HRN.out] at hv4
      rw [HPGE.out, HTP.out]
      by_cases hlt : x.page < x.top
      · have hnd := vm_need hv4 x.page x.top (by show x.top ≤ x.n; unfold LaidC.n; have := x.top_le; omega) hlt
        rw [(need24 (x := x) (rm := x.room + more) (by omega) hlt).1] at hnd
        refine hnd.mono ?_
        rintro e w' ⟨rfl, ht, v', hg, hv⟩
        obtain ⟨h1, h2⟩ := run24_grown hrm1 hrm2 (by omega) hlt hg
        exact ⟨rfl, v', h1, h2, ht, hv⟩
      · refine (vm_need_none hv4 x.page x.top (by show x.top ≤ x.n; unfold LaidC.n; have := x.top_le; omega) (by omega)).mono ?_
        rintro e w' ⟨rfl, hg⟩
        obtain ⟨h1, h2⟩ := run24_none (x := x) hrm1 hrm2 hlt
        exact ⟨rfl, _, h1, h2, hg.touch _, (hv4.gr hg).mono (fun b hb => .inl hb)⟩⟩
    clear z0 z1 z2 z3 z4 z5 z6 zl u3 ul u3' ul' hmin hmax
    go_upto_block 2 with (go_at_call 59; refine HND.out.mono ?_; rintro e w5 ⟨rfl, v0, hr5, hz5, ht5, hv5⟩; have HR5 := hid hr5; have HZ5 := hid hz5; have HT5 := hid ht5; have HV5 := hid hv5; clear hr5 hz5 ht5 hv5)
    have hz0 := HG3.out.size
    have hz2 := HV3.out.2
    have hz3 := HG34.out.size
    have hz5 := HT5.out.size
    obtain ⟨hw1, hw2⟩ := HW1.out
    obtain ⟨hlr, hlg⟩ := HRL.out
    have hSV : ∀ i, plus (cutS (fun k => w2.heap.size ≤ k) w3) w4 i → w2.heap.size ≤ i := fun i hi => hi.elim (fun h => h.1) (fun h => by have : w3.heap.size ≤ w4.heap.size := hz3; have : w2.heap.size ≤ w3.heap.size := (HV3.out.1.row.elim fun _ h => by obtain ⟨_, _, _, hr, -⟩ := h; have := hr.lt; have h2 := HV3.out.1.sq; omega); omega)
    have hz1 : W1.heap.size ≤ w2.heap.size := HV3.out.2
    have hrl := HR4.out.lt
    have hcl := HRC.out.lt
    have hxl := HLB.out.rx.lt
    have hnoT : ∀ i, i < W1.heap.size → ¬ cutS (fun k => w2.heap.size ≤ k) w3 i := fun i hi h => by have := h.1; omega
    have hnoV : ∀ i, i < W1.heap.size → ¬ plus (cutS (fun k => w2.heap.size ≤ k) w3) w4 i := fun i hi h => by have := hSV i h; omega
    have HL24 : Hid (L24 w w5 x [.int .u8 x.pg, .slice A1 N1 c1, .slice A2 N2 c2, .slice A3 N3 c3, .int .u8 x.bk, .int .u8 x.st, .int .u8 x.ah] q r g b11 v0 (List.replicate x.nr 0) (.slice A x.k cc) (.slice none 0 0) []) := ⟨by
      refine ⟨(HLB.out.rx.gr HG4.out).touch HT5.out (hnoT _ hxl), own_touch (own_gr HLB.out.own HG4.out) HT5.out (fun g1 hg1 => hnoT _ (own_lt HLB.out.own hg1).2), HLB.out.ofr, (HRC.out.gr HG4.out).touch HT5.out (hnoT _ hcl), HB11.out, ⟨_, HV5.out, fun i hi => by have := hSV i hi; omega, fun g1 hg1 => hnoV _ (own_lt HLB.out.own hg1).2, (fun g1 hg1 => by cases hg1), hnoV _ hcl, fun h => ?_, fun h => ?_⟩, HR4.out.touch HT5.out (fun h => by have := h.2; omega) (fun h => by have := h.2; omega), ⟨by omega, by omega⟩, own_nil _ _ _ _, (fun g1 hg1 => by cases hg1), fun g1 hg1 e => ?_, (fun g1 hg1 => by cases hg1), (fun g1 g2 _ hg2 => by cases hg2), ?_⟩
      · exact h.elim (fun h => by have := h.2; omega) (fun h => by omega)
      · exact h.elim (fun h => by have := h.2; omega) (fun h => by omega)
      · have := (own_lt HLB.out.own hg1).2; omega
      · exact (HLB.out.t.trans (HG4.out.touch _)).trans (HT5.out.mono (fun i _ h => by have := h.1; omega))⟩
    have hkb : x.k ≤ 512 := by have := szC_len (H := x.H); have := szC_le x.H; have : x.k = kC x.H := rfl; omega
    obtain ⟨K, hKe⟩ : ∃ K, K = x.k := ⟨_, rfl⟩
    have HK := hid hKe
    have hmp : ∀ a : Nat, x.page ≤ a → a < x.top → v0.ldE a = 0 := fun a h1 h2 => by
      have ht := x.top_le
      rw [HR5.out.le a (by unfold LaidC.n; omega), if_pos]
      refine ⟨h1, ?_⟩
      unfold upN
      have h3 := Nat.div_add_mod (x.top + x.page - 1) x.page
      have h4 := Nat.mod_lt (x.top + x.page - 1) (show 0 < x.page by have := x.page_pos; omega)
      rw [Nat.mul_comm] at h3
      omega
    have HMP := hid hmp
    clear hz0 hz2 hz3 hz5 hw1 hw2 hlr hlg hSV hz1 hrl hcl hxl hnoT hnoV hmp
    rw [← hKe] at hc1 hkb ⊢
    clear hKe
    go_cut [16, 17] (fun s16 s17 wx => ∃ (n : Nat) (vF : Value) (v : Vm) (F : List Int), s16 = .int .i64 n ∧ s17 = vF ∧ Hid (L24 w wx x [.int .u8 x.pg, .slice A1 N1 c1, .slice A2 N2 c2, .slice A3 N3 c3, .int .u8 x.bk, .int .u8 x.st, .int .u8 x.ah] q r g b11 v (List.replicate x.nr 0) (.slice A x.k cc) vF F) ∧ Hid (objC x.page x.H v0 x.k = (v, n, F)))
    case first =>
      go_wp2_with (fail)
      go_loopw [16, 17, 116] (fun s16 s17 s116 wr => ∃ (j n : Nat) (vF : Value) (v : Vm) (F : List Int), j ≤ K ∧ Hid (L24 w wr x [.int .u8 x.pg, .slice A1 N1 c1, .slice A2 N2 c2, .slice A3 N3 c3, .int .u8 x.bk, .int .u8 x.st, .int .u8 x.ah] q r g b11 v (List.replicate x.nr 0) (.slice A x.k cc) vF F) ∧ Hid (objC x.page x.H v0 j = (v, n, F)) ∧ s16 = .int .i64 n ∧ s17 = vF ∧ s116 = .int .i64 j) (fun _ _ s116 _ => K - (intOf s116).toNat)
      case atStart => exact ⟨0, 0, _, v0, [], by omega, HL24, ⟨rfl⟩, rfl, rfl, rfl⟩
      case round =>
        obtain ⟨j, n, vF, v, F, hj, HLj, HOj, rfl, h17, rfl⟩ := hrel
        have h17 := h17.symm
        subst h17
        clear HL24
        by_cases hlast : j = K
        · have HLS := hid hlast
          subst hlast
          go_wp2
          go_meet
          exact ⟨n, _, v, F, rfl, rfl, HLj, ⟨by rw [← HK.out]; exact HOj.out⟩⟩
        · have hjk : j < kC x.H := by have := HK.out; have : x.k = kC x.H := rfl; omega
          have hkl : j < x.H.length := Nat.lt_of_lt_of_le hjk (kC_le _)
          obtain ⟨b, o, rfl, hb, e0, e1, e2⟩ := HIN.out.h j hkl
          have hhd : hdC x.H j = x.H[j] := by unfold hdC; rw [List.getD_eq_getElem?_getD, List.getElem?_eq_getElem hkl]; rfl
          obtain ⟨p, f, c, hh, hs, hN, hszn, -⟩ := kC_hd hjk
          rw [← hhd, hh] at e0 e1 e2
          have HTT := hid HLj.out.t
          have i0 := (HTT.out.cell hb (by omega) (o + j * 3)).trans e0
          have i1 := (HTT.out.cell hb (by omega) (o + j * 3 + 1)).trans e1
          have i2 := (HTT.out.cell hb (by omega) (o + j * 3 + 2)).trans e2
          have y1 := HLj.out.rx.cell (j := 1) rfl
          have yl := HLj.out.rx.lt
          have hown := HLj.out.own
          rw [← HK.out] at hown
          obtain ⟨gs, c', ea, -, -, -, hgl⟩ := own_form hown (by omega)
          simp only [Value.slice.injEq] at ea
          obtain ⟨rfl, -, rfl⟩ := ea
          have kc := own_cell hown (x.starts_at (k := K) (j := j) (by omega))
          obtain ⟨aa, haa⟩ : ∃ aa, aa = x.at j := ⟨_, rfl⟩
          have HAA := hid haa
          have hab : aa ≤ 600 := by
            have := at_mono (x := x) (i := j) (j := x.k) (Nat.le_of_lt hjk)
            have h2 : x.at x.k = x.top := rfl
            have := x.top_le
            have := x.page_pos
            omega
          rw [← haa] at kc
          obtain ⟨SV, hvm, hsv, hvS, hvF, hvb, hvr, hvg⟩ := HLj.out.vm
          have HVC := hid (hvm.cut.gr ((Gr.refl wr).alloc (.cells #[.int .i64 p, .int .i64 f, .int .i64 c] 90)))
          have HSV := hid (And.intro hsv (And.intro hvS (And.intro hvF (And.intro hvb (And.intro hvr hvg)))))
          have HJ := hid (And.intro hj hlast)
          have hjK : (j : Int) < (K : Int) := by omega
          have hjN : (j : Int) < (N1 : Int) := by have := HN.out.1; omega
          have HHD := hid (And.intro hh (And.intro hs hN))
          have HSZ := hid (fun W => hdr_size ⟨p, f, c⟩ W)
          obtain ⟨z, hz⟩ : ∃ z, z = 1 + p + f + c := ⟨_, rfl⟩
          have hz1 : 1 ≤ z ∧ z ≤ 256 := by omega
          have HZ := hid hz
          rw [show hdrN ⟨(p : Int), f, c⟩ = (z : Int) by rw [show hdrN ⟨p, f, c⟩ = 1 + (p : Int) + f + c from if_pos (hdrE_of hs), hz]; push_cast; rfl] at HSZ
          unfold hdrV at HSZ
          have HMK := hid (obj_make HVC.out (aa : Int) ⟨p, f, c⟩)
          unfold hdrV spV at HMK
          have HRH := hid (Rec.new wr 90 [.int .i64 p, .int .i64 f, .int .i64 c])
          have HL1 := hid (HLj.out.gr ((Gr.refl wr).alloc (.cells #[.int .i64 p, .int .i64 f, .int .i64 c] 90)))
          have hbl : b < wr.heap.size := Nat.lt_of_lt_of_le hb HTT.out.size
          clear hz hb e0 e1 e2 hhd hh hs hN hszn haa hvm hsv hvS hvF hvb hvr hvg hlast hj hown hkl hjk
          go_upto_block 4 with (first
            | (go_at_call 60; refine HMK.out.mono ?_; rintro e w6 ⟨rfl, ht6, hv6⟩; have HT6 := hid ht6; have HV6 := hid hv6; have HRH6 := hid (HRH.out.touch ht6 (fun h => absurd h.2 (Nat.lt_irrefl _))); have j0 := HRH6.out.cell (j := 0) rfl; have j1 := HRH6.out.cell (j := 1) rfl; have j2 := HRH6.out.cell (j := 2) rfl; have jl := HRH6.out.lt; clear ht6 hv6)
            | (go_at_call 55; refine (HSZ.out _).mono ?_; rintro e w7 ⟨rfl, hg7⟩; have HG7 := hid hg7; clear hg7))
          obtain ⟨bh, hbh⟩ : ∃ bh, bh = wr.heap.size := ⟨_, rfl⟩
          have hwz := HLj.out.t.size
          have HBH : Hid (w.heap.size + 1 ≤ bh ∧ wr.heap.size ≤ bh) := ⟨by omega⟩
          have HL2 : Hid (L24 w w7 x [.int .u8 x.pg, .slice (some ⟨b, o, none⟩) N1 c1, .slice A2 N2 c2, .slice A3 N3 c3, .int .u8 x.bk, .int .u8 x.st, .int .u8 x.ah] q r g b11 (mkVm v (aa : Int) ⟨p, f, c⟩) (List.replicate x.nr 0) (.slice (some ⟨gs, 0, none⟩) x.k cc) vF F) := ⟨(HL1.out.turn (fun i hi => HSV.out.1 i hi.1) (fun g1 hg1 hi => HSV.out.2.1 g1 hg1 hi.1) (fun g1 hg1 hi => HSV.out.2.2.1 g1 hg1 hi.1) (fun hi => HSV.out.2.2.2.1 hi.1) (fun hi => HSV.out.2.2.2.2.1 hi.1) (fun hi => HSV.out.2.2.2.2.2 hi.1) HT6.out HV6.out).gr HG7.out⟩
          have HRH7 := hid (HRH6.out.gr HG7.out)
          have HLV2 : Hid (L24V w w7 q (mkVm v (aa : Int) ⟨p, f, c⟩) (.slice (some ⟨gs, 0, none⟩) x.k cc) vF b11 r g wr.heap.size) := ⟨by
            have hz6 := HL1.out.rx.lt
            have hs6 : (wr.alloc (.cells #[.int .i64 p, .int .i64 f, .int .i64 c] 90)).heap.size = wr.heap.size + 1 := World.size_alloc _ _
            have hbl := HLj.out.cf.lt
            have hrl := HLj.out.rt.lt
            refine ⟨_, HV6.out.gr HG7.out, fun i hi => ?_, fun g1 hg1 hi => ?_, fun g1 hg1 hi => ?_, fun hi => ?_, fun hi => ?_, fun hi => ?_, fun hi => ?_⟩
            · exact hi.elim (fun h => HSV.out.1 i h.1) (fun h => by omega)
            · exact hi.elim (fun h => HSV.out.2.1 g1 hg1 h.1) (fun h => by have := (own_lt HLj.out.own hg1).2; omega)
            · exact hi.elim (fun h => HSV.out.2.2.1 g1 hg1 h.1) (fun h => by have := (own_lt HLj.out.fo hg1).2; omega)
            · exact hi.elim (fun h => HSV.out.2.2.2.1 h.1) (fun h => by omega)
            · exact hi.elim (fun h => HSV.out.2.2.2.2.1 h.1) (fun h => by omega)
            · exact hi.elim (fun h => HSV.out.2.2.2.2.2 h.1) (fun h => by omega)
            · exact hi.elim (fun h => by have := h.2; omega) (fun h => by omega)⟩
          rw [← hbh] at HRH7 HLV2 ⊢
          clear hbh j0 j1 j2 jl i0 i1 i2 y1 yl kc
          go_wp2_with (fail)
          go_loopw [16, 17, 134] (fun s16 s17 s134 wr => ∃ (m n' : Nat) (vG : Value) (v' : Vm) (G : List Int), m + 1 ≤ z ∧ Hid (L24 w wr x [.int .u8 x.pg, .slice (some ⟨b, o, none⟩) N1 c1, .slice A2 N2 c2, .slice A3 N3 c3, .int .u8 x.bk, .int .u8 x.st, .int .u8 x.ah] q r g b11 v' (List.replicate x.nr 0) (.slice (some ⟨gs, 0, none⟩) x.k cc) vG G) ∧ Hid (fldC aa p (mkVm v (aa : Int) ⟨p, f, c⟩, n, F) m = (v', n', G)) ∧ Hid (Rec wr bh 90 [.int .i64 p, .int .i64 f, .int .i64 c]) ∧ Hid (L24V w wr q v' (.slice (some ⟨gs, 0, none⟩) x.k cc) vG b11 r g bh) ∧ s16 = .int .i64 n' ∧ s17 = vG ∧ s134 = .int .i64 m) (fun _ _ s134 _ => z - (intOf s134).toNat)
          case atStart => exact ⟨0, n, _, _, F, by omega, HL2, ⟨rfl⟩, HRH7, HLV2, rfl, rfl, rfl⟩
          case round =>
            obtain ⟨m, n', vG, v', G, hm', HLm, HFm, HRm, HVm, rfl, h17, rfl⟩ := hrel
            have h17 := h17.symm
            subst h17
            have j0 := HRm.out.cell (j := 0) rfl
            have jl := HRm.out.lt
            by_cases hml : m + 1 = z
            · have HML := hid hml
              have e0 : decide ((m : Int) < (z : Int) - 1) = false := decide_eq_false (by omega)
              have HMM := hid hm'
              clear hm'
              go_wp2
              go_round
              case rel =>
                refine ⟨j + 1, n', _, v', G, by have := HJ.out; omega, HLm, ⟨?_⟩, rfl, rfl, by go_num⟩
                show fldC (x.page + szC x.H j) (hdC x.H j).p.toNat (mkVm (objC x.page x.H v0 j).1 ((x.page + szC x.H j : Nat) : Int) (hdC x.H j), (objC x.page x.H v0 j).2) ((hdrN (hdC x.H j)).toNat - 1) = _
                rw [HHD.out.2.2, HHD.out.1, HOj.out, show x.page + szC x.H j = aa from HAA.out.symm]
                have h2 : (((1 + p + f + c : Nat) : Int)).toNat - 1 = m := by have := HML.out; have := HZ.out; omega
                rw [h2]
                exact HFm.out
              case measure => have := HJ.out; simp [intOf]; omega
            · have e0 : decide ((m : Int) < (z : Int) - 1) = true := decide_eq_true (by omega)
              have hst := (Stays.fldC (v := mkVm v (aa : Int) ⟨p, f, c⟩) aa p (s := (mkVm v (aa : Int) ⟨p, f, c⟩, n, F)) (Stays.refl (by obtain ⟨SV', hv', -⟩ := HL2.out.vm; exact hv'.ok)) m).2
              rw [HFm.out] at hst
              have hoc := (Stays.objC (HR5.out.ok) x.page x.H j).2
              rw [HOj.out] at hoc
              have hs512 : szC x.H j ≤ 600 := by have e : x.at j = x.page + szC x.H j := rfl; have := HAA.out; omega
              dsimp only at hst hoc
              have HML := hid (And.intro hm' hml)
              have hmz : m + 1 < z := by omega
              clear hm' hml
              by_cases hmp : m < p
              · have hmpI : (m : Int) < (p : Int) := by omega
                have HF1 : Hid (fldC aa p (mkVm v (aa : Int) ⟨p, f, c⟩, n, F) (m + 1) = (v', n', G ++ [((aa + 1 + m : Nat) : Int)])) := ⟨by
                  show (if m < p then _ else _) = _
                  rw [if_pos hmp, HFm.out]⟩
                have hcast : ((aa + 1 + m : Nat) : Int) = (aa : Int) + 1 + (m : Int) := by push_cast; rfl
                have HCAST := hid hcast
                have hfo := HLm.out.fo
                obtain ⟨Af, cf', rfl, hc3, hc4⟩ := own_shape hfo
                unfold maxLen at hc4
                obtain ⟨Nf, hNf⟩ : ∃ N, N = G.length := ⟨_, rfl⟩
                have hNle : Nf ≤ 1000 := by omega
                have HNF := hid hNf
                rw [← hNf] at hc3
                have HO : Hid (wr.ownsRow 0 3 1 (.slice Af Nf cf') Nf (zs G)) := ⟨by rw [hNf]; exact hfo⟩
                have HLG : Hid (L24 w wr x [.int .u8 x.pg, .slice (some ⟨b, o, none⟩) N1 c1, .slice A2 N2 c2, .slice A3 N3 c3, .int .u8 x.bk, .int .u8 x.st, .int .u8 x.ah] q r g b11 v' (List.replicate x.nr 0) (.slice (some ⟨gs, 0, none⟩) x.k cc) (.slice Af Nf cf') G) := ⟨by rw [hNf]; exact HLm.out⟩
                obtain ⟨ii, hii, hi0, hi1, hi2⟩ := info_parts infoIntV
                clear hst hoc hs512 hcast hfo
                rw [← hNf]
                clear hNf
                go_wp2_with (at_builtin; refine wpList_append_lies _ rfl _ _ 30 rfl 0 3 ii _ 1 8 Tryz.underlying30 hii hi0 hi1 hi2 rfl (by decide) (.slice Af Nf cf') Nf (zs G) rfl (HO.out.alloc _) ⟨wr.heap.size, 0, none⟩ 1 1 [.int .i64 ((aa : Int) + 1 + (m : Int))] rfl rfl (World.news_of_block (cs := #[.int .i64 ((aa : Int) + 1 + (m : Int))]) (t := 3) (fr := (0, 0)) (heap_alloc_new wr (.cells #[.int .i64 ((aa : Int) + 1 + (m : Int))] 3))) (by simp [Value.oneCell']) (by omega) (by unfold maxLen; omega) (by omega) (Nat.zero_le _) (wr.heap.size + 1) (by simp) ?_; intro g3 c4 w8 hown3 hgrow3 hat3 hlt3; have t3 : Touch (fun k => (Value.slice Af Nf cf').ownBlock = some k) wr w8 := (((Gr.refl _).alloc _).touch _).trans (grown_touch hgrow3 _ (fun k e _ => e)); have HT3 := hid t3; have HO3 := hid hown3; have HA3 := hid hat3; clear hown3 hgrow3 hat3 hlt3 t3)
                go_round
                case rel =>
                  refine ⟨m + 1, n', .slice (some ⟨g3, 0, none⟩) (Nf + 1) c4, v', G ++ [((aa + 1 + m : Nat) : Int)], by have := HML.out; omega, ⟨HLG.out.app HNF.out HT3.out (by rw [HCAST.out]; exact HO3.out) (HA3.out.imp id (fun h => by omega))⟩, HF1, ⟨HRm.out.touch HT3.out (fun e => own_ne HO.out HRm.out (by decide) e rfl rfl)⟩, ⟨?_⟩, rfl, rfl, by go_num⟩
                  obtain ⟨SV, hvm, hsv, hvS, hvF, hvb, hvr, hvg, hvh⟩ := (show L24V w wr q v' (.slice (some ⟨gs, 0, none⟩) x.k cc) (.slice Af Nf cf') b11 r g bh by rw [HNF.out]; exact HVm.out)
                  refine ⟨cutS SV wr, hvm.cut.touch HT3.out (fun i hi _ e => hvF i e hi.1), fun i hi => hsv i hi.1, fun g1 hg1 hi => hvS g1 hg1 hi.1, fun g1 hg1 hi => ?_, fun hi => hvb hi.1, fun hi => hvr hi.1, fun hi => hvg hi.1, fun hi => hvh hi.1⟩
                  cases hg1
                  rcases HA3.out with h | h
                  · exact hvF _ h hi.1
                  · have : g3 < wr.heap.size := hi.2
                    omega
                case measure => have := HML.out; simp [intOf]; omega
              · have hmpI : ¬ (m : Int) < (p : Int) := by omega
                have e1 : decide ((m : Int) < (p : Int)) = false := decide_eq_false hmpI
                have e2 : decide (m < p) = false := decide_eq_false hmp
                have HF1 : Hid (fldC aa p (mkVm v (aa : Int) ⟨p, f, c⟩, n, F) (m + 1) = (v'.st ((aa + 1 + m : Nat) : Int) (wrdC (n' + 1)), n' + 1, G)) := ⟨by
                  show (if m < p then _ else _) = _
                  rw [if_neg hmp, HFm.out]⟩
                have hcast : ((aa + 1 + m : Nat) : Int) = (aa : Int) + 1 + (m : Int) := by push_cast; rfl
                have hnb : n' ≤ 1000 := by omega
                obtain ⟨y, hy⟩ : ∃ y, y = n' + 1 := ⟨_, rfl⟩
                have hyI : (n' : Int) + 1 = (y : Int) := by omega
                have HY := hid hy
                have hyb : y ≤ 1001 := by omega
                have hw1 : IntKind.u64.wrap (y : Int) = (y : Int) := by rw [IntKind.wrap_u64]; omega
                have hw2 : IntKind.u64.wrap ((y : Int) * 11400714819323198485) = (wrdC y : Int) := wrd_wrap y
                obtain ⟨SV, hvm, hsv, hvS, hvF, hvb, hvr, hvg, hvh⟩ := HVm.out
                have HVH := hid hvh
                have HST := hid (vm_store hvm.cut ((aa + 1 + m : Nat) : Int) (wrdC_lt y))
                rw [hcast] at HST
                have HSV' := hid (And.intro hsv (And.intro hvS (And.intro hvF (And.intro hvb (And.intro hvr hvg)))))
                have HCAST := hid hcast
                obtain ⟨wd, hwd⟩ : ∃ wd, wd = wrdC y := ⟨_, rfl⟩
                rw [← hwd] at hw2 HST
                have HWD := hid hwd
                clear hst hoc hs512 hcast hvm hsv hvS hvF hvb hvr hvg hvh hwd hy
                go_upto_region 29 with (fail)
                clear hyI
                go_wp2_with (go_at_call 61; refine HST.out.mono ?_; rintro e w8 ⟨rfl, ht8, hv8⟩; have HT8 := hid ht8; have HV8 := hid hv8; clear ht8 hv8)
                go_round
                case rel =>
                  refine ⟨m + 1, n' + 1, _, v'.st ((aa + 1 + m : Nat) : Int) (wrdC (n' + 1)), G, by have := HML.out; omega, ⟨HLm.out.turn (fun i hi => HSV'.out.1 i hi.1) (fun g1 hg1 hi => HSV'.out.2.1 g1 hg1 hi.1) (fun g1 hg1 hi => HSV'.out.2.2.1 g1 hg1 hi.1) (fun hi => HSV'.out.2.2.2.1 hi.1) (fun hi => HSV'.out.2.2.2.2.1 hi.1) (fun hi => HSV'.out.2.2.2.2.2 hi.1) HT8.out (by rw [HCAST.out, ← HY.out, ← HWD.out]; exact HV8.out.mono (fun i hi => .inl hi))⟩, HF1, ⟨HRm.out.touch HT8.out (fun h => HVH.out h.1)⟩, ⟨cutS SV wr, by rw [HCAST.out, ← HY.out, ← HWD.out]; exact HV8.out, fun i hi => HSV'.out.1 i hi.1, fun g1 hg1 hi => HSV'.out.2.1 g1 hg1 hi.1, fun g1 hg1 hi => HSV'.out.2.2.1 g1 hg1 hi.1, fun hi => HSV'.out.2.2.2.1 hi.1, fun hi => HSV'.out.2.2.2.2.1 hi.1, fun hi => HSV'.out.2.2.2.2.2 hi.1, fun hi => HVH.out hi.1⟩, by rw [HY.out], rfl, by go_num⟩
                case measure => have := HML.out; simp [intOf]; omega
    case rest =>
      obtain ⟨n, vF, v, F, rfl, h17, HL5, HO5⟩ := hcut
      have h17 := h17.symm
      subst h17
      clear HL24
      obtain ⟨Af, cf', rfl, hc3, hc4⟩ := own_shape HL5.out.fo
      unfold maxLen at hc4
      have hoc := (Stays.objC (HR5.out.ok) x.page x.H x.k).2
      rw [HO5.out] at hoc
      have hsc := szC_le x.H
      have hNf5 : F.length ≤ 512 := by
        have e : szC x.H x.k = szC x.H (kC x.H) := rfl
        dsimp only at hoc
        omega
      obtain ⟨Nf, hNf⟩ : ∃ N, N = F.length := ⟨_, rfl⟩
      have HNF := hid hNf
      rw [← hNf] at hc3 HL5 hNf5 ⊢
      clear hNf hoc hsc
      have HFX : Hid (x.fields v0 = F ∧ (objC x.page x.H v0 x.k).1 = v) := ⟨by unfold LaidC.fields; rw [HO5.out]; exact ⟨rfl, rfl⟩⟩
      have y2 := HL5.out.rx.cell (j := 2) rfl
      have y2l := HL5.out.rx.lt
      go_upto_block 6 with (fail)
      go_cut [] (fun wx => ∃ (v' : Vm), Hid (L24 w wx x [.int .u8 x.pg, .slice A1 N1 c1, .slice A2 N2 c2, .slice A3 N3 c3, .int .u8 x.bk, .int .u8 x.st, .int .u8 x.ah] q r g b11 v' (List.replicate x.nr 0) (.slice A x.k cc) (.slice Af Nf cf') F) ∧ Hid (v' = layC x v0))
      case first =>
        by_cases h0 : Nf = 0
        · subst h0
          have HV0 : Hid (v = layC x v0) := ⟨by unfold layC; rw [HFX.out.1, if_pos (List.eq_nil_of_length_eq_zero HNF.out.symm), HFX.out.2]⟩
          go_wp2_with (fail)
          go_loopw [22] (fun s22 wr => wr = wc ∧ s22 = .int .i64 0) (fun _ _ => 0)
          case atStart => exact ⟨rfl, rfl⟩
          case round =>
            obtain ⟨rfl, rfl⟩ := hrel
            by_cases h2 : 1 < N2
            · have d0 : decide (1 < N2) = true := decide_eq_true h2
              go_wp2
              go_meet
              exact ⟨v, HL5, HV0⟩
            · have d0 : decide (1 < N2) = false := decide_eq_false h2
              go_wp2
              go_meet
              exact ⟨v, HL5, HV0⟩
        · have HV0 : Hid (layC x v0 = ptrC x F v (N2 / 2)) := ⟨by unfold layC; rw [HFX.out.1, if_neg (fun e => h0 (by rw [HNF.out, e]; rfl)), HFX.out.2, HN.out.2.1]⟩
          have hNp : decide (0 < Nf) = true := decide_eq_true (by omega)
          go_wp2_with (fail)
          go_loopw [22] (fun s22 wr => ∃ (k i : Nat) (v' : Vm), Hid (i = 2 * k) ∧ k ≤ N2 / 2 ∧ Hid (L24 w wr x [.int .u8 x.pg, .slice A1 N1 c1, .slice A2 N2 c2, .slice A3 N3 c3, .int .u8 x.bk, .int .u8 x.st, .int .u8 x.ah] q r g b11 v' (List.replicate x.nr 0) (.slice A x.k cc) (.slice Af Nf cf') F) ∧ Hid (v' = ptrC x F v k) ∧ s22 = .int .i64 i) (fun s22 _ => N2 + 1 - (intOf s22).toNat)
          case atStart => exact ⟨0, 0, v, ⟨rfl⟩, by omega, HL5, ⟨rfl⟩, rfl⟩
          case round =>
            obtain ⟨k, i, v', HI, hk, HLk, HEk, rfl⟩ := hrel
            have hi := HI.out
            have hib : i ≤ 4611686018427387904 := by omega
            clear y2 y2l
            have y2 := HLk.out.rx.cell (j := 2) rfl
            have y2l := HLk.out.rx.lt
            by_cases hlast : i + 1 < N2
            · have d0 : decide ((i : Int) + 1 < (N2 : Int)) = true := decide_eq_true (by omega)
              have d1 : decide (i + 1 < N2) = true := decide_eq_true hlast
              have hil : i < x.P.length := by have := HN.out.2.1; omega
              have hil1 : i + 1 < x.P.length := by have := HN.out.2.1; omega
              obtain ⟨b, o, rfl, hb, hp1, e0⟩ := HIN.out.p i hil
              obtain ⟨b', o', hbo, -, hp2, e1⟩ := HIN.out.p (i + 1) hil1
              simp only [Option.some.injEq, Addr.mk.injEq, and_true] at hbo
              obtain ⟨rfl, rfl⟩ := hbo
              have HTT := hid HLk.out.t
              have i0 := (HTT.out.cell hb (by omega) (o + i)).trans e0
              have i1 := (HTT.out.cell hb (by omega) (o + (i + 1))).trans e1
              obtain ⟨pi, hpi⟩ : ∃ p, p = x.P[i] := ⟨_, rfl⟩
              obtain ⟨pj, hpj⟩ : ∃ p, p = x.P[i + 1] := ⟨_, rfl⟩
              rw [← hpi] at i0 hp1
              rw [← hpj] at i1 hp2
              have HPI : Hid (x.P.getD (2 * k) 0 = pi ∧ x.P.getD (2 * k + 1) 0 = pj) := ⟨by rw [← hi, hpi, hpj, List.getD_eq_getElem?_getD, List.getElem?_eq_getElem hil, List.getD_eq_getElem?_getD, List.getElem?_eq_getElem hil1]; exact ⟨rfl, rfl⟩⟩
              obtain ⟨rr, hrr⟩ : ∃ rr, rr = (pi + i) % Nf := ⟨_, rfl⟩
              have g3 : ((pi : Int) + (i : Int)) % (Nf : Int) = (rr : Int) := by rw [hrr]; rfl
              have g4 : ((pi : Int) + (i : Int)).tmod (Nf : Int) = (rr : Int) := by rw [hrr]; rfl
              have hrN : rr < Nf := by rw [hrr]; exact Nat.mod_lt _ (by omega)
              have hNz : (Nf : Int) ≠ 0 := by omega
              have hfo := HLk.out.fo
              rw [← HNF.out] at hfo
              obtain ⟨gF, c', ea, -, -, -, -⟩ := own_form hfo h0
              simp only [Value.slice.injEq] at ea
              obtain ⟨rfl, -, rfl⟩ := ea
              have hrF : rr < F.length := by rw [← HNF.out]; exact hrN
              have kr := own_cell hfo (j := rr) (u := .int .i64 F[rr]) (by simp [zs, hrF])
              have hgl := (own_lt hfo (g := gF) rfl).2
              obtain ⟨fr, hfr⟩ : ∃ f, f = F[rr] := ⟨_, rfl⟩
              rw [← hfr] at kr
              have hxl := HLk.out.rx.lt
              have hbl : b < wr.heap.size := Nat.lt_of_lt_of_le hb HTT.out.size
              have HST : Hid (ptrC x F v (k + 1) = v'.st fr (x.put pj)) := ⟨by
                show (ptrC x F v k).st _ _ = _
                rw [HPI.out.1, HPI.out.2, ← HNF.out, ← hi, ← hrr, ← HEk.out, hfr, List.getD_eq_getElem?_getD, List.getElem?_eq_getElem hrF]
                rfl⟩
              have hown := HLk.out.own
              rw [← HK.out] at hown
              have HPUT := hid (fun (W : World) (g' : Gr wr W) => lay_put (x := x) (own_gr hown g') HK.out hkb hp2)
              obtain ⟨pt, hpt⟩ : ∃ pt, pt = x.put pj := ⟨_, rfl⟩
              have hptb : pt ≤ 600 := by rw [hpt]; have := x.put_le pj; have := x.top_le; have := x.page_pos; omega
              rw [← hpt] at HPUT HST
              have hw1 : IntKind.u64.wrap (pt : Int) = (pt : Int) := by rw [IntKind.wrap_u64]; omega
              obtain ⟨SV, hvm, hsv, hvS, hvF, hvb, hvr, hvg⟩ := HLk.out.vm
              have HVC := hid (fun (W : World) (g' : Gr wr W) => vm_store (hvm.cut.gr g') fr (x := pt) (by omega))
              have HSV := hid (And.intro hsv (And.intro hvS (And.intro hvF (And.intro hvb (And.intro hvr hvg)))))
              have KS : Hid (∀ W', Gr wr W' → W'.cell? ⟨w.heap.size, 2, none⟩ = some (.slice (some ⟨b, o, none⟩) N2 c2) ∧ W'.cell? ⟨b, o + i, none⟩ = some (.int .u8 pi) ∧ W'.cell? ⟨b, o + (i + 1), none⟩ = some (.int .u8 pj) ∧ W'.cell? ⟨gF, rr, none⟩ = some (.int .i64 fr)) :=
                ⟨fun W' h => ⟨(h.cell hxl 2).trans y2, (h.cell hbl _).trans i0, (h.cell hbl _).trans i1, (h.cell hgl rr).trans kr⟩⟩
              have hiI : (i : Int) < (N2 : Int) := by omega
              have hi1I : (i : Int) + 1 < (N2 : Int) := by omega
              have hrI : (rr : Int) < (Nf : Int) := by omega
              have hk1 : k + 1 ≤ N2 / 2 := by omega
              have hwi1 : IntKind.i64.wrap ((i : Int) + 1) = (i : Int) + 1 := IntWalk.i64_in _ (by omega)
              have hwi2 : ((i : Int) + 1).toNat = i + 1 := by omega
              have hwi3 : (0 : Int) ≤ (i : Int) + 1 := by omega
              have hwp : IntKind.i64.wrap (pi : Int) = (pi : Int) := IntWalk.i64_in _ (by omega)
              have hws : IntKind.i64.wrap ((pi : Int) + (i : Int)) = (pi : Int) + (i : Int) := IntWalk.i64_in _ (by omega)
              clear hfo hown kr hfr hpi hpj hpt hb hbl hxl hgl hvm hsv hvS hvF hvb hvr hvg i0 i1 e0 e1 hrr hrF hil hil1 hi hlast hp1 hp2
              go_upto_region 35 with (fail)
              obtain ⟨Sx, hSx⟩ : ∃ Sx : World → Prop, Sx = fun W' => Gr wr W' := ⟨_, rfl⟩
              have z1 : ∀ p : Held Sx, p.w.cell? ⟨w.heap.size, 2, none⟩ = some (.slice (some ⟨b, o, none⟩) N2 c2) := fun p => (KS.out _ (Held.get hSx p)).1
              have z2 : ∀ p : Held Sx, p.w.cell? ⟨b, o + i, none⟩ = some (.int .u8 pi) := fun p => (KS.out _ (Held.get hSx p)).2.1
              have z3 : ∀ p : Held Sx, p.w.cell? ⟨b, o + (i + 1), none⟩ = some (.int .u8 pj) := fun p => (KS.out _ (Held.get hSx p)).2.2.1
              have z4 : ∀ p : Held Sx, p.w.cell? ⟨gF, rr, none⟩ = some (.int .i64 fr) := fun p => (KS.out _ (Held.get hSx p)).2.2.2
              have hS0 : Sx wr.drew := by rw [hSx]; exact (Gr.refl wr).drew
              have inst : Inhabited (Held Sx) := ⟨⟨_, hS0⟩⟩
              clear hSx
              refine wp_region_mixS Sx 24 [([0, 1, 2, 3, 4, 5, 6, 7, 8, 9, 10, 11, 12, 13, 14, 15, 16, 17, 18, 19, 20, 21], 22), ([23], 24)] [] (by kernel_rfl) (by kernel_rfl) hS0 ?_
              refine segs_step ?_
              simp only [opsAt, List.getElem?_cons_zero, List.getElem?_cons_succ]
              repeat (go_big_quiet_step (fail))
              refine wpQuiet_nil ?_
              go_wp2_with (go_at_call 62; refine (HPUT.out _ (Gr.refl wr).drew).mono ?_; rintro e w3 ⟨rfl, rfl⟩)
              refine ⟨.inr (Held.of hS0), ?_⟩
              refine segs_step ?_
              simp only [opsAt, List.getElem?_cons_zero, List.getElem?_cons_succ]
              repeat (go_big_quiet_step (fail))
              refine wpQuiet_nil ?_
              go_wp2_with (go_at_call 61; refine (HVC.out _ (Gr.refl wr).drew).mono ?_; rintro e w3 ⟨rfl, ht3, hv3⟩; have HT3 := hid ht3; have HV3 := hid hv3; clear ht3 hv3)
              refine ⟨.inl trivial, ?_⟩
              refine segs_end ?_
              refine wpQuiet_nil ?_
              refine NoPanic.normal ?_
              clear z1 z2 z3 z4 hS0 inst
              clear Sx
              go_wp2
              go_round
              case rel =>
                refine ⟨k + 1, i + 2, v'.st fr pt, ⟨by have := HI.out; omega⟩, hk1, ⟨?_⟩, ⟨HST.out.symm⟩, by go_num⟩
                exact (HLk.out.gr (Gr.refl wr).drew).turn (fun j hj => HSV.out.1 j hj.1) (fun gg hg hj => HSV.out.2.1 gg hg hj.1) (fun gg hg hj => HSV.out.2.2.1 gg hg hj.1) (fun hj => HSV.out.2.2.2.1 hj.1) (fun hj => HSV.out.2.2.2.2.1 hj.1) (fun hj => HSV.out.2.2.2.2.2 hj.1) HT3.out (HV3.out.mono (fun j hj => .inl hj))
              case measure => simp [intOf]; omega
            · have d0 : decide ((i : Int) + 1 < (N2 : Int)) = false := decide_eq_false (by omega)
              have hl2 : ¬ (i + 1 < N2) := hlast
              have hl3 : N2 ≤ i + 1 := by omega
              have d1 : decide (i + 1 < N2) = false := decide_eq_false hlast
              have hkk : k = N2 / 2 := by omega
              have HKK := hid hkk
              clear hkk hi
              go_wp2
              go_meet
              exact ⟨v', HLk, ⟨by rw [HV0.out, HEk.out, HKK.out]⟩⟩
      case rest =>
        obtain ⟨v6, HL6, HV6'⟩ := hcut
        clear y2 y2l
        have hnr := x.nr_le
        have HLN := hid (rt_len HL6.out.rt)
        rw [List.length_replicate] at HLN
        obtain ⟨nr, hnre⟩ : ∃ nr, nr = x.nr := ⟨_, rfl⟩
        have HNR2 := hid hnre
        rw [← hnre] at HLN hnr
        have HL60 : Hid (L24 w wc x [.int .u8 x.pg, .slice A1 N1 c1, .slice A2 N2 c2, .slice A3 N3 c3, .int .u8 x.bk, .int .u8 x.st, .int .u8 x.ah] q r g b11 v6 (x.rsN 0) (.slice A x.k cc) (.slice Af Nf cf') F) := ⟨by rw [x.rsN_zero]; exact HL6.out⟩
        clear hnre
        go_upto_block 8 with (go_at_call 63; refine HLN.out.mono ?_; rintro e w6 ⟨rfl, rfl⟩)
        go_cut [] (fun wx => Hid (L24 w wx x [.int .u8 x.pg, .slice A1 N1 c1, .slice A2 N2 c2, .slice A3 N3 c3, .int .u8 x.bk, .int .u8 x.st, .int .u8 x.ah] q r g b11 v6 x.rs (.slice A x.k cc) (.slice Af Nf cf') F))
        case first =>
          go_wp2_with (fail)
          go_loopw [201] (fun s201 wr => ∃ i : Nat, i ≤ nr ∧ Hid (L24 w wr x [.int .u8 x.pg, .slice A1 N1 c1, .slice A2 N2 c2, .slice A3 N3 c3, .int .u8 x.bk, .int .u8 x.st, .int .u8 x.ah] q r g b11 v6 (x.rsN i) (.slice A x.k cc) (.slice Af Nf cf') F) ∧ s201 = .int .i64 i) (fun s201 _ => nr - (intOf s201).toNat)
          case atStart => exact ⟨0, by omega, HL60, rfl⟩
          case round =>
            obtain ⟨i, hi, HLi, rfl⟩ := hrel
            clear HL60
            have y3 := HLi.out.rx.cell (j := 3) rfl
            have y3l := HLi.out.rx.lt
            by_cases hlast : i = nr
            · have HLS := hid hlast
              subst hlast
              go_wp2
              go_meet
              exact ⟨by have := HLi.out; rw [HNR2.out] at this; exact this⟩
            · have hiN : (i : Int) < (nr : Int) := by omega
              have HII := hid (And.intro hi hlast)
              by_cases hiR : i < N3
              · have hil : i < x.R.length := by have := HN.out.2.2; omega
                obtain ⟨b, o, rfl, hb, hp1, e0⟩ := HIN.out.r i hil
                have HTT := hid HLi.out.t
                have i0 := (HTT.out.cell hb (by omega) (o + i)).trans e0
                obtain ⟨pi, hpi⟩ : ∃ p, p = x.R[i] := ⟨_, rfl⟩
                rw [← hpi] at i0 hp1
                have HPI : Hid (x.R.getD i 0 = pi ∧ i < x.R.length) := ⟨by rw [hpi, List.getD_eq_getElem?_getD, List.getElem?_eq_getElem hil]; exact ⟨rfl, hil⟩⟩
                have hown := HLi.out.own
                rw [← HK.out] at hown
                have HPUT := hid (lay_put (x := x) hown HK.out hkb hp1)
                have HSET := hid (rt_set HLi.out.rt (i := i) (by rw [x.rsN_len, ← HNR2.out]; omega) (a := (x.put pi : Nat)) (by omega))
                have e1 : decide ((i : Int) < (N3 : Int)) = true := decide_eq_true (by omega)
                have hiI : (i : Int) < (N3 : Int) := by omega
                have hbl : b < wr.heap.size := Nat.lt_of_lt_of_le hb HTT.out.size
                obtain ⟨pt, hpt⟩ : ∃ pt, pt = x.put pi := ⟨_, rfl⟩
                have HPT := hid hpt
                rw [← hpt] at HPUT HSET
                clear hpt
                clear hb e0 hpi hil hp1 hown hlast hi
                go_wp2_with (first
                  | (go_at_call 62; refine HPUT.out.mono ?_; rintro e w6 ⟨rfl, rfl⟩)
                  | (go_at_call 29; refine HSET.out.mono ?_; rintro e w6 ⟨rfl, ht6, hr6⟩; have HT6 := hid ht6; have HR6 := hid hr6; clear ht6 hr6))
                go_round
                case rel =>
                  refine ⟨i + 1, by have := HII.out; omega, ⟨HLi.out.set HT6.out ?_⟩, by go_num⟩
                  have := HR6.out
                  rw [HPT.out, ← HPI.out.1, x.rsN_set HPI.out.2] at this
                  exact this
                case measure => have := HII.out; simp [intOf]; omega
              · have e1 : decide ((i : Int) < (N3 : Int)) = false := decide_eq_false (by omega)
                have HIR : Hid (¬ i < x.R.length) := ⟨by have := HN.out.2.2; omega⟩
                clear hlast hi
                go_wp2
                go_round
                case rel => exact ⟨i + 1, by have := HII.out; omega, ⟨by rw [x.rsN_skip HIR.out]; exact HLi.out⟩, by go_num⟩
                case measure => have := HII.out; simp [intOf]; omega
        case rest =>
          have HL7 := hcut
          have k0 := HL7.out.cf.cell (j := 0) rfl
          have k1 := HL7.out.cf.cell (j := 1) rfl
          have k2 := HL7.out.cf.cell (j := 2) rfl
          have k3 := HL7.out.cf.cell (j := 3) rfl
          have k4 := HL7.out.cf.cell (j := 4) rfl
          have k5 := HL7.out.cf.cell (j := 5) rfl
          have k6 := HL7.out.cf.cell (j := 6) rfl
          have kl := HL7.out.cf.lt
          have hsty := Stays.layC HR5.out.ok x
          have hrun := HR5.out.stays hsty
          have HRUN := hid hrun
          have HV7 : Hid (v6 = layC x v0) := HV6'
          have hv6n : v6.n = x.n := by rw [HV7.out]; exact hrun.n
          have hrec := Rec.new wc 37 (heapL x q r (.slice none 0 0))
          have hgh := (Gr.refl wc).alloc (.cells (heapL x q r (.slice none 0 0)).toArray 37)
          obtain ⟨WH, hWH⟩ : ∃ WH, WH = wc.alloc (.cells (heapL x q r (.slice none 0 0)).toArray 37) := ⟨_, rfl⟩
          rw [← hWH] at hrec hgh
          have hWH2 : WH = wc.alloc (.cells #[.pointer (some ⟨q, 0, none⟩), .pointer (some ⟨r, 0, none⟩), .int .i64 x.cf.fr, .int .i64 x.cf.tp, .int .i64 x.cf.to, .int .i64 x.cf.lm, .int .i64 x.cf.bk, .int .i64 x.cf.st, .int .i64 x.cf.ah, .slice none 0 0, .int .i64 (pg : Nat)] 37) := by rw [hWH, HPGE.out]; rfl
          obtain ⟨SV, hvm, hsv, -, -, -, hvr, hvg⟩ := HL7.out.vm
          have hcz := HL7.out.t.size
          have hxl := HL7.out.rx.lt
          have HR0 : Hid (L24R w WH x q r g wc.heap.size v6 x.rs 0 (.slice none 0 0)) := ⟨hrec, own_nil _ _ _ _, ⟨cutS SV wc, hvm.cut.gr hgh, fun i hi => hsv i hi.1, (fun g1 hg1 => by cases hg1), fun h => absurd h.2 (Nat.lt_irrefl _), fun h => hvr h.1, fun h => hvg h.1⟩, HL7.out.rt.gr hgh, hxl, HL7.out.lr, (fun g1 hg1 => by cases hg1), HL7.out.t.trans (hgh.touch _)⟩
          have HWDS := hid (fun (W : World) (g' : Gr wc W) => vm_words (hvm.gr g'))
          have HGH := hid hgh
          rw [hv6n] at HWDS
          obtain ⟨hp, hhp⟩ : ∃ hp, hp = wc.heap.size := ⟨_, rfl⟩
          obtain ⟨nn, hnn⟩ : ∃ nn, nn = x.n := ⟨_, rfl⟩
          have HNN := hid hnn
          have hnb : nn ≤ 1056 := by rw [hnn]; have := x.page_pos; unfold LaidC.n; omega
          rw [← hnn] at HWDS
          obtain ⟨ii, hii, hi0, hi1, hi2⟩ := info_parts infoU64
          clear hrec hgh hWH hv6n hvm hsv hvr hvg hcz hxl hsty hrun hnn
          go_upto_region 43 with (fail)
          rw [← hWH2, ← hhp]
          rw [← hhp] at HR0
          clear hWH2 hhp k0 k1 k2 k3 k4 k5 k6 kl
          go_wp2_with (go_at_call 33; refine (HWDS.out _ HGH.out).mono ?_; rintro e w6 ⟨rfl, rfl⟩)
          go_loopw [228] (fun s228 wr => ∃ (k : Nat) (vL : Value), k ≤ nn ∧ Hid (L24R w wr x q r g hp v6 x.rs k vL) ∧ s228 = .int .i64 k) (fun s228 _ => nn - (intOf s228).toNat)
          case atStart => exact ⟨0, _, by omega, HR0, rfl⟩
          case round =>
            obtain ⟨k, vL, hk, HR, rfl⟩ := hrel
            clear HR0
            obtain ⟨A5, c5, rfl, hc5, hc6⟩ := own_shape HR.out.own
            unfold maxLen at hc6
            by_cases hlast : k < nn
            · have d0 : decide ((k : Int) < (nn : Int)) = true := decide_eq_true (by omega)
              obtain ⟨SV, hvm, -⟩ := HR.out.vm
              have HLD := hid (vm_load hvm (k : Int))
              obtain ⟨y, hy⟩ : ∃ y, y = v6.ldV (k : Int) := ⟨_, rfl⟩
              have HY := hid hy
              rw [← hy] at HLD
              have HKN := hid (And.intro hk hlast)
              have hkI : (k : Int) < (nn : Int) := by omega
              have d1 : decide (k < nn) = true := decide_eq_true hlast
              clear hy hvm
              go_wp2_with (first
                | (go_at_call 64; refine HLD.out.mono ?_; rintro e w7 ⟨rfl, hg7⟩; have HR7 := hid (HR.out.gr hg7); have u9 := HR7.out.hr.cell (j := 9) rfl; have u9l := HR7.out.hr.lt; clear hg7)
                | (at_builtin; refine wpList_append_lies _ rfl _ _ 35 rfl 0 50 ii _ 1 8 Tryz.underlying35 hii hi0 hi1 hi2 rfl (by decide) (.slice A5 k c5) k (wrds v6 k) rfl (HR7.out.own.alloc _) ⟨w7.heap.size, 0, none⟩ 1 1 [.int .u64 (y : Nat)] rfl rfl (World.news_of_block (cs := #[.int .u64 (y : Nat)]) (t := 50) (fr := (0, 0)) (heap_alloc_new w7 (.cells #[.int .u64 (y : Nat)] 50))) (by simp [Value.oneCell']) (by have := HKN.out; omega) (by unfold maxLen; have := HKN.out; omega) (by have := HKN.out; omega) (Nat.zero_le _) (w7.heap.size + 1) (by simp) ?_; intro g4 c4 w8 hown4 hgrow4 hat4 hlt4; have t4 : Touch (fun k' => (Value.slice A5 k c5).ownBlock = some k') w7 w8 := (((Gr.refl _).alloc _).touch _).trans (grown_touch hgrow4 _ (fun k e _ => e)); have HT4 := hid t4; have HO4 := hid hown4; have HA4 := hid hat4; have HH4 := HR7.out.hr.touch t4 (fun e => own_ne HR7.out.own HR7.out.hr (by decide) e rfl rfl); have v9 := HH4.cell (j := 9) rfl; have v9f := HH4.free 9; have v9l := HH4.lt; clear hown4 hgrow4 hat4 hlt4 t4 HH4))
              go_round
              case rel =>
                refine ⟨k + 1, _, by have := HKN.out; omega, ⟨HR7.out.app HT4.out (by rw [← HY.out]; exact HO4.out) (HA4.out.imp id (fun h => by omega))⟩, by go_num⟩
              case measure => have := HKN.out; simp [intOf]; omega
            · have d0 : decide ((k : Int) < (nn : Int)) = false := decide_eq_false (by omega)
              have hkn : k = nn := by omega
              have HKE := hid (hkn.trans HNN.out)
              have hkI : ¬ (k : Int) < (nn : Int) := by omega
              have d1 : decide (k < nn) = false := decide_eq_false hlast
              clear hkn
              go_wp2
              go_ret
              have HRF := HR.out
              rw [HKE.out] at HRF
              obtain ⟨SV, hvm, hsv, hvL, hvh, hvr, hvg⟩ := HRF.vm
              have hfin := HRF.own
              rw [HV7.out] at hvm hfin
              exact ⟨hp, q, r, g, A5, c5, v0, cutS SV wr, rfl, (HRF.t.mono (T := fun _ => False) (fun k hk h => by omega)).gr, HR5.out, HZ5.out, hvm.cut, HRF.rt, HRF.hr, hfin, fun i hi => ⟨by have := hsv i hi.1; omega, hi.2⟩, fun h => hvh h.1, fun h => hvr h.1, fun h => hvg h.1, ⟨by have := HRF.hl; omega, by have := HRF.lr; omega, by have := HRF.lr; omega⟩, fun b hb => ⟨by have := HRF.ofr b hb; omega, fun h => hvL b hb h.1⟩⟩
end Go.Proofs.YtbmidhlilafgeaaGreatDoor
end
section
namespace Go.Proofs.YtbmidhlilafgeaaGreatDoor
open Go.ChangeShapes Go.WideShapes Go.ChangeAt Go.RowKit Word

theorem cells25L : Tryz.prog.cellsOf 25 = 7 := by kernel_rfl
theorem cells25H : Tryz.prog.cellsOf 22 = 1 := by kernel_rfl
theorem cells25h : Tryz.prog.cellsOf 90 = 3 := by kernel_rfl
theorem cells25B : Tryz.prog.cellsOf 23 = 1 := by kernel_rfl
theorem cells25b : Tryz.prog.cellsOf 5 = 1 := by kernel_rfl
theorem bytes25b : Tryz.prog.bytesOf 5 = 1 := by kernel_rfl
section
variable {H : Type} {enc : TypeId × Value → H} {W : World} {fuel : Nat} {cs0 : List Value} {x : DataW H × List MemPlace}
set_option maxRecDepth 100000 in
theorem u8_cells (hf : DataW.trod enc Tryz.prog W 0 (fun _ => true) true fuel 23 cs0 = some x) :
    ∃ (A : Option Addr) (cap : Nat) (l : List Nat), cs0 = [.slice A l.length cap] ∧ l.length ≤ maxLen ∧ U8sAt W A l ∧ (l = [] ∨ ∃ e s, x.1 = .slice e s ∧ e.length = l.length) := by
  rcases Go.Deep.open_slice Tryz.underlying23 hf with ⟨hcs, _⟩ | ⟨a, len, cap, m, n, D, Pl, hcs, _, hl, hm, hmm, hx, hi⟩
  · exact ⟨none, 0, [], hcs, Nat.zero_le _, (fun i h => absurd h (by simp)), .inl rfl⟩
  · have hle : len ≤ m := by rw [hmm]; simpa using hl
    obtain ⟨l, hlen, hR⟩ := list_of (fun i (x : Nat) => x < 256 ∧ W.cell? (a.add i) = some (.int .u8 (x : Nat))) len (fun i hil => by
      obtain ⟨cs, hc, ht⟩ := hi i (by omega)
      rw [cells25b, Nat.mul_one] at hc
      obtain ⟨_, hcl, hat⟩ := World.cells?_some hc
      obtain ⟨k, e0, _, w0⟩ := DataW.trod_int Tryz.underlying5 ht
      subst e0
      have hb := bd_u8 w0
      refine ⟨k.toNat, by omega, ?_⟩
      have := hat 0 (by simp)
      rw [add_add_, Nat.add_zero] at this
      rw [this]
      show some (Value.int .u8 k) = some (Value.int .u8 ((k.toNat : Nat) : Int))
      rw [show ((k.toNat : Nat) : Int) = k by omega])
    subst hlen
    refine ⟨some a, cap, l, hcs, by omega, fun i hil => ?_, .inr ⟨_, _, by rw [hx], by simp⟩⟩
    obtain ⟨h0, h1⟩ := hR i hil
    have hs : a.spot = none := by
      have h0 := (hR 0 (by omega)).2
      have := spot_of_cell h0
      simpa [Addr.add] using this
    obtain ⟨b, o, s⟩ := a
    simp only at hs
    subst hs
    have ha : ∀ k, Addr.add ⟨b, o, none⟩ k = ⟨b, o + k, none⟩ := fun k => by unfold Addr.add; split <;> simp_all
    rw [ha] at h1
    exact ⟨b, o, rfl, lt_of_cell h1, h0, h1⟩
set_option maxRecDepth 100000 in
theorem hds_cells (hf : DataW.trod enc Tryz.prog W 0 (fun _ => true) true fuel 22 cs0 = some x) :
    ∃ (A : Option Addr) (cap : Nat) (l : List Hdr), cs0 = [.slice A l.length cap] ∧ l.length ≤ maxLen ∧ HdsAt W A l := by
  rcases Go.Deep.open_slice Tryz.underlying22 hf with ⟨hcs, _⟩ | ⟨a, len, cap, m, n, D, Pl, hcs, _, hl, hm, hmm, _, hi⟩
  · exact ⟨none, 0, [], hcs, Nat.zero_le _, fun i h => absurd h (by simp)⟩
  · have hle : len ≤ m := by rw [hmm]; simpa using hl
    obtain ⟨l, hlen, hR⟩ := list_of (fun i (x : Hdr) => W.cell? (a.add (i * 3 + 0)) = some (.int .i64 x.p) ∧ W.cell? (a.add (i * 3 + 1)) = some (.int .i64 x.f) ∧ W.cell? (a.add (i * 3 + 2)) = some (.int .i64 x.k)) len (fun i hil => by
      obtain ⟨cs, hc, ht⟩ := hi i (by omega)
      rw [cells25h] at hc
      obtain ⟨_, hcl, hat⟩ := World.cells?_some hc
      obtain ⟨y0, y1, y2, n', _, _, t0, t1, t2⟩ := Go.Deep.trod_struct3 Tryz.underlying90 ht
      simp only [cellsInt] at t0 t1 t2
      match cs, hcl with
      | [c0, c1, c2], _ =>
        have g : ∀ j, j < 3 → W.cell? ((a.add (i * 3)).add j) = [c0, c1, c2][j]? := fun j hj => hat j hj
        obtain ⟨x0, e0, _, _⟩ := DataW.trod_int Tryz.underlying3 t0
        obtain ⟨x1, e1, _, _⟩ := DataW.trod_int Tryz.underlying3 t1
        obtain ⟨x2, e2, _, _⟩ := DataW.trod_int Tryz.underlying3 t2
        simp at e0 e1 e2
        subst e0 e1 e2
        have add3 : ∀ j, (a.add (i * 3)).add j = a.add (i * 3 + j) := fun j => add_add_ a (i * 3) j
        refine ⟨⟨x0, x1, x2⟩, ?_, ?_, ?_⟩
        · rw [← add3, g 0 (by omega)]; rfl
        · rw [← add3, g 1 (by omega)]; rfl
        · rw [← add3, g 2 (by omega)]; rfl)
    subst hlen
    refine ⟨some a, cap, l, hcs, by omega, fun i hil => ?_⟩
    obtain ⟨h2, h3, h4⟩ := hR i hil
    have hs : a.spot = none := by
      have h0 := (hR 0 (by omega)).1
      have := spot_of_cell h0
      simpa [Addr.add] using this
    obtain ⟨b, o, s⟩ := a
    simp only at hs
    subst hs
    have ha : ∀ k, Addr.add ⟨b, o, none⟩ k = ⟨b, o + k, none⟩ := fun k => by unfold Addr.add; split <;> simp_all
    rw [ha] at h2 h3 h4
    exact ⟨b, o, rfl, lt_of_cell h2, h2, by rw [Nat.add_assoc]; exact h3, by rw [Nat.add_assoc]; exact h4⟩
end
theorem nat_u8 {k : Int} (h : (Lit.int .u8 k).wf = true) : ∃ m : Nat, k = m ∧ m < 256 := by
  have hb := bd_u8 h
  exact ⟨k.toNat, by omega, by omega⟩
set_option maxRecDepth 100000 in
set_option maxHeartbeats 800000 in
theorem open_laidC {H : Type} {enc : TypeId × Value → H} {W : World} {r : Reach} {b0 : Nat} {v : Value} {d : DataW H} {p : List MemPlace}
    (hv : Value.okWide Tryz.prog W r b0 25 v) (h : DataW.Trod enc Tryz.prog W 0 (fun _ => true) true 25 v d p) (hz : ∀ n ∈ d.weights Tryz.prog 25, n ≤ reachBytes) :
    ∃ (A1 A2 A3 : Option Addr) (c1 c2 c3 : Nat) (x : LaidC), v = .agg (laidV x A1 A2 A3 c1 c2 c3).toArray ∧ LaidCAt W A1 A2 A3 x := by
  obtain ⟨cs, rfl, hsz⟩ := okWide_struct Tryz.underlying25 hv
  obtain ⟨c0, c1, c2, c3, c4, c5, c6, rfl⟩ := array7 cs (hsz.trans cells25L)
  obtain ⟨fuel, hf⟩ := h
  obtain ⟨y0, y1, y2, y3, y4, y5, y6, n, t0, t1, t2, t3, t4, t5, t6, hd⟩ := trod_struct7 Tryz.underlying25 hf
  simp only [cells25b, cells25H, cells25B] at t0 t1 t2 t3 t4 t5 t6
  obtain ⟨A1, p1, l1, e1, k1, h1⟩ := hds_cells t1
  obtain ⟨A2, p2, l2, e2, k2, h2, z2⟩ := u8_cells t2
  obtain ⟨A3, p3, l3, e3, k3, h3, _⟩ := u8_cells t3
  obtain ⟨x0, e0, _, w0⟩ := DataW.trod_int Tryz.underlying5 t0
  obtain ⟨x4, e4, _, w4⟩ := DataW.trod_int Tryz.underlying5 t4
  obtain ⟨x5, e5, _, w5⟩ := DataW.trod_int Tryz.underlying5 t5
  obtain ⟨x6, e6, _, w6⟩ := DataW.trod_int Tryz.underlying5 t6
  simp [Value.cells] at e0 e1 e2 e3 e4 e5 e6
  obtain ⟨m0, rfl, b0'⟩ := nat_u8 w0
  obtain ⟨m4, rfl, b4⟩ := nat_u8 w4
  obtain ⟨m5, rfl, b5⟩ := nat_u8 w5
  obtain ⟨m6, rfl, b6⟩ := nat_u8 w6
  subst e0 e1 e2 e3 e4 e5 e6
  have hl2 : l2.length ≤ 4611686018427387904 := by
    rcases z2 with rfl | ⟨e, s, he, hl⟩
    · decide
    · have hd : d = .agg [y0.1, y1.1, y2.1, y3.1, y4.1, y5.1, y6.1] := hd
      have hw : ((e.length + s.length) * Tryz.prog.bytesOf 5) ∈ d.weights Tryz.prog 25 := by
        rw [hd, he]
        simp only [DataW.weights, Tryz.underlying25]
        exact DataW.weights_mem_each (j := 2) (t := 23) (d := .slice e s) rfl rfl _ (by simp [DataW.weights, Tryz.underlying23])
      have := hz _ hw
      rw [bytes25b] at this
      have := reachBytes_lt
      omega
  unfold maxLen at k1 k3
  exact ⟨A1, A2, A3, p1, p2, p3, ⟨m0, l1, l2, l3, m4, m5, m6⟩, rfl, ⟨h1, h2, h3, k1, hl2, k3, b0', b4, b5, b6⟩⟩
end Go.Proofs.YtbmidhlilafgeaaGreatDoor
end
section
namespace Go.Proofs.YtbmidhlilafgeaaGreatDoor
open Go.ChangeShapes Go.WideShapes Go.ChangeAt Go.RowKit Word

theorem cellsTwo : Tryz.prog.cellsOf 57 = 2 := by kernel_rfl
set_option maxRecDepth 100000 in
theorem open_two {H : Type} {enc : TypeId × Value → H} {W : World} {r : Reach} {b0 : Nat} {v : Value} {d : DataW H} {p : List MemPlace}
    (hv : Value.okWide Tryz.prog W r b0 57 v) (h : DataW.Trod enc Tryz.prog W 0 (fun _ => true) true 57 v d p) :
    ∃ x y : Int, v = .agg #[.int .i64 x, .int .i64 y] := by
  have hv' : ∃ cs, v = Value.agg cs ∧ cs.size = Tryz.prog.cellsOf 57 := by
    unfold Value.okWide at hv
    rw [Tryz.underlying57] at hv
    obtain ⟨cs, h1, h2, _⟩ := hv
    exact ⟨cs, h1, h2⟩
  obtain ⟨cs, rfl, hsz⟩ := hv'
  obtain ⟨c0, c1, rfl⟩ := Go.Joins.array2 (hsz.trans cellsTwo)
  obtain ⟨fuel, hf⟩ := h
  obtain ⟨xs, m, _, _, _, hlen, hel⟩ := DataW.trod_array Tryz.underlying57 hf
  match xs, hlen with
  | [y0, y1], _ =>
    have t0 := hel 0 (by decide)
    have t1 := hel 1 (by decide)
    simp only [cellsInt] at t0 t1
    obtain ⟨x, e0, _, _⟩ := DataW.trod_int Tryz.underlying3 t0
    obtain ⟨y, e1, _, _⟩ := DataW.trod_int Tryz.underlying3 t1
    simp [Value.cells] at e0 e1
    subst e0 e1
    exact ⟨x, y, rfl⟩
end Go.Proofs.YtbmidhlilafgeaaGreatDoor
end
section
namespace Go.Proofs.YtbmidhlilafgeaaGreatDoor
open Go.RowKit Word

def mpN (v : Vm) : Nat → Vm
  | 0 => v
  | k + 1 => (mpN v k).mp (k : Nat)
theorem mpN_inv {v : Vm} (h : VmOk v) (hu : v.pl.used = 0) (hl : ∀ p, p < v.pt.length → v.pt.getD p 0 = 0) (hr : v.pt.length ≤ v.pl.rm) {k : Nat} (hk : k ≤ v.pt.length) : Grown v (mpN v k) (List.range k) := by
  induction k with
  | zero => exact Grown.refl h
  | succ k ih =>
    have ih := ih (by omega)
    have hln := ih.len h
    have hz : (mpN v k).pt.getD k 0 = 0 := by
      have := ih.ma k (by omega)
      by_cases h0 : (mpN v k).pt.getD k 0 = 0
      · exact h0
      · rcases this.1 h0 with h1 | h1
        · exact absurd (hl k (by omega)) h1
        · exact absurd (List.mem_range.1 h1) (Nat.lt_irrefl _)
    have hE : (mpN v k).mpE (k : Nat) = 0 := by
      unfold Vm.mpE
      have h1 : pgE (mpN v k).pt (k : Nat) = 0 := by unfold pgE; rw [hln]; exact if_pos (by omega)
      have h2 := ih.us
      rw [List.length_range, hu] at h2
      rw [if_neg (fun h => h h1), Int.toNat_natCast, if_neg (fun h => h hz), if_neg]
      rw [ih.rm]
      omega
    rw [List.range_succ]
    exact ih.mp h hE
def stN (v : Vm) (f : Nat → Nat) : Nat → Vm
  | 0 => v
  | k + 1 => (stN v f k).st (k : Nat) (f k)
structure StGh (v v' : Vm) (f : Nat → Nat) (k : Nat) : Prop where
  ok : VmOk v'
  sm : SamePg v v'
  vl : ∀ a : Nat, a < k → v'.ldV a = f a
theorem stN_inv {v : Vm} (h : VmOk v) (hl : ∀ a : Nat, a < v.n → v.ldE a = 0) {f : Nat → Nat} (hf : ∀ a, f a < 18446744073709551616) {k : Nat} (hk : k ≤ v.n) : StGh v (stN v f k) f k := by
  induction k with
  | zero => exact ⟨h, SamePg.refl v, fun a ha => absurd ha (Nat.not_lt_zero _)⟩
  | succ k ih =>
    have ih := ih (by omega)
    have hE : (stN v f k).ldE (k : Nat) = 0 := by rw [ih.sm.ldE]; exact hl k (by omega)
    refine ⟨ih.ok.st _ (hf k), ih.sm.trans (SamePg.st _ _ _), fun a ha => ?_⟩
    show ((stN v f k).st (k : Nat) (f k)).ldV a = _
    rw [ih.ok.st_ldV _ hE]
    by_cases e : (k : Int) = a
    · rw [if_pos e]
      obtain rfl : k = a := by omega
      rfl
    · rw [if_neg e]
      exact ih.vl a (by omega)
/-- A memory of n words, all there. -/
theorem ghost {n : Nat} (h1 : 1 ≤ n) (h2 : n ≤ 4096) {f : Nat → Nat} (hf : ∀ a, f a < 18446744073709551616) : ∃ u : Vm, FullN n u ∧ ∀ a : Nat, a < n → u.ldV a = f a := by
  have hok : VmOk (Vm.new n 1 n) := VmOk.new (by unfold roomOk; simp; omega) (by decide) h1 (by omega) (Nat.mod_one n)
  have hlen : (Vm.new n 1 n).pt.length = n := by show (List.replicate (n / 1) 0).length = n; rw [List.length_replicate, Nat.div_one]
  have hm := mpN_inv hok rfl (fun p hp => by show (List.replicate (n / 1) 0).getD p 0 = 0; exact rep_getD _ _) (by rw [hlen]; exact Nat.le_refl _) (k := n) (by rw [hlen]; exact Nat.le_refl _)
  have hn : (mpN (Vm.new n 1 n) n).n = n := hm.n
  have hl : ∀ a : Nat, a < n → (mpN (Vm.new n 1 n) n).ldE a = 0 := fun a ha => by
    rw [hm.ldE hok (show a < (Vm.new n 1 n).n from ha), if_pos]
    rw [List.mem_range]
    show a / 1 < n
    rw [Nat.div_one]; exact ha
  have hs := stN_inv hm.ok (fun a ha => hl a (by rw [hn] at ha; exact ha)) hf (k := n) (by rw [hn]; exact Nat.le_refl _)
  exact ⟨_, ⟨hs.ok, hs.sm.n.trans hn, fun a ha => by rw [hs.sm.ldE]; exact hl a ha, h1⟩, hs.vl⟩
/-- What is there of a memory is there in one that has all its words. -/
theorem ghost_wider {n : Nat} {u v : Vm} (hu : FullN n u) (hn : v.n = n) (hv : ∀ a : Nat, a < n → u.ldV a = v.ldV a) : Wider v u := by
  refine ⟨hu.n.trans hn.symm, fun a ha => ?_⟩
  obtain ⟨h0, h1⟩ := ldE_in ha
  obtain ⟨j, rfl⟩ : ∃ j : Nat, a = j := ⟨a.toNat, by omega⟩
  exact ⟨hu.al j (by omega), hv j (by omega)⟩
end Go.Proofs.YtbmidhlilafgeaaGreatDoor
end
section
namespace Go.Proofs.YtbmidhlilafgeaaGreatDoor
open Go.RowKit Word

/-- An object that is reached: its header and its pointers. -/
theorem rch_obj {v : Vm} {rs : List Int} {n : Nat} (hS : Sound v rs n) {a : Int} (ha : Rch v rs a) :
    ∃ b p f k : Nat, a = b ∧ v.rdE a = 0 ∧ v.rdH a = ⟨p, f, k⟩ ∧ p + f + k ≤ 255 ∧ (b : Int) + (1 + p + f + k) ≤ n ∧ 0 < b ∧ v.osz a = 1 + (p : Int) + f + k ∧
      ∀ m : Nat, m < p → v.ldE (a + 1 + m) = 0 ∧ v.ldV (a + 1 + m) ≤ 2147483647 ∧ (v.ldV (a + 1 + m) ≠ 0 → Rch v rs (v.ldV (a + 1 + m) : Nat)) := by
  have hrd := hS.rd a ha
  obtain ⟨h0, -, p, f, k, hh, hs⟩ := rdE_zero hrd
  obtain ⟨b, rfl⟩ : ∃ b : Nat, a = b := ⟨a.toNat, by omega⟩
  have ho : v.osz b = 1 + (p : Int) + f + k := by unfold Vm.osz; rw [hh]; exact if_pos (hdrE_of hs)
  have hin := hS.rm b ha
  refine ⟨b, p, f, k, rfl, hrd, hh, hs, by omega, by omega, ho, fun m hm => ?_⟩
  have hm' : (m : Int) < (v.rdH b).p := by rw [hh]; show (m : Int) < (p : Int); omega
  have hpt := hS.pt b ha m hm'
  have he := ptV_of hpt
  refine ⟨he.2.2.1, he.2.1, fun h0 => ?_⟩
  exact ha.step ⟨hrd, m, hm', hpt, by rw [he.1]; exact h0, by rw [he.1]⟩
section
variable {w : World} {A0 A : Option Addr} {cp cr M : Nat} {v : Vm} {rs : List Int} {L : List Ob}
end
end Go.Proofs.YtbmidhlilafgeaaGreatDoor
end
section
namespace Go.Proofs.YtbmidhlilafgeaaGreatDoor
open Go.RowKit Word

/-- What a word of an object becomes. -/
def pkW (v : Vm) (L : List Ob) (fr a m : Nat) : Nat := if (1 ≤ m ∧ (m : Int) ≤ (v.rdH a).p) ∧ v.ldV ((a : Int) + m) ≠ 0 then (toV L fr (v.ldV ((a : Int) + m) : Nat)).toNat else v.ldV ((a : Int) + m)
def rowP (v : Vm) (L : List Ob) (fr : Nat) : List Ob → List Nat
  | [] => []
  | o :: r => (List.range o.2).map (pkW v L fr o.1) ++ rowP v L fr r
theorem rowP_len (v : Vm) (L : List Ob) (fr : Nat) (P : List Ob) : (rowP v L fr P).length = sizes P := by
  induction P with
  | nil => rfl
  | cons o r ih => simp only [rowP, sizes, List.length_append, List.length_map, List.length_range, ih]
theorem rowP_get (v : Vm) (L : List Ob) (fr : Nat) (P : List Ob) {j m : Nat} (hj : j < P.length) (hm : m < P[j].2) : (rowP v L fr P).getD (sizes (P.take j) + m) 0 = pkW v L fr P[j].1 m := by
  induction P generalizing j with
  | nil => simp at hj
  | cons o r ih =>
    cases j with
    | zero =>
      have hm : m < o.2 := hm
      simp only [List.take_zero, sizes, Nat.zero_add, rowP, List.getElem_cons_zero]
      rw [List.getD_eq_getElem?_getD, List.getElem?_append_left (by simpa using hm), List.getElem?_map, List.getElem?_range hm]
      rfl
    | succ j =>
      have hj' : j < r.length := by simpa using hj
      have := ih hj' (by simpa using hm)
      simp only [List.take_succ_cons, sizes, rowP, List.getElem_cons_succ]
      rw [← this, List.getD_eq_getElem?_getD, List.getElem?_append_right (by simp; omega), List.getD_eq_getElem?_getD]
      congr 2
      simp
      omega
/-- All objects lie from an address on. -/
theorem pk_le {n : Nat} {L : List Ob} (hg : Good n L) {fr : Nat} (hf : ∀ o ∈ L, fr ≤ o.1) {j : Nat} (hj : j < L.length) : fr + sizes (L.take j) ≤ L[j].1 := by
  induction j with
  | zero => simpa [sizes] using hf _ (List.getElem_mem hj)
  | succ j ih =>
    have h1 := ih (by omega)
    have h2 := hg.at (by omega) hj (Nat.lt_succ_self j)
    have h3 := sizes_take (L := L) (j := j) (by omega)
    omega
theorem rd_congr {v v' : Vm} {a : Int} (h1 : v'.ldE a = v.ldE a) (h2 : v'.ldV a = v.ldV a) : v'.rdE a = v.rdE a ∧ v'.rdH a = v.rdH a := by
  unfold Vm.rdE Vm.rdH
  rw [h1, h2]
  exact ⟨rfl, rfl⟩
/-- So many words are moved. -/
structure Pkd (v v' : Vm) (L : List Ob) (fr k : Nat) : Prop where
  ok : VmOk v'
  sm : SamePg v v'
  out : ∀ b : Nat, (b < fr ∨ fr + k ≤ b) → v'.ldV b = v.ldV b
  row : ∀ i, i < k → v'.ldV ((fr + i : Nat) : Int) = (rowP v L fr L).getD i 0
theorem Pkd.zero {v : Vm} (h : VmOk v) (L : List Ob) (fr : Nat) : Pkd v v L fr 0 := ⟨h, SamePg.refl v, fun _ _ => rfl, fun _ h => absurd h (Nat.not_lt_zero _)⟩
theorem Pkd.step {v v' : Vm} {L : List Ob} {fr k : Nat} (h : Pkd v v' L fr k) (hl : v.ldE ((fr + k : Nat) : Int) = 0) {x : Nat} (hx : x = (rowP v L fr L).getD k 0) (hx2 : x < 18446744073709551616) : Pkd v (v'.st ((fr + k : Nat) : Int) x) L fr (k + 1) := by
  have hl' : v'.ldE ((fr + k : Nat) : Int) = 0 := by rw [h.sm.ldE]; exact hl
  have hst := h.ok.st_ldV x hl'
  refine ⟨h.ok.st _ hx2, h.sm.trans (SamePg.st _ _ _), fun b hb => ?_, fun i hi => ?_⟩
  · rw [hst, if_neg (by omega)]
    exact h.out b (by omega)
  · rw [hst]
    by_cases e : i = k
    · rw [if_pos (by omega), e, hx]
    · rw [if_neg (by omega)]
      exact h.row i (by omega)
/-- What packing knows. -/
structure PkCtx (v : Vm) (rs : List Int) (L : List Ob) (fr tp : Nat) : Prop where
  ok : VmOk v
  mks : Marks v rs v.n L
  inn : ∀ o ∈ L, fr ≤ o.1 ∧ o.1 + o.2 ≤ tp
  fr1 : 1 ≤ fr
  tpn : tp ≤ v.n
  lds : ∀ a : Nat, fr ≤ a → a < fr + sizes L → v.ldE a = 0
section
variable {v v' : Vm} {rs : List Int} {L : List Ob} {fr tp : Nat}
theorem PkCtx.le (c : PkCtx v rs L fr tp) {j : Nat} (hj : j < L.length) : fr + sizes (L.take j) ≤ L[j].1 := pk_le c.mks.mkd.good (fun o ho => (c.inn o ho).1) hj
theorem PkCtx.sz (_c : PkCtx v rs L fr tp) {j : Nat} (hj : j < L.length) : sizes (L.take (j + 1)) = sizes (L.take j) + L[j].2 ∧ sizes (L.take j) + L[j].2 ≤ sizes L := by
  exact ⟨sizes_take hj, sizes_mid hj⟩
/-- An object's words, while it is moved. -/
theorem Pkd.src (c : PkCtx v rs L fr tp) {j m : Nat} (hj : j < L.length) (h : Pkd v v' L fr (sizes (L.take j) + m)) : v'.ldV ((L[j].1 + m : Nat) : Int) = v.ldV ((L[j].1 + m : Nat) : Int) ∧ v'.ldE ((L[j].1 + m : Nat) : Int) = v.ldE ((L[j].1 + m : Nat) : Int) := by
  have := c.le hj
  exact ⟨h.out _ (by omega), h.sm.ldE _⟩
theorem Pkd.hdr (c : PkCtx v rs L fr tp) {j : Nat} (hj : j < L.length) (h : Pkd v v' L fr (sizes (L.take j))) : v'.rdE (L[j].1 : Nat) = 0 ∧ v'.rdH (L[j].1 : Nat) = v.rdH (L[j].1 : Nat) := by
  obtain ⟨h1, h2⟩ := Pkd.src (m := 0) c hj h
  obtain ⟨e1, e2⟩ := rd_congr h2 h1
  exact ⟨e1.trans (c.mks.mkd.ats _ (List.getElem_mem hj)).2.1, e2⟩
/-- The header of an object. -/
theorem PkCtx.hd (c : PkCtx v rs L fr tp) {j : Nat} (hj : j < L.length) : ∃ p f k : Nat, v.rdH (L[j].1 : Nat) = ⟨p, f, k⟩ ∧ p + f + k ≤ 255 ∧ L[j].2 = 1 + p + f + k := by
  obtain ⟨h1, h2, h3⟩ := c.mks.mkd.ats _ (List.getElem_mem hj)
  obtain ⟨b, p, f, k, he, -, hh, hs, -, -, hz, -⟩ := rch_obj c.mks.sound h1
  exact ⟨p, f, k, hh, hs, by omega⟩
theorem toV_hs (c : PkCtx v rs L fr tp) {a : Int} (ha : Hs L a) : ∃ j, ∃ hj : j < L.length, (L[j].1 : Int) = a ∧ toV L fr a = ((fr + sizes (L.take j) : Nat) : Int) := by
  obtain ⟨o, ho, he⟩ := ha
  obtain ⟨j, hj, rfl⟩ := List.getElem_of_mem ho
  refine ⟨j, hj, he, ?_⟩
  have h1 := (c.mks.mkd.good.sz _ (List.getElem_mem hj)).1
  have := (toV_at c.mks.mkd.good (base := fr) hj (a := a) (by omega) (by omega)).1
  rw [this]
  omega
theorem toV_zero (c : PkCtx v rs L fr tp) : toV L fr 0 = 0 := by
  have h : ¬ findO L 0 < L.length := fun h => by
    have h1 := findO_yes h
    have h2 := (c.inn _ (List.getElem_mem h)).1
    have := c.fr1
    omega
  exact (toV_no h).1
/-- A pointer of an object is nil or an object. -/
theorem PkCtx.ptr (c : PkCtx v rs L fr tp) {j m : Nat} (hj : j < L.length) (h1 : 1 ≤ m) (h2 : (m : Int) ≤ (v.rdH (L[j].1 : Nat)).p) : v.ldV ((L[j].1 + m : Nat) : Int) ≤ 2147483647 ∧ (v.ldV ((L[j].1 + m : Nat) : Int) ≠ 0 → Hs L (v.ldV ((L[j].1 + m : Nat) : Int) : Nat)) := by
  obtain ⟨hr, -, -⟩ := c.mks.mkd.ats _ (List.getElem_mem hj)
  obtain ⟨b, p, f, k, he, -, hh, hs, -, -, hz, hp⟩ := rch_obj c.mks.sound hr
  rw [hh] at h2
  have := hp (m - 1) (by have : (m : Int) ≤ (p : Int) := h2; omega)
  rw [show ((L[j].1 : Nat) : Int) + 1 + ((m - 1 : Nat) : Int) = ((L[j].1 + m : Nat) : Int) by omega] at this
  exact ⟨this.2.1, fun h0 => c.mks.all _ (this.2.2 h0)⟩
theorem pkW_at (v : Vm) (L : List Ob) (fr a m : Nat) {x : Nat} (hx : v.ldV ((a + m : Nat) : Int) = x) : pkW v L fr a m = if (1 ≤ m ∧ (m : Int) ≤ (v.rdH a).p) ∧ x ≠ 0 then (toV L fr (x : Nat)).toNat else x := by
  unfold pkW
  rw [show (a : Int) + (m : Int) = ((a + m : Nat) : Int) by omega, hx]
theorem PkCtx.pkW_lt (c : PkCtx v rs L fr tp) {j m : Nat} (hj : j < L.length) : pkW v L fr L[j].1 m < 18446744073709551616 := by
  rw [pkW_at v L fr _ m rfl]
  have hx := c.ok.ldV_lt ((L[j].1 + m : Nat) : Int)
  split
  · rename_i h
    obtain ⟨i, hi, -, e⟩ := toV_hs c ((c.ptr hj h.1.1 h.1.2).2 h.2)
    rw [e, Int.toNat_natCast]
    have := (c.sz hi).2
    have := sizes_le c.mks.mkd.good
    have := c.ok.n2
    have := c.tpn
    have := c.le hi
    have := c.inn _ (List.getElem_mem hi)
    omega
  · exact hx
end
end Go.Proofs.YtbmidhlilafgeaaGreatDoor
end
section
namespace Go.Proofs.YtbmidhlilafgeaaGreatDoor
open Go.RowKit Word

section
variable {w : World} {S : Nat → Prop} {q F f n B : Nat} {v v' : Vm} {rs : List Int} {L : List Ob} {fr tp j : Nat}
def MoveEnd (w : World) (S : Nat → Prop) (q : Nat) (v : Vm) (L : List Ob) (fr k : Nat) (e : Ending) (w' : World) : Prop :=
  e = .returned (.tuple #[]) ∧ Touch (cutS S w) w w' ∧ ∃ v'', VmAt w' (cutS S w) q v'' ∧ Pkd v v'' L fr k
theorem kind_not {p f k : Nat} {i : Int} (h : ¬ (0 ≤ i ∧ i < p)) : kindOf ⟨p, f, k⟩ i ≠ 1 := by
  unfold kindOf
  split
  · rename_i h0
    rw [if_neg (by show ¬ i < (p : Int); omega)]
    split <;> decide
  · decide
set_option maxRecDepth 100000 in
set_option maxHeartbeats 3200000 in
theorem pk_move (hV : VmAt w S q v') (hF : ∀ W, Touch (cutS S w) w W → Fwd W F f n B fr L) (c : PkCtx v rs L fr tp) (hj : j < L.length) (hp : Pkd v v' L fr (sizes (L.take j))) :
    Calls Tryz.prog 87 #[.pointer (some ⟨q, 0, none⟩), .pointer (some ⟨f, 0, none⟩), .int .i64 (L[j].1 : Nat), .int .i64 (L[j].2 : Nat)] w (MoveEnd w S q v L fr (sizes (L.take j) + L[j].2)) := by
  obtain ⟨p, ff, k, hh, hs, hz⟩ := c.hd hj
  have hle := c.le hj
  have hin := (c.inn _ (List.getElem_mem hj)).2
  have htpn := c.tpn
  have hn2 := c.ok.n2
  have hrd := hp.hdr c hj
  rw [hh] at hrd
  obtain ⟨A, hA⟩ : ∃ A, A = L[j].1 := ⟨_, rfl⟩
  obtain ⟨Z, hZ⟩ : ∃ Z, Z = L[j].2 := ⟨_, rfl⟩
  obtain ⟨K, hK⟩ : ∃ K, K = sizes (L.take j) := ⟨_, rfl⟩
  have HTV : Hid (toV L fr (A : Nat) = ((fr + K : Nat) : Int)) := ⟨by
    rw [hA, hK]
    have h1 := (c.mks.mkd.good.sz _ (List.getElem_mem hj)).1
    have := (toV_at c.mks.mkd.good (base := fr) hj (a := ((L[j].1 : Nat) : Int)) (by omega) (by omega)).1
    rw [this]
    push_cast
    omega⟩
  have HV := hid hV.cut
  have HF := hid hF
  have HC := hid c
  have HJ := hid hj
  have HAE := hid (And.intro hA (And.intro hZ hK))
  have HP := hid hp
  have HH : Hid (v.rdH (A : Nat) = ⟨p, ff, k⟩) := ⟨by rw [hA]; exact hh⟩
  have HRD := hid (fun (W : World) (g : Gr w W) => obj_read (HV.out.gr g) (A : Int))
  rw [← hA] at hrd
  rw [hrd.1, hrd.2] at HRD
  have HTO := hid (fun (W : World) (t : Touch (cutS S w) w W) => fwd_to (hF W t) (A : Int))
  rw [HTV.out] at HTO
  obtain ⟨te, hte⟩ : ∃ te, te = toE L (A : Int) := ⟨_, rfl⟩
  rw [← hte] at HTO
  have HKD := hid (fun (W : World) (i : Int) => hdr_kind hs i W)
  have hRec := hid (fun W => Rec.new W 90 [.int .i64 p, .int .i64 ff, .int .i64 k])
  simp only [List.toArray] at hRec
  unfold hdrV at HRD HKD
  unfold spV at HRD
  have HRW : Hid (∀ m, m < Z → (rowP v L fr L).getD (K + m) 0 = pkW v L fr A m) := ⟨fun m hm => by rw [hK, hA]; exact rowP_get v L fr L hj (by rw [← hZ]; exact hm)⟩
  rw [← hA] at hle hin
  rw [← hZ] at hin hz
  rw [← hK] at hle HP
  rw [← hA, ← hZ, ← hK]
  clear hV hF c hp hh hA hZ hK hrd hte hz
  go_enter Tryz.func87, Tryz.ntmps87
  go_upto_region 1 with (go_at_call 108; refine (HRD.out _ (Gr.refl w)).mono ?_; rintro e w1 ⟨rfl, hg1⟩; have HG1 := hid hg1; clear hg1)
  obtain ⟨w2, hw2⟩ : ∃ w2, w2 = w1.alloc (.cells #[.int .i64 p, .int .i64 ff, .int .i64 k] 90) := ⟨_, rfl⟩
  have R2 := hRec.out w1
  obtain ⟨hq, hhq⟩ : ∃ hq, hq = w1.heap.size := ⟨_, rfl⟩
  have HNS : Hid (¬ cutS S w hq) := ⟨fun h => by have := h.2; have := HG1.out.size; omega⟩
  have hg2 : Gr w w2 := by rw [hw2]; exact HG1.out.alloc _
  rw [← hhq] at R2 ⊢
  rw [← hw2] at R2 ⊢
  have HR2 := hid R2
  have HG2 := hid hg2
  clear hw2 hhq HG1 R2 hg2 hRec HRD
  go_upto_region 2 with (go_at_call 89; refine (HTO.out _ (HG2.out.touch _)).mono ?_; rintro e w3 ⟨rfl, hg3⟩; have HR3 := hid (HR2.out.gr hg3); have HG3 := hid (HG2.out.trans hg3); clear hg3)
  have HV3 := hid (HV.out.gr HG3.out)
  have HT3 : Hid (Touch (cutS S w) w w3) := ⟨HG3.out.touch _⟩
  clear HG2 HR2 HTO HG3
  go_wp2_with (fail)
  go_loopw [31] (fun s31 wr => ∃ (i : Nat) (vx : Vm), i ≤ Z ∧ Hid (VmAt wr (cutS S w) q vx ∧ Pkd v vx L fr (K + i)) ∧ Hid (Touch (cutS S w) w wr) ∧ Hid (Rec wr hq 90 [.int .i64 p, .int .i64 ff, .int .i64 k]) ∧ s31 = .int .i64 i) (fun s31 _ => Z - (intOf s31).toNat)
  case atStart => exact ⟨0, v', Nat.zero_le _, ⟨⟨HV3.out, HP.out⟩⟩, HT3, HR3, rfl⟩
  case round =>
    obtain ⟨i, vx, hi, HVX, HTX, HRX, rfl⟩ := hrel
    clear HV3 HT3 HR3
    by_cases hlt : i < Z
    · have hiI : (i : Int) < (Z : Int) := by omega
      have HLT := hid hlt
      have hAi : (A : Int) + (i : Int) = ((A + i : Nat) : Int) := by push_cast; rfl
      have hTi : ((fr + K : Nat) : Int) + (i : Int) = ((fr + (K + i) : Nat) : Int) := by push_cast; omega
      have hsrc := Pkd.src (m := i) HC.out HJ.out (by rw [← HAE.out.2.2]; exact HVX.out.2)
      rw [← HAE.out.1] at hsrc
      have HLD := hid (vm_load HVX.out.1 ((A + i : Nat) : Int))
      rw [hsrc.1, hsrc.2] at HLD
      obtain ⟨el, hel⟩ : ∃ el, el = v.ldE ((A + i : Nat) : Int) := ⟨_, rfl⟩
      rw [← hel] at HLD
      have HXL : Hid (v.ldV ((A + i : Nat) : Int) < 18446744073709551616) := ⟨HC.out.ok.ldV_lt _⟩
      have HPW : Hid (pkW v L fr A i < 18446744073709551616) := ⟨by rw [HAE.out.1]; exact HC.out.pkW_lt HJ.out⟩
      have HPT : Hid (1 ≤ i → i ≤ p → v.ldV ((A + i : Nat) : Int) ≤ 2147483647 ∧ (v.ldV ((A + i : Nat) : Int) ≠ 0 → Hs L (v.ldV ((A + i : Nat) : Int) : Nat))) := ⟨fun h1 h2 => by
        rw [HAE.out.1]
        exact HC.out.ptr HJ.out h1 (by rw [← HAE.out.1, HH.out]; show (i : Int) ≤ (p : Int); omega)⟩
      have HST : Hid (∀ (W : World), Touch (cutS S w) wr W → VmAt W (cutS S w) q vx → ∀ y : Nat, y = pkW v L fr A i → Calls Tryz.prog 61 #[.pointer (some ⟨q, 0, none⟩), .int .i64 (((fr + K : Nat) : Int) + (i : Int)), .int .u64 y] W fun e w' => ∃ er, e = .returned (.int .i64 er) ∧ Touch (cutS S w) W w' ∧ ∃ v'', VmAt w' (cutS S w) q v'' ∧ Pkd v v'' L fr (K + (i + 1))) := ⟨fun W t hW y hy => by
        rw [hTi]
        refine (vm_store hW _ (x := y) (by rw [hy]; exact HPW.out)).mono ?_
        rintro e w' ⟨rfl, ht, hv⟩
        refine ⟨_, rfl, ht, _, hv, ?_⟩
        have := HVX.out.2.step (HC.out.lds _ (by omega) (by
          have h1 := (HC.out.sz HJ.out).2
          rw [← HAE.out.2.1, ← HAE.out.2.2] at h1
          omega)) (x := y) (by rw [hy]; exact (HRW.out i HLT.out).symm) (by rw [hy]; exact HPW.out)
        exact this⟩
      have HTOX : Hid (∀ (W : World) (a : Int), Touch (cutS S w) wr W → Hs L a → ∃ y : Nat, toV L fr a = (y : Int) ∧ Calls Tryz.prog 89 #[.pointer (some ⟨f, 0, none⟩), .int .i64 a] W fun e w' => ∃ er, e = .returned (.tuple #[.int .i64 y, .int .i64 er]) ∧ Gr W w') := ⟨fun W a t ha => by
        obtain ⟨j', hj', -, e⟩ := toV_hs HC.out ha
        refine ⟨fr + sizes (L.take j'), e, ?_⟩
        have := fwd_to (HF.out W (HTX.out.trans t)) a
        rw [e] at this
        refine this.mono ?_
        rintro e w' ⟨rfl, hg⟩
        exact ⟨_, rfl, hg⟩⟩
      have HPE : Hid (pkW v L fr A i = if (1 ≤ i ∧ (i : Int) ≤ (p : Int)) ∧ v.ldV ((A + i : Nat) : Int) ≠ 0 then (toV L fr (v.ldV ((A + i : Nat) : Int) : Nat)).toNat else v.ldV ((A + i : Nat) : Int)) := ⟨by rw [pkW_at v L fr A i rfl, HH.out]⟩
      obtain ⟨x, hx⟩ : ∃ x, x = v.ldV ((A + i : Nat) : Int) := ⟨_, rfl⟩
      rw [← hx] at HLD HXL HPT HPE
      rw [← hAi] at HLD
      clear hAi hTi hsrc hx hlt hel
      have hi1 : (i : Int) - 1 = ((i : Int) - 1) := rfl
      clear hi1
      have hib : (i : Int) ≤ 524288 := by omega
      by_cases hp1 : 1 ≤ i ∧ i ≤ p
      · have HK1 : Hid (kindOf ⟨p, ff, k⟩ ((i : Int) - 1) = 1) := ⟨kind_ptr (by omega) (by show (i : Int) - 1 < (p : Int); omega) (by show (p : Int) < hdrN ⟨p, ff, k⟩; rw [show hdrN ⟨p, ff, k⟩ = 1 + (p : Int) + ff + k from if_pos (hdrE_of hs)]; omega)⟩
        obtain ⟨hx31, hxh⟩ := HPT.out hp1.1 hp1.2
        by_cases hx0 : x = 0
        · subst hx0
          have HY : Hid (0 = pkW v L fr A i) := ⟨by rw [HPE.out, if_neg (fun h => h.2 rfl)]⟩
          clear hp1 hx31 hxh
          go_wp2_with (first
            | (go_at_call 64; refine HLD.out.mono ?_; rintro e w4 ⟨rfl, hg4⟩; have y0 := (HRX.out.gr hg4).cell (j := 0) rfl; have y1 := (HRX.out.gr hg4).cell (j := 1) rfl; have y2 := (HRX.out.gr hg4).cell (j := 2) rfl; have yl := (HRX.out.gr hg4).lt; have HG4 := hid hg4; clear hg4)
            | (go_at_call 154; refine (HKD.out _ _).mono ?_; rintro e w5 ⟨rfl, hg5⟩; rw [HK1.out]; have HG5 := hid (HG4.out.trans hg5); clear hg5)
            | (go_at_call 61; refine (HST.out _ ((HG5.out).touch _) (HVX.out.1.gr (HG5.out)) 0 HY.out).mono ?_; rintro e w7 ⟨er, rfl, ht7, v7, hv7, hp7⟩; have HT7 := hid ht7; have HV7 := hid (And.intro hv7 hp7); clear ht7 hv7 hp7))
          go_round
          case rel => exact ⟨i + 1, v7, HLT.out, HV7, ⟨(HTX.out.trans ((HG5.out).touch _)).trans HT7.out⟩, ⟨(HRX.out.gr (HG5.out)).touch HT7.out HNS.out⟩, by go_num⟩
          case measure => have := HLT.out; simp [intOf]; omega
        · obtain ⟨y, hy, -⟩ := HTOX.out wr (x : Int) (Touch.refl _ _) (hxh hx0)
          have HY : Hid (y = pkW v L fr A i) := ⟨by rw [HPE.out, if_pos ⟨⟨hp1.1, by omega⟩, hx0⟩, hy]; rfl⟩
          have HTQ : Hid (∀ (W : World), Touch (cutS S w) wr W → Calls Tryz.prog 89 #[.pointer (some ⟨f, 0, none⟩), .int .i64 (x : Nat)] W fun e w' => ∃ er, e = .returned (.tuple #[.int .i64 y, .int .i64 er]) ∧ Gr W w') := ⟨fun W t => by
            obtain ⟨y', hy', h⟩ := HTOX.out W (x : Int) t (hxh hx0)
            rw [hy] at hy'
            obtain rfl : y = y' := by omega
            exact h⟩
          have HYL : Hid (y < 18446744073709551616) := ⟨by rw [HY.out]; exact HPW.out⟩
          have hwy : IntKind.u64.wrap (y : Int) = (y : Int) := by have := HYL.out; rw [IntKind.wrap_u64]; omega
          have hwx : IntKind.i64.wrap (x : Int) = (x : Int) := IntWalk.i64_in _ (by omega)
          have d2 : ((x : Int) != 0) = true := by simp; exact hx0
          clear hp1 hx31 hxh hx0 hy
          go_wp2_with (first
            | (go_at_call 64; refine HLD.out.mono ?_; rintro e w4 ⟨rfl, hg4⟩; have y0 := (HRX.out.gr hg4).cell (j := 0) rfl; have y1 := (HRX.out.gr hg4).cell (j := 1) rfl; have y2 := (HRX.out.gr hg4).cell (j := 2) rfl; have yl := (HRX.out.gr hg4).lt; have HG4 := hid hg4; clear hg4)
            | (go_at_call 154; refine (HKD.out _ _).mono ?_; rintro e w5 ⟨rfl, hg5⟩; rw [HK1.out]; have HG5 := hid (HG4.out.trans hg5); clear hg5)
            | (go_at_call 89; refine (HTQ.out _ (HG5.out.touch _)).mono ?_; rintro e w6 ⟨er6, rfl, hg6⟩; have HG6 := hid (HG5.out.trans hg6); clear hg6)
            | (go_at_call 61; refine (HST.out _ ((HG6.out).touch _) (HVX.out.1.gr (HG6.out)) y HY.out).mono ?_; rintro e w7 ⟨er, rfl, ht7, v7, hv7, hp7⟩; have HT7 := hid ht7; have HV7 := hid (And.intro hv7 hp7); clear ht7 hv7 hp7))
          go_round
          case rel => exact ⟨i + 1, v7, HLT.out, HV7, ⟨(HTX.out.trans ((HG6.out).touch _)).trans HT7.out⟩, ⟨(HRX.out.gr (HG6.out)).touch HT7.out HNS.out⟩, by go_num⟩
          case measure => have := HLT.out; simp [intOf]; omega
      · obtain ⟨kd, hkd⟩ : ∃ kd, kd = kindOf ⟨p, ff, k⟩ ((i : Int) - 1) := ⟨_, rfl⟩
        have HK1 : Hid (kindOf ⟨p, ff, k⟩ ((i : Int) - 1) = kd) := ⟨hkd.symm⟩
        have hk1 : kd ≠ 1 := by rw [hkd]; exact kind_not (fun h => hp1 ⟨by omega, by omega⟩)
        have d1 : (kd == 1) = false := by simpa using hk1
        have HY : Hid (x = pkW v L fr A i) := ⟨by rw [HPE.out, if_neg (fun h => hp1 ⟨h.1.1, by have := h.1.2; omega⟩)]⟩
        clear hp1 hkd hk1
        go_wp2_with (first
          | (go_at_call 64; refine HLD.out.mono ?_; rintro e w4 ⟨rfl, hg4⟩; have y0 := (HRX.out.gr hg4).cell (j := 0) rfl; have y1 := (HRX.out.gr hg4).cell (j := 1) rfl; have y2 := (HRX.out.gr hg4).cell (j := 2) rfl; have yl := (HRX.out.gr hg4).lt; have HG4 := hid hg4; clear hg4)
          | (go_at_call 154; refine (HKD.out _ _).mono ?_; rintro e w5 ⟨rfl, hg5⟩; rw [HK1.out]; have HG5 := hid (HG4.out.trans hg5); clear hg5)
          | (go_at_call 61; refine (HST.out _ ((HG5.out).touch _) (HVX.out.1.gr (HG5.out)) x HY.out).mono ?_; rintro e w7 ⟨er, rfl, ht7, v7, hv7, hp7⟩; have HT7 := hid ht7; have HV7 := hid (And.intro hv7 hp7); clear ht7 hv7 hp7))
        go_round
        case rel => exact ⟨i + 1, v7, HLT.out, HV7, ⟨(HTX.out.trans ((HG5.out).touch _)).trans HT7.out⟩, ⟨(HRX.out.gr (HG5.out)).touch HT7.out HNS.out⟩, by go_num⟩
        case measure => have := HLT.out; simp [intOf]; omega
    · obtain rfl : i = Z := by omega
      clear hlt
      go_wp2
      refine bodyPost_end (results_none rfl _ _ _) rfl ?_
      exact ⟨rfl, HTX.out, vx, HVX.out.1, HVX.out.2⟩
end
end Go.Proofs.YtbmidhlilafgeaaGreatDoor
end
section
namespace Go.Proofs.YtbmidhlilafgeaaGreatDoor
open Go.RowKit Word

def pkArg (n fr tp room : Int) : Bool := decide (1 ≤ fr) && decide (fr ≤ tp) && decide (tp ≤ n) && decide (1 ≤ room) && decide (room ≤ 4096)
theorem pkArg_true {n fr tp room : Int} : pkArg n fr tp room = true ↔ 1 ≤ fr ∧ fr ≤ tp ∧ tp ≤ n ∧ 1 ≤ room ∧ room ≤ 4096 := by
  unfold pkArg
  simp [Bool.and_eq_true, decide_eq_true_eq, and_assoc]
theorem pkArg_false {n fr tp room : Int} (h : ¬ (1 ≤ fr ∧ fr ≤ tp ∧ tp ≤ n ∧ 1 ≤ room ∧ room ≤ 4096)) : pkArg n fr tp room = false := by
  cases hb : pkArg n fr tp room with
  | false => rfl
  | true => exact absurd (pkArg_true.1 hb) h
section
variable {w : World} {S : Nat → Prop} {q r g : Nat} {v : Vm} {rs : List Int}
set_option maxRecDepth 100000 in
set_option maxHeartbeats 1600000 in
theorem pk_check (hV : VmAt w S q v) (hn : v.n ≠ 0) (hR : RtAt w r g rs) (fr tp room : Int) : Calls Tryz.prog 82 #[.pointer (some ⟨q, 0, none⟩), .pointer (some ⟨r, 0, none⟩), .int .i64 fr, .int .i64 tp, .int .i64 room] w fun e w' => e = .returned (.int .i64 (if pkArg v.n fr tp room then 0 else 5)) ∧ w = w' := by
  have HV := hid hV
  have HWD := hid (vm_words hV)
  have HLN := hid (rt_len hR)
  have hne : rs.length ≠ 0 := fun e => hR.ne (List.eq_nil_of_length_eq_zero e)
  obtain ⟨l, hl⟩ : ∃ l, l = rs.length := ⟨_, rfl⟩
  obtain ⟨n, hnn⟩ : ∃ n, n = v.n := ⟨_, rfl⟩
  rw [← hl] at HLN hne
  rw [← hnn] at HWD hn ⊢
  have d0 : ((n : Int) == 0) = false := by simp; exact hn
  have d9 : ((l : Int) == 0) = false := by simp; exact hne
  obtain ⟨z, hz⟩ : ∃ z : Int, z = if pkArg n fr tp room then 0 else 5 := ⟨_, rfl⟩
  rw [← hz]
  have HZ := hid hz
  clear hV hR hl hnn hn hne hz
  go_enter Tryz.func82, Tryz.ntmps82
  go_upto_region 3 with (first
    | (go_at_call 33; refine HWD.out.mono ?_; rintro e w1 ⟨rfl, rfl⟩)
    | (go_at_call 63; refine HLN.out.mono ?_; rintro e w1 ⟨rfl, rfl⟩))
  clear d0 d9
  by_cases h1 : fr < 1
  · have e1 : decide (fr < 1) = true := decide_eq_true h1
    have HE := hid (pkArg_false (n := n) (fr := fr) (tp := tp) (room := room) (by omega))
    go_wp2
    go_ret
    exact ⟨ret_int (by rw [HZ.out, HE.out]; rfl), rfl⟩
  · have e1 : decide (fr < 1) = false := decide_eq_false h1
    by_cases h2 : tp < fr
    · have e2 : decide (tp < fr) = true := decide_eq_true h2
      have HE := hid (pkArg_false (n := n) (fr := fr) (tp := tp) (room := room) (by omega))
      go_wp2
      go_ret
      exact ⟨ret_int (by rw [HZ.out, HE.out]; rfl), rfl⟩
    · have e2 : decide (tp < fr) = false := decide_eq_false h2
      by_cases h3 : (n : Int) < tp
      · have e3 : decide ((n : Int) < tp) = true := decide_eq_true h3
        have HE := hid (pkArg_false (n := n) (fr := fr) (tp := tp) (room := room) (by omega))
        go_wp2_with (go_at_call 33; refine HWD.out.mono ?_; rintro e w1 ⟨rfl, rfl⟩)
        go_ret
        exact ⟨ret_int (by rw [HZ.out, HE.out]; rfl), rfl⟩
      · have e3 : decide ((n : Int) < tp) = false := decide_eq_false h3
        by_cases h4 : room < 1
        · have e4 : decide (room < 1) = true := decide_eq_true h4
          have HE := hid (pkArg_false (n := n) (fr := fr) (tp := tp) (room := room) (by omega))
          go_wp2_with (go_at_call 33; refine HWD.out.mono ?_; rintro e w1 ⟨rfl, rfl⟩)
          go_ret
          exact ⟨ret_int (by rw [HZ.out, HE.out]; rfl), rfl⟩
        · have e4 : decide (room < 1) = false := decide_eq_false h4
          by_cases h5 : 4096 < room
          · have e5 : decide (4096 < room) = true := decide_eq_true h5
            have HE := hid (pkArg_false (n := n) (fr := fr) (tp := tp) (room := room) (by omega))
            go_wp2_with (go_at_call 33; refine HWD.out.mono ?_; rintro e w1 ⟨rfl, rfl⟩)
            go_ret
            exact ⟨ret_int (by rw [HZ.out, HE.out]; rfl), rfl⟩
          · have e5 : decide (4096 < room) = false := decide_eq_false h5
            have HE := hid ((pkArg_true (n := n) (fr := fr) (tp := tp) (room := room)).2 (by omega))
            go_wp2_with (go_at_call 33; refine HWD.out.mono ?_; rintro e w1 ⟨rfl, rfl⟩)
            go_ret
            exact ⟨ret_int (by rw [HZ.out, HE.out]; rfl), rfl⟩
end
end Go.Proofs.YtbmidhlilafgeaaGreatDoor
end
