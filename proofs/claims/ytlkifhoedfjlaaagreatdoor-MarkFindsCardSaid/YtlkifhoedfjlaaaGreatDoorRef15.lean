/- The reference of layers 14 and 15: kinds, reading of objects. -/
import Derived.Test.YtlkifhoedfjlaaaGreatDoorRef14
namespace Go.Proofs.YtlkifhoedfjlaaaGreatDoor
open Go.RowKit Word
theorem tk14 {x : Nat} (_hx : x < 18446744073709551616) : tkOk x = (decide (x % 256 + x / 256 % 256 + x / 65536 % 256 ≤ 255) && decide (hdrW (x % 256) (x / 256 % 256) (x / 65536 % 256) = x)) := by
  have h1 : x % 256 + 256 * (x / 256 % 256) + 65536 * (x / 65536 % 256) = x % 16777216 := by omega
  have h2 : x % 4294967296 = x % 16777216 + 16777216 * (x % 4294967296 / 16777216) := by omega
  have h3 : x = x / 4294967296 * 4294967296 + x % 4294967296 := by omega
  unfold tkOk
  refine Bool.eq_iff_iff.2 ?_
  simp only [Bool.and_eq_true, decide_eq_true_eq]
  unfold hdrW hdrL
  generalize x % 256 = p at *
  generalize x / 256 % 256 = f at *
  generalize x / 65536 % 256 = k at *
  constructor
  · rintro ⟨⟨a, b⟩, c⟩
    exact ⟨c, by omega⟩
  · rintro ⟨c, d⟩
    exact ⟨⟨by omega, by omega⟩, c⟩
set_option maxRecDepth 100000 in
set_option maxHeartbeats 6400000 in
theorem ref14_take {x : Nat} (hx : x < 18446744073709551616) (w : World) : Calls Tryz.prog 65 #[.int .u64 (x : Nat)] w fun e w' => e = .returned (.tuple #[hdrV (tkH x), .int .i64 (tkE x)]) ∧ Gr w w' := by
  have hk := tk14 hx
  have HT : Hid (tkH x = if tkOk x then ⟨(x % 256 : Nat), (x / 256 % 256 : Nat), (x / 65536 % 256 : Nat)⟩ else ⟨0, 0, 0⟩) := ⟨rfl⟩
  have HE : Hid (tkE x = if tkOk x then 0 else 16) := ⟨rfl⟩
  have e1 : (x : Int) % 256 = ((x % 256 : Nat) : Int) := by omega
  have e2 : ((x / 256 : Nat) : Int) % 256 = ((x / 256 % 256 : Nat) : Int) := by omega
  have e3 : ((x / 65536 : Nat) : Int) % 256 = ((x / 65536 % 256 : Nat) : Int) := by omega
  have e4 : (x : Int) / 256 = ((x / 256 : Nat) : Int) := by omega
  have e5 : (x : Int) / 65536 = ((x / 65536 : Nat) : Int) := by omega
  have e6 : ((x / 256 : Nat) : Int).tmod 256 = ((x / 256 % 256 : Nat) : Int) := rfl
  have e7 : ((x / 65536 : Nat) : Int).tmod 256 = ((x / 65536 % 256 : Nat) : Int) := rfl
  have e8 : IntKind.u64.wrap ((x / 256 : Nat) : Int) = ((x / 256 : Nat) : Int) := by rw [IntKind.wrap_u64]; omega
  have e9 : IntKind.u64.wrap ((x / 65536 : Nat) : Int) = ((x / 65536 : Nat) : Int) := by rw [IntKind.wrap_u64]; omega
  have hp : x % 256 ≤ 255 := by omega
  have hf : x / 256 % 256 ≤ 255 := by omega
  have hkk : x / 65536 % 256 ≤ 255 := by omega
  generalize x % 256 = p at *
  generalize x / 256 % 256 = f at *
  generalize x / 65536 % 256 = k at *
  generalize x / 256 = y1 at *
  generalize x / 65536 = y2 at *
  have HP := hid (fun W => ref14_put hp hf hkk W)
  unfold PutEnd14 at HP
  have KL := hid (fun (W : World) (blk : Nat) (p q r : Value) => load_hdr W blk p q r)
  have HR := hid (Rec.new w 52 [.int .i64 0, .int .i64 0, .int .i64 0])
  have HR4 := hid (fun W (g : Gr ((w.alloc (.cells #[.int .i64 0, .int .i64 0, .int .i64 0] 52)).alloc (.cells #[.int .i64 p, .int .i64 f, .int .i64 k] 52)) W) => ((tk_recs (w := w) (xs := [.int .i64 0, .int .i64 0, .int .i64 0]) (ys := [.int .i64 p, .int .i64 f, .int .i64 k]) g)))
  by_cases hs : p + f + k ≤ 255
  · rw [if_pos hs] at HP
    by_cases hw : hdrW p f k = x
    · have hok : tkOk x = true := by rw [hk, decide_eq_true hs, decide_eq_true hw]; rfl
      have HH : Hid (tkH x = ⟨p, f, k⟩ ∧ tkE x = 0) := ⟨⟨by rw [HT.out, if_pos hok], by rw [HE.out, if_pos hok]⟩⟩
      rw [hw] at HP
      unfold hdrV
      rw [HH.out.1, HH.out.2]
      clear hk hw hok HT HE hs hx
      go_enter Tryz.func65, Tryz.ntmps65
      go_wp2_with (go_at_call 92; refine (HP.out _).mono ?_; rintro e w1 ⟨rfl, hg1⟩; obtain ⟨ra, rb⟩ := HR4.out _ hg1; have y0 := ra.cell (j := 0) rfl; have y1 := ra.cell (j := 1) rfl; have y2 := ra.cell (j := 2) rfl; have yf := ra.free; have x0 := rb.cell (j := 0) rfl; have x1 := rb.cell (j := 1) rfl; have x2 := rb.cell (j := 2) rfl; have HRA := hid ra; have HG1 := hid hg1; clear hg1 ra rb)
      have R3 := Rec.set (Rec.set (Rec.set HRA.out 0 (.int .i64 p)) 1 (.int .i64 f)) 2 (.int .i64 k)
      refine bodyPost_ret (v := .tuple #[.agg #[.int .i64 p, .int .i64 f, .int .i64 k], .int .i64 0]) ?_ rfl ⟨rfl, tk_gr HG1.out⟩
      rw [results_cell_tmp rfl]
      have hl := KL.out _ w.heap.size _ _ _ (R3.cell (j := 0) rfl) (R3.cell (j := 1) rfl) (R3.cell (j := 2) rfl)
      simp [asAddr, Result.andThen, hl]
    · have hok : tkOk x = false := by rw [hk, decide_eq_false hw]; simp
      have HH : Hid (tkH x = ⟨0, 0, 0⟩ ∧ tkE x = 16) := ⟨⟨by rw [HT.out, hok]; rfl, by rw [HE.out, hok]; rfl⟩⟩
      have dw : (((hdrW p f k : Nat) : Int) == (x : Int)) = false := beq_false_of_ne (fun h => hw (by omega))
      generalize hdrW p f k = y at *
      unfold hdrV
      rw [HH.out.1, HH.out.2]
      clear hk hw hok HT HE hs hx
      go_enter Tryz.func65, Tryz.ntmps65
      go_wp2_with (go_at_call 92; refine (HP.out _).mono ?_; rintro e w1 ⟨rfl, hg1⟩; obtain ⟨ra, rb⟩ := HR4.out _ hg1; have y0 := ra.cell (j := 0) rfl; have y1 := ra.cell (j := 1) rfl; have y2 := ra.cell (j := 2) rfl; have yf := ra.free; have HRA := hid ra; have HG1 := hid hg1; clear hg1 ra rb)
      have R3 := Rec.set (Rec.set (Rec.set HRA.out 0 (.int .i64 0)) 1 (.int .i64 0)) 2 (.int .i64 0)
      refine bodyPost_ret (v := .tuple #[.agg #[.int .i64 0, .int .i64 0, .int .i64 0], .int .i64 16]) ?_ rfl ⟨rfl, tk_gr HG1.out⟩
      rw [results_cell_tmp rfl]
      have hl := KL.out _ w.heap.size _ _ _ (R3.cell (j := 0) rfl) (R3.cell (j := 1) rfl) (R3.cell (j := 2) rfl)
      simp [asAddr, Result.andThen, hl]
  · rw [if_neg hs] at HP
    have hok : tkOk x = false := by rw [hk, decide_eq_false hs]; rfl
    have HH : Hid (tkH x = ⟨0, 0, 0⟩ ∧ tkE x = 16) := ⟨⟨by rw [HT.out, hok]; rfl, by rw [HE.out, hok]; rfl⟩⟩
    unfold hdrV
    rw [HH.out.1, HH.out.2]
    clear hk hok HT HE hs hx
    go_enter Tryz.func65, Tryz.ntmps65
    go_wp2_with (go_at_call 92; refine (HP.out _).mono ?_; rintro e w1 ⟨rfl, hg1⟩; obtain ⟨ra, rb⟩ := HR4.out _ hg1; have y0 := ra.cell (j := 0) rfl; have y1 := ra.cell (j := 1) rfl; have y2 := ra.cell (j := 2) rfl; have yf := ra.free; have HRA := hid ra; have HG1 := hid hg1; clear hg1 ra rb)
    have R3 := Rec.set (Rec.set (Rec.set HRA.out 0 (.int .i64 0)) 1 (.int .i64 0)) 2 (.int .i64 0)
    refine bodyPost_ret (v := .tuple #[.agg #[.int .i64 0, .int .i64 0, .int .i64 0], .int .i64 16]) ?_ rfl ⟨rfl, tk_gr HG1.out⟩
    rw [results_cell_tmp rfl]
    have hl := KL.out _ w.heap.size _ _ _ (R3.cell (j := 0) rfl) (R3.cell (j := 1) rfl) (R3.cell (j := 2) rfl)
    simp [asAddr, Result.andThen, hl]
end Go.Proofs.YtlkifhoedfjlaaaGreatDoor
