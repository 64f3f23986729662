/- Package header: Kind, Put, Take. -/
import Derived.Test.YtlkifhoedfjlaaaGreatDoorHdr
import Derived.Test.YtlkifhoedfjlaaaGreatDoorRec
import Derived.Laws.BitsAllLaws
import Derived.Laws.Bits64b
namespace Go.Proofs.YtlkifhoedfjlaaaGreatDoor
open Go.RowKit Word

/-- The low half of a header's word. -/
def hdrL (a b c : Nat) : Nat := a + 256 * b + 65536 * c + 2768240640
def hdrW (a b c : Nat) : Nat := (4294967295 - hdrL a b c) * 4294967296 + hdrL a b c
def kindOf (h : Hdr) (i : Int) : Int := if 0 ≤ i ∧ i < hdrN h - 1 then (if i < h.p then 1 else if i < h.p + h.f then 2 else 3) else 0
theorem or_mulT (a b i m : Nat) (hm : m = 2 ^ i) (h : a < m) : a ||| (b * m) = b * m + a := by
  subst hm
  rw [Nat.or_comm, ← Nat.shiftLeft_eq, Nat.shiftLeft_add_eq_or_of_lt h]
theorem u32_not (n : Nat) (hn : n < 4294967296) : bits .xor .u32 IntKind.u32.max (n : Int) = ((4294967295 - n : Nat) : Int) := by
  have h1 : (BitVec.ofInt 32 (n : Int)).toNat = n := by
    rw [BitVec.ofInt_natCast, BitVec.toNat_ofNat]; exact Nat.mod_eq_of_lt (by omega)
  have h2 : BitVec.ofInt 32 IntKind.u32.max = BitVec.allOnes 32 := by decide
  show IntKind.u32.wrap ((BitVec.ofInt 32 IntKind.u32.max ^^^ BitVec.ofInt 32 (n : Int)).toNat : Int) = _
  rw [h2, BitVec.allOnes_xor, BitVec.toNat_not, h1, IntKind.wrap_u32]
  omega
theorem hdrL_bits {a b c : Nat} (hs : a + b + c ≤ 255) : bits .or .u32 (bits .or .u32 (bits .or .u32 (a : Int) ((b : Int) * 256)) ((c : Int) * 65536)) 2768240640 = ((hdrL a b c : Nat) : Int) := by
  have e1 : ((b : Int) * 256) = ((b * 256 : Nat) : Int) := by omega
  have e2 : ((c : Int) * 65536) = ((c * 65536 : Nat) : Int) := by omega
  have e3 : (2768240640 : Int) = ((165 * 16777216 : Nat) : Int) := by omega
  rw [e1, e2, e3, u32_or_nat a (b * 256) (by omega) (by omega), or_mulT a b 8 256 (by decide) (by omega), u32_or_nat _ (c * 65536) (by omega) (by omega), or_mulT _ c 16 65536 (by decide) (by omega), u32_or_nat _ (165 * 16777216) (by omega) (by omega), or_mulT _ 165 24 16777216 (by decide) (by omega)]
  unfold hdrL
  omega
theorem hdrL_lt {a b c : Nat} (hs : a + b + c ≤ 255) : hdrL a b c < 4294967296 := by unfold hdrL; omega
theorem hdrW_bits {n : Nat} (hn : n < 4294967296) : bits .or .u64 (((4294967295 - n : Nat) : Int) * 4294967296) (n : Int) = (((4294967295 - n) * 4294967296 + n : Nat) : Int) := by
  have e1 : (((4294967295 - n : Nat) : Int) * 4294967296) = (((4294967295 - n) * 4294967296 : Nat) : Int) := by omega
  rw [e1, bits_or_u64_nat _ _ (by omega) (by omega), Nat.or_comm, or_mulT _ _ 32 4294967296 (by decide) hn]
set_option maxRecDepth 100000 in
set_option maxHeartbeats 1600000 in
theorem hdr_put_ok {a b c : Nat} (hs : a + b + c ≤ 255) (w : World) : Calls Tryz.prog 45 #[hdrV ⟨a, b, c⟩] w fun e w' => e = .returned (.tuple #[.int .u64 (hdrW a b c : Nat), .int .i64 0]) ∧ Gr w w' := by
  have HC := hid (fun W => hdr_check ⟨a, b, c⟩ W)
  have HE := hid (hdrE_of hs)
  have f1 := hdrL_bits hs
  have hn := hdrL_lt hs
  have HW : Hid (hdrW a b c = (4294967295 - hdrL a b c) * 4294967296 + hdrL a b c) := ⟨rfl⟩
  obtain ⟨n, hnn⟩ : ∃ n, n = hdrL a b c := ⟨_, rfl⟩
  rw [← hnn] at f1 hn HW
  have f2 := u32_not n hn
  have f3 := hdrW_bits hn
  have f4 : IntKind.u64.wrap (((4294967295 - n : Nat) : Int)) = ((4294967295 - n : Nat) : Int) := by rw [IntKind.wrap_u64]; omega
  have f5 : IntKind.u64.wrap (((4294967295 - n : Nat) : Int) * 4294967296) = ((4294967295 - n : Nat) : Int) * 4294967296 := by rw [IntKind.wrap_u64]; omega
  have f6 : IntKind.u64.wrap (n : Int) = (n : Int) := by rw [IntKind.wrap_u64]; omega
  generalize 4294967295 - n = m at f2 f3 f4 f5 HW
  clear hnn hn
  unfold hdrV at HC ⊢
  go_enter Tryz.func45, Tryz.ntmps45
  go_wp2_with (go_at_call 48; refine (HC.out _).mono ?_; rintro e w1 ⟨rfl, hg1⟩; rw [HE.out]; have hl := (Gr.refl w).alloc (.cells #[.int .i64 a, .int .i64 b, .int .i64 c] 52); have k0 := (hg1.cell (b := w.heap.size) (by simp) 0).trans (World.cell?_alloc_at _ _ _ 0 rfl); have k1 := (hg1.cell (b := w.heap.size) (by simp) 1).trans (World.cell?_alloc_at _ _ _ 1 rfl); have k2 := (hg1.cell (b := w.heap.size) (by simp) 2).trans (World.cell?_alloc_at _ _ _ 2 rfl); have HG1 := hid (hl.trans hg1); clear hg1 hl)
  go_ret2
  exact ⟨ret2 (by rw [HW.out]; rfl) rfl, HG1.out⟩
/-- Whether a word is a header's, and the header. -/
def tkOk (x : Nat) : Bool := decide (x % 4294967296 / 16777216 = 165) && decide (x / 4294967296 = 4294967295 - x % 4294967296) && decide (x % 256 + x / 256 % 256 + x / 65536 % 256 ≤ 255)
def tkH (x : Nat) : Hdr := if tkOk x then ⟨(x % 256 : Nat), (x / 256 % 256 : Nat), (x / 65536 % 256 : Nat)⟩ else ⟨0, 0, 0⟩
def tkE (x : Nat) : Int := if tkOk x then 0 else 16
theorem u32_low (n : Nat) (hn : n < 4294967296) : bits .and .u32 (n : Int) 255 = ((n % 256 : Nat) : Int) := by
  rw [show (255 : Int) = ((255 : Nat) : Int) from rfl, u32_and_nat n 255 hn (by omega)]
  have : n &&& 255 = n % 256 := Nat.and_two_pow_sub_one_eq_mod n 8
  skip
  rw [this]
theorem load_hdr (W : World) (blk : Nat) (p q r : Value) (h0 : W.cell? ⟨blk, 0, none⟩ = some p) (h1 : W.cell? ⟨blk, 1, none⟩ = some q) (h2 : W.cell? ⟨blk, 2, none⟩ = some r) : (loadVar 52 ⟨blk, 0, none⟩).run Tryz.prog W = .ok (.agg #[p, q, r]) W := by
  have a1 : (isAgg 52).run Tryz.prog W = .ok true W := by kernel_rfl
  have a2 : (sizeOf 52).run Tryz.prog W = .ok 3 W := by kernel_rfl
  simp [loadVar, Sem.run_bind, a1, a2, Result.andThen, loadCells, go_sem, h0, h1, h2]
theorem tk_recs {w w1 : World} {xs ys : List Value} (hg : Gr ((w.alloc (.cells xs.toArray 52)).alloc (.cells ys.toArray 52)) w1) : Rec w1 w.heap.size 52 xs ∧ Rec w1 (w.heap.size + 1) 52 ys := by
  refine ⟨((Rec.new w _ xs).gr ((Gr.refl _).alloc _)).gr hg, ?_⟩
  have := (Rec.new (w.alloc (.cells xs.toArray 52)) 52 ys).gr hg
  rw [World.size_alloc] at this
  exact this
theorem tk_gr {w w1 : World} {o o2 : Obj} (hg : Gr ((w.alloc o).alloc o2) w1) {x y z : Value} : Gr w (((w1.setCell ⟨w.heap.size, 0, none⟩ x).setCell ⟨w.heap.size, 1, none⟩ y).setCell ⟨w.heap.size, 2, none⟩ z) := by
  have h1 : Touch (fun k => w.heap.size ≤ k) w w1 := ((((Gr.refl w).alloc o).alloc o2).trans hg).touch _
  have h2 := ((h1.setCell (a := ⟨w.heap.size, 0, none⟩) (fun _ => Nat.le_refl _) x).setCell (a := ⟨w.heap.size, 1, none⟩) (fun _ => Nat.le_refl _) y).setCell (a := ⟨w.heap.size, 2, none⟩) (fun _ => Nat.le_refl _) z
  exact (h2.mono (fun k hk h => by omega)).gr
set_option maxRecDepth 100000 in
set_option maxHeartbeats 1600000 in
theorem hdr_take {x : Nat} (hx : x < 18446744073709551616) (w : World) : Calls Tryz.prog 105 #[.int .u64 x] w fun e w' => e = .returned (.tuple #[hdrV (tkH x), .int .i64 (tkE x)]) ∧ Gr w w' := by
  obtain ⟨n, hn⟩ : ∃ n, n = x % 4294967296 := ⟨_, rfl⟩
  obtain ⟨h, hh⟩ : ∃ h, h = x / 4294967296 := ⟨_, rfl⟩
  obtain ⟨a, ha⟩ : ∃ a, a = n % 256 := ⟨_, rfl⟩
  obtain ⟨b, hb⟩ : ∃ b, b = n / 256 % 256 := ⟨_, rfl⟩
  obtain ⟨c, hc⟩ : ∃ c, c = n / 65536 % 256 := ⟨_, rfl⟩
  obtain ⟨d, hd⟩ : ∃ d, d = n / 16777216 := ⟨_, rfl⟩
  obtain ⟨m, hm⟩ : ∃ m, m = 4294967295 - n := ⟨_, rfl⟩
  have hnl : n < 4294967296 := by omega
  have HT : Hid (tkOk x = (decide (d = 165) && decide (h = m) && decide (a + b + c ≤ 255)) ∧ tkH x = if tkOk x then ⟨(a : Nat), (b : Nat), (c : Nat)⟩ else ⟨0, 0, 0⟩) := ⟨by
    have e1 : x % 256 = a := by omega
    have e2 : x / 256 % 256 = b := by omega
    have e3 : x / 65536 % 256 = c := by omega
    unfold tkH tkOk
    rw [e1, e2, e3, ← hn, ← hd, ← hh, ← hm]
    exact ⟨rfl, rfl⟩⟩
  have g0 : (x : Int) % 4294967296 = (n : Int) := by omega
  have g5 : (x : Int) / 4294967296 = (h : Int) := by omega
  have g1 : bits .and .u32 (n : Int) 255 = (a : Int) := by rw [u32_low n hnl, ha]
  have g2 : bits .and .u32 ((n : Int) / 256) 255 = (b : Int) := by
    rw [show (n : Int) / 256 = ((n / 256 : Nat) : Int) by omega, u32_low _ (by omega), hb]
  have g3 : bits .and .u32 ((n : Int) / 65536) 255 = (c : Int) := by
    rw [show (n : Int) / 65536 = ((n / 65536 : Nat) : Int) by omega, u32_low _ (by omega), hc]
  have g4 : (n : Int) / 16777216 = (d : Int) := by omega
  have g6 : bits .xor .u32 IntKind.u32.max (n : Int) = (m : Int) := by rw [u32_not n hnl, hm]
  have ba : a ≤ 255 := by omega
  have bb : b ≤ 255 := by omega
  have bc : c ≤ 255 := by omega
  have HC := hid (fun W => hdr_check ⟨a, b, c⟩ W)
  have hEE : hdrE ⟨a, b, c⟩ = if a + b + c ≤ 255 then 0 else 15 := by
    unfold hdrE inS
    simp only []
    rw [decide_eq_true (by omega), decide_eq_true (by omega), decide_eq_true (by omega)]
    by_cases h : a + b + c ≤ 255
    · rw [if_pos h, decide_eq_true (by omega)]; rfl
    · rw [if_neg h, decide_eq_false (by omega)]; rfl
  have HEE := hid hEE
  clear hEE
  unfold hdrV at HC
  have KL := hid (show ∀ (W : World) (blk : Nat) (p q r : Value), W.cell? ⟨blk, 0, none⟩ = some p → W.cell? ⟨blk, 1, none⟩ = some q → W.cell? ⟨blk, 2, none⟩ = some r → (loadVar 52 ⟨blk, 0, none⟩).run Tryz.prog W = .ok (.agg #[p, q, r]) W by
    intro W blk p q r h0 h1 h2
    exact load_hdr W blk p q r h0 h1 h2)
  clear hn hh ha hb hc hd hm hnl
  by_cases t1 : d = 165
  · have HT1 := hid t1
    have d1 : ((d : Int) != 165) = false := by rw [t1]; rfl
    by_cases t2 : h = m
    · have HT2 := hid t2
      have d2 : ((h : Int) != (m : Int)) = false := by rw [t2]; simp
      have d3 : ¬ ¬ ((h : Int) = bits .xor .u32 IntKind.u32.max (n : Int)) := by rw [g6, t2]; simp
      by_cases t3 : a + b + c ≤ 255
      · have HK : Hid (hdrE ⟨a, b, c⟩ = 0) := ⟨by rw [HEE.out, if_pos t3]⟩
        have HE : Hid (tkH x = ⟨(a : Nat), (b : Nat), (c : Nat)⟩ ∧ tkE x = 0) := ⟨by
          have : tkOk x = true := by rw [HT.out.1, decide_eq_true t1, decide_eq_true t2, decide_eq_true t3]; rfl
          unfold tkE; rw [HT.out.2, this]; exact ⟨rfl, rfl⟩⟩
        clear t1 t2 t3 HT
        go_enter Tryz.func105, Tryz.ntmps105
        go_wp2_with (go_at_call 48; refine (HC.out _).mono ?_; rintro e w1 ⟨rfl, hg1⟩; rw [HK.out]; obtain ⟨r1, r2⟩ := tk_recs (xs := [.int .i64 0, .int .i64 0, .int .i64 0]) (ys := [.int .i64 a, .int .i64 b, .int .i64 c]) hg1; have k0 := r1.cell (j := 0) rfl; have k1 := r1.cell (j := 1) rfl; have k2 := r1.cell (j := 2) rfl; have kf := r1.free; have k3 := r2.cell (j := 0) rfl; have k4 := r2.cell (j := 1) rfl; have k5 := r2.cell (j := 2) rfl; have HR1 := hid r1; have HG1 := hid hg1; clear hg1 r1 r2)
        have R3 := Rec.set (Rec.set (Rec.set HR1.out 0 (.int .i64 a)) 1 (.int .i64 b)) 2 (.int .i64 c)
        refine bodyPost_ret (v := .tuple #[hdrV ⟨a, b, c⟩, .int .i64 0]) ?_ rfl ?_
        · rw [results_cell_tmp rfl]
          have hl := KL.out _ w.heap.size _ _ _ (R3.cell (j := 0) rfl) (R3.cell (j := 1) rfl) (R3.cell (j := 2) rfl)
          simp [asAddr, Result.andThen, hl, hdrV]
        · exact ⟨by rw [HE.out.1, HE.out.2], tk_gr HG1.out⟩
      · have HK : Hid (hdrE ⟨a, b, c⟩ = 15) := ⟨by rw [HEE.out, if_neg t3]⟩
        have HE : Hid (tkH x = ⟨0, 0, 0⟩ ∧ tkE x = 16) := ⟨by
          have : tkOk x = false := by rw [HT.out.1, decide_eq_false t3]; simp
          unfold tkE; rw [HT.out.2, this]; exact ⟨rfl, rfl⟩⟩
        clear t1 t2 t3 HT
        go_enter Tryz.func105, Tryz.ntmps105
        go_wp2_with (go_at_call 48; refine (HC.out _).mono ?_; rintro e w1 ⟨rfl, hg1⟩; rw [HK.out]; obtain ⟨r1, r2⟩ := tk_recs (xs := [.int .i64 0, .int .i64 0, .int .i64 0]) (ys := [.int .i64 a, .int .i64 b, .int .i64 c]) hg1; have k0 := r1.cell (j := 0) rfl; have k1 := r1.cell (j := 1) rfl; have k2 := r1.cell (j := 2) rfl; have kf := r1.free; have k3 := r2.cell (j := 0) rfl; have k4 := r2.cell (j := 1) rfl; have k5 := r2.cell (j := 2) rfl; have HR1 := hid r1; have HG1 := hid hg1; clear hg1 r1 r2)
        have R3 := Rec.set (Rec.set (Rec.set HR1.out 0 (.int .i64 0)) 1 (.int .i64 0)) 2 (.int .i64 0)
        refine bodyPost_ret (v := .tuple #[hdrV ⟨0, 0, 0⟩, .int .i64 16]) ?_ rfl ?_
        · rw [results_cell_tmp rfl]
          have hl := KL.out _ w.heap.size _ _ _ (R3.cell (j := 0) rfl) (R3.cell (j := 1) rfl) (R3.cell (j := 2) rfl)
          simp [asAddr, Result.andThen, hl, hdrV]
        · exact ⟨by rw [HE.out.1, HE.out.2], tk_gr HG1.out⟩
    · have d2 : ((h : Int) != (m : Int)) = true := by simp; omega
      have d3 : ¬ ((h : Int) = bits .xor .u32 IntKind.u32.max (n : Int)) := by rw [g6]; omega
      have HE : Hid (tkH x = ⟨0, 0, 0⟩ ∧ tkE x = 16) := ⟨by
        have : tkOk x = false := by rw [HT.out.1, decide_eq_false t2]; simp
        unfold tkE; rw [HT.out.2, this]; exact ⟨rfl, rfl⟩⟩
      clear t1 t2 HT
      go_enter Tryz.func105, Tryz.ntmps105
      go_wp2
      refine bodyPost_ret (v := .tuple #[hdrV ⟨0, 0, 0⟩, .int .i64 16]) ?_ rfl ?_
      · rw [results_cell_tmp rfl]
        simp [asAddr, Result.andThen, go_sem]
        rfl
      · exact ⟨by rw [HE.out.1, HE.out.2], ((Gr.refl w).alloc _).alloc _⟩
  · have d1 : ((d : Int) != 165) = true := by simp; omega
    have d3 : ¬ ((d : Int) = 165) := by omega
    have d4 : ¬ ((n : Int) / 16777216 = 165) := by omega
    have HE : Hid (tkH x = ⟨0, 0, 0⟩ ∧ tkE x = 16) := ⟨by
      have : tkOk x = false := by rw [HT.out.1, decide_eq_false t1]; simp
      unfold tkE; rw [HT.out.2, this]; exact ⟨rfl, rfl⟩⟩
    clear t1 HT
    go_enter Tryz.func105, Tryz.ntmps105
    go_wp2
    refine bodyPost_ret (v := .tuple #[hdrV ⟨0, 0, 0⟩, .int .i64 16]) ?_ rfl ?_
    · rw [results_cell_tmp rfl]
      simp [asAddr, Result.andThen, go_sem]
      rfl
    · exact ⟨by rw [HE.out.1, HE.out.2], ((Gr.refl w).alloc _).alloc _⟩
set_option maxRecDepth 100000 in
set_option maxHeartbeats 1600000 in
theorem hdr_kind {a b c : Nat} (hs : a + b + c ≤ 255) (i : Int) (w : World) : Calls Tryz.prog 111 #[hdrV ⟨a, b, c⟩, .int .i64 i] w fun e w' => e = .returned (.int .i64 (kindOf ⟨a, b, c⟩ i)) ∧ Gr w w' := by
  have hN : hdrN ⟨a, b, c⟩ = 1 + (a : Int) + b + c := if_pos (hdrE_of hs)
  have HZ := hid (fun W => hdr_size ⟨a, b, c⟩ W)
  have HK : Hid (kindOf ⟨a, b, c⟩ i = if 0 ≤ i ∧ i < (a : Int) + b + c then (if i < a then 1 else if i < (a : Int) + b then 2 else 3) else 0) := ⟨by
    unfold kindOf
    rw [hN]
    simp only []
    by_cases h : 0 ≤ i ∧ i < (a : Int) + b + c
    · rw [if_pos h, if_pos (by omega)]
    · rw [if_neg h, if_neg (by omega)]⟩
  rw [hN] at HZ
  unfold hdrV at HZ ⊢
  clear hN
  by_cases h0 : i < 0
  · have d0 : decide (i < 0) = true := decide_eq_true h0
    have HE : Hid (kindOf ⟨a, b, c⟩ i = 0) := ⟨by rw [HK.out, if_neg (by omega)]⟩
    clear HK
    go_enter Tryz.func111, Tryz.ntmps111
    go_wp2
    go_ret
    exact ⟨ret_int (by rw [HE.out]), (Gr.refl w).alloc _⟩
  · have d0 : decide (i < 0) = false := decide_eq_false h0
    by_cases h1 : (a : Int) + b + c ≤ i
    · have HE : Hid (kindOf ⟨a, b, c⟩ i = 0) := ⟨by rw [HK.out, if_neg (by omega)]⟩
      have d1 : decide (1 + (a : Int) + b + c - 1 ≤ i) = true := decide_eq_true (by omega)
      clear HK
      go_enter Tryz.func111, Tryz.ntmps111
      go_wp2_with (go_at_call 18; refine (HZ.out _).mono ?_; rintro e w1 ⟨rfl, hg1⟩; have HG1 := hid (((Gr.refl w).alloc _).trans hg1); clear hg1)
      go_ret
      exact ⟨ret_int (by rw [HE.out]), HG1.out⟩
    · have d1 : decide (1 + (a : Int) + b + c - 1 ≤ i) = false := decide_eq_false (by omega)
      have HE : Hid (kindOf ⟨a, b, c⟩ i = if i < a then 1 else if i < (a : Int) + b then 2 else 3) := ⟨by rw [HK.out, if_pos (by omega)]⟩
      clear HK
      by_cases h2 : i < a
      · have d2 : decide (i < (a : Int)) = true := decide_eq_true h2
        go_enter Tryz.func111, Tryz.ntmps111
        go_wp2_with (go_at_call 18; refine (HZ.out _).mono ?_; rintro e w1 ⟨rfl, hg1⟩; have k0 := (hg1.cell (b := w.heap.size) (by simp) 0).trans (World.cell?_alloc_at _ _ _ 0 rfl); have k1 := (hg1.cell (b := w.heap.size) (by simp) 1).trans (World.cell?_alloc_at _ _ _ 1 rfl); have HG1 := hid (((Gr.refl w).alloc _).trans hg1); clear hg1)
        go_ret
        exact ⟨ret_int (by rw [HE.out, if_pos h2]), HG1.out⟩
      · have d2 : decide (i < (a : Int)) = false := decide_eq_false h2
        by_cases h3 : i < (a : Int) + b
        · have d3 : decide (i < (a : Int) + (b : Int)) = true := decide_eq_true h3
          go_enter Tryz.func111, Tryz.ntmps111
          go_wp2_with (go_at_call 18; refine (HZ.out _).mono ?_; rintro e w1 ⟨rfl, hg1⟩; have k0 := (hg1.cell (b := w.heap.size) (by simp) 0).trans (World.cell?_alloc_at _ _ _ 0 rfl); have k1 := (hg1.cell (b := w.heap.size) (by simp) 1).trans (World.cell?_alloc_at _ _ _ 1 rfl); have HG1 := hid (((Gr.refl w).alloc _).trans hg1); clear hg1)
          go_ret
          exact ⟨ret_int (by rw [HE.out, if_neg (by omega), if_pos h3]), HG1.out⟩
        · have d3 : decide (i < (a : Int) + (b : Int)) = false := decide_eq_false h3
          go_enter Tryz.func111, Tryz.ntmps111
          go_wp2_with (go_at_call 18; refine (HZ.out _).mono ?_; rintro e w1 ⟨rfl, hg1⟩; have k0 := (hg1.cell (b := w.heap.size) (by simp) 0).trans (World.cell?_alloc_at _ _ _ 0 rfl); have k1 := (hg1.cell (b := w.heap.size) (by simp) 1).trans (World.cell?_alloc_at _ _ _ 1 rfl); have HG1 := hid (((Gr.refl w).alloc _).trans hg1); clear hg1)
          go_ret
          exact ⟨ret_int (by rw [HE.out, if_neg (by omega), if_neg (by omega)]), HG1.out⟩
end Go.Proofs.YtlkifhoedfjlaaaGreatDoor
