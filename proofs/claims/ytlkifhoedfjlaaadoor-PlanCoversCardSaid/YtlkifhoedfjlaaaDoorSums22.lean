/- ForwardSums: the walk. -/
import Derived.Test.YtlkifhoedfjlaaaDoorLive22
import Derived.Test.YtlkifhoedfjlaaaDoorK4
namespace Go.Proofs.YtlkifhoedfjlaaaDoor
open Go.RowKit Word

theorem bd_w16 {n : Int} (h : (Lit.int .u16 n).wf = true) : 0 ≤ n ∧ n ≤ 65535 := by
  simpa [Lit.wf, IntKind.min, IntKind.max, IntKind.signed, IntKind.bits] using h
/-- 1 << (blk % 11) is a block size. -/
theorem shl_block (blk : Nat) : ∃ B : Nat, wrap64 (2 ^ (blk % 11)) = (B : Int) ∧ blockOk B = true ∧ 1 ≤ B ∧ B ≤ 1024 := by
  have hr : blk % 11 = 0 ∨ blk % 11 = 1 ∨ blk % 11 = 2 ∨ blk % 11 = 3 ∨ blk % 11 = 4 ∨ blk % 11 = 5 ∨ blk % 11 = 6 ∨ blk % 11 = 7 ∨ blk % 11 = 8 ∨ blk % 11 = 9 ∨ blk % 11 = 10 := by omega
  rcases hr with hr | hr | hr | hr | hr | hr | hr | hr | hr | hr | hr <;> rw [hr]
  · exact ⟨1, by decide +kernel, by decide, by decide, by decide⟩
  · exact ⟨2, by decide +kernel, by decide, by decide, by decide⟩
  · exact ⟨4, by decide +kernel, by decide, by decide, by decide⟩
  · exact ⟨8, by decide +kernel, by decide, by decide, by decide⟩
  · exact ⟨16, by decide +kernel, by decide, by decide, by decide⟩
  · exact ⟨32, by decide +kernel, by decide, by decide, by decide⟩
  · exact ⟨64, by decide +kernel, by decide, by decide, by decide⟩
  · exact ⟨128, by decide +kernel, by decide, by decide, by decide⟩
  · exact ⟨256, by decide +kernel, by decide, by decide, by decide⟩
  · exact ⟨512, by decide +kernel, by decide, by decide, by decide⟩
  · exact ⟨1024, by decide +kernel, by decide, by decide, by decide⟩
set_option maxRecDepth 100000 in
set_option maxHeartbeats 3200000 in
theorem sums22_in {W : World} (hT : TabAt W) (A : Option Addr) (cap : Nat) (l : List Nat) (hB : BytesAt W A l) (hl : l.length ≤ 100) (blk : Nat) (hblk : blk ≤ 255) (base : Nat) (hbase : base ≤ 65535) :
    Gets Tryd.prog 4 #[.slice A l.length cap, .int .u8 blk, .int .u16 base] W (.bool true) := by
  have HT := hid hT
  have HB := hid hB
  have htl := hT.lt
  have d2 : decide ((100 : Int) < (l.length : Int)) = false := by simp; omega
  obtain ⟨B, hsh, hbk, hb1, hb2⟩ := shl_block blk
  have HSH := hid hsh
  have HBK : Hid ((blockOk B && baseOk base) = true) := ⟨by rw [hbk]; unfold baseOk; rw [decide_eq_true (by omega), decide_eq_true (by omega)]; rfl⟩
  clear hT hB hbk hsh
  unfold Gets
  go_enter Tryd.func4, Tryd.ntmps4
  go_upto_region 8 with (first
    | (go_at_call 21; refine (lay_walk HT.out 1500 (by decide) (by decide) _ _ l HB.out hl).mono ?_; rintro e w1 ⟨m, p1, b1, p2, b2, A', c', rfl, hg1, hE1, hO1, -, -⟩; have HG1 := hid hg1; have HE1 := hid hE1; have HO1 := hid hO1; clear hg1 hE1 hO1)
    | (go_at_call 22; rw [HSH.out]; refine (fwd_new HE1.out (HG1.out.tab htl HT.out) B base (by omega)).mono ?_; rintro e w2 ⟨hg2, ⟨hb, -⟩ | ⟨-, f, B', base', hB', hbs', rfl, hO⟩⟩; (rw [HBK.out] at hb; cases hb); (obtain rfl : B = B' := (by omega)); (obtain rfl : base = base' := (by omega)); have HO2 := hid hO; have HG2 := hid (HG1.out.trans hg2); have HL2 := hid (HO1.out.gr hg2); clear hO hg2 hB' hbs'))
  have hgood := HE1.out.good
  obtain ⟨L, hL⟩ : ∃ L, L = layL2 1500 l := ⟨_, rfl⟩
  rw [← hL] at HO2 HL2 hgood ⊢
  clear HE1 HO1
  clear hL
  have hsl := sizes_le hgood
  have hlen := hgood.len
  go_wp2
  go_loopw [11, 44] (fun s10 i wr => ∃ j al : Nat, j ≤ L.length ∧ Hid (al = base + sizes (L.take j)) ∧ Hid (Gr w2 wr) ∧ s10 = .int .i64 al ∧ i = .int .i64 j) (fun _ i _ => L.length - (intOf i).toNat)
  case atStart => exact ⟨0, base, Nat.zero_le _, ⟨rfl⟩, ⟨Gr.refl _⟩, rfl, rfl⟩
  case round =>
    obtain ⟨j, al, hj, hal, hgr, rfl, rfl⟩ := hrel
    by_cases hjl : j < L.length
    · obtain ⟨g, rfl, hgl, q1, q2⟩ := HL2.out j hjl
      have q1 := (hgr.out.cell hgl _).trans q1
      have q2 := (hgr.out.cell hgl _).trans q2
      have hsz := hgood.sz _ (List.getElem_mem hjl)
      have htk := sizes_take hjl
      have hmid := sizes_mid hjl
      have HIN := hid (fun b h1 h2 => from_at (L := L) (base := base) (b := b) hjl h1 h2)
      have HTO := hid (fun a h1 h2 => toV_at hgood (base := base) (a := a) hjl h1 h2)
      have HTK := hid (show al + L[j].2 = base + sizes (L.take (j + 1)) from by rw [htk, hal.out]; omega)
      have hale := hal.out
      have halb : al + L[j].2 ≤ 67035 := by omega
      generalize L[j].1 = sj at *
      generalize L[j].2 = zj at *
      obtain ⟨wa, hwa⟩ : ∃ wa, wa = wr.alloc (.cells #[.int .i64 sj, .int .i64 zj] 45) := ⟨_, rfl⟩
      have hga : Gr wr wa := by rw [hwa]; exact (Gr.refl wr).alloc _
      have x0 : wa.cell? ⟨wr.heap.size, 0, none⟩ = some (.int .i64 sj) := by rw [hwa]; exact World.cell?_alloc_new ..
      have x1 : wa.cell? ⟨wr.heap.size, 1, none⟩ = some (.int .i64 zj) := by rw [hwa]; exact World.cell?_alloc_new ..
      have HW := hid hwa
      have HGA := hid (hgr.out.trans hga)
      clear hwa hga htk hale hmid
      go_upto_region 11 with (fail)
      rw [← HW.out]
      go_wp2
      go_loopw [50] (fun i w3 => ∃ r : Nat, r ≤ zj ∧ Hid (Gr wa w3) ∧ i = .int .i64 r) (fun i _ => zj - (intOf i).toNat)
      case atStart => exact ⟨0, Nat.zero_le _, ⟨Gr.refl _⟩, rfl⟩
      case round =>
        rename World => w3
        obtain ⟨r, hr, hg3, rfl⟩ := hrel
        by_cases hrz : r < zj
        · have HG3 := hid (HGA.out.trans hg3.out)
          have c3 := (hg3.out.cell (b := wr.heap.size) (lt_cell x0) 0).trans x0
          have E1 : Hid (toV L base ((sj : Int) + (r : Int)) = (al : Int) + (r : Int) ∧ toE L ((sj : Int) + (r : Int)) = 0) := ⟨by
            have := HTO.out ((sj : Int) + (r : Int)) (by omega) (by omega)
            have e := hal.out
            exact ⟨by rw [this.1, e]; push_cast; omega, this.2⟩⟩
          have E2 : Hid (fromV L base ((al : Int) + (r : Int)) = (sj : Int) + (r : Int) ∧ fromE L base ((al : Int) + (r : Int)) = 0) := ⟨by
            have e := hal.out
            have := HIN.out ((al : Int) + (r : Int)) (by omega) (by omega)
            exact ⟨by rw [this.1]; omega, this.2.2⟩⟩
          go_wp2_with (first
            | (go_at_call 23; refine (fwd_to (HO2.out.gr HG3.out) _).mono ?_; rintro e w4 ⟨rfl, hg4⟩; rw [E1.out.1, E1.out.2]; have c4 := (hg4.cell (b := wr.heap.size) (lt_cell c3) 0).trans c3; have HG4 := hid (HG3.out.trans hg4); have HG5 := hid (hg3.out.trans hg4); clear hg4)
            | (go_at_call 24; refine (fwd_from (HO2.out.gr HG4.out) ((HG2.out.trans HG4.out).tab htl HT.out) _ (by omega)).mono ?_; rintro e w5 ⟨rfl, hg5⟩; rw [E2.out.1, E2.out.2]; have c5 := (hg5.cell (b := wr.heap.size) (lt_cell c4) 0).trans c4; have HG7 := hid (HG5.out.trans hg5); clear hg5))
          go_roundw
          case rel => exact ⟨r + 1, by omega, HG7, by go_num⟩
          case measure => simp [intOf]; omega
        · obtain rfl : r = zj := by omega
          have HG3 := hid (HGA.out.trans hg3.out)
          have c3 := (hg3.out.cell (b := wr.heap.size) (lt_cell x0) 1).trans x1
          go_wp2
          go_roundw
          case rel => exact ⟨j + 1, al + r, by omega, HTK, HG3, by go_num, by go_num⟩
          case measure => simp [intOf]; omega
    · obtain rfl : j = L.length := by omega
      have HA := hid (show al = base + sizes L from by rw [hal.out, List.take_length])
      have HOr := hid (HO2.out.gr hgr.out)
      have HGr := hid (HG2.out.trans hgr.out)
      have HAL : Hid ((base : Int) + (sizes L : Nat) = (al : Int)) := ⟨by have := HA.out; omega⟩
      clear hal
      go_wp2_with (first
        | (go_at_call 25; refine (fwd_top HOr.out).mono ?_; rintro e w5 ⟨rfl, hg5⟩; rw [HAL.out]; have HG5 := hid (HGr.out.trans hg5); clear hg5)
        | (go_at_call 20; refine (lives22 (HG5.out.tab htl HT.out)).mono ?_; rintro e w6 ⟨rfl, hg6⟩; have HG6 := hid (HG5.out.trans hg6); clear hg6))
      go_ret
      exact ⟨rfl, HG6.out⟩
set_option maxRecDepth 100000 in
theorem sums22_walk {W : World} (hT : TabAt W) (A : Option Addr) (cap : Nat) (l : List Nat) (hB : BytesAt W A l) (blk : Nat) (hblk : blk ≤ 255) (c : Int) (hc : 0 ≤ c ∧ c ≤ 65535) :
    Gets Tryd.prog 4 #[.slice A l.length cap, .int .u8 blk, .int .u16 c] W (.bool true) := by
  obtain ⟨base, rfl⟩ : ∃ base : Nat, c = base := ⟨c.toNat, by omega⟩
  by_cases h : 100 < l.length
  · have d2 : decide ((100 : Int) < (l.length : Int)) = true := by simp; omega
    have HT := hid hT
    clear hT hB h
    unfold Gets
    go_enter Tryd.func4, Tryd.ntmps4
    go_wp2_with (go_at_call 20; refine (lives22 HT.out).mono ?_; rintro e w6 ⟨rfl, hg6⟩)
    go_ret
    exact ⟨rfl, hg6⟩
  · exact sums22_in hT A cap l hB (by omega) blk hblk base (by omega)
end Go.Proofs.YtlkifhoedfjlaaaDoor
