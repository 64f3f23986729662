/- Package object: Make. -/
import Derived.Test.YtlkifhoedfjlaaaGreatDoorTrapC
namespace Go.Proofs.YtlkifhoedfjlaaaGreatDoor
open Go.RowKit Word

def mkV (v : Vm) (a : Int) (x : Nat) : Nat → Vm
  | 0 => v.st a x
  | m + 1 => (mkV v a x m).st (a + 1 + m) 0
def mkE (v : Vm) (a : Int) : Nat → Int
  | 0 => v.ldE a
  | m + 1 => if mkE v a m ≠ 0 then mkE v a m else v.ldE (a + 1 + m)
theorem mkV_ldE (v : Vm) (a : Int) (x : Nat) (m : Nat) (b : Int) : (mkV v a x m).ldE b = v.ldE b := by
  induction m with
  | zero => exact st_ldE ..
  | succ m ih => unfold mkV; rw [st_ldE, ih]
theorem mkE_stop {v : Vm} {a : Int} {m : Nat} (h : mkE v a m ≠ 0) {n : Nat} (hn : m ≤ n) : mkE v a n = mkE v a m := by
  induction n with
  | zero => rw [Nat.le_zero.1 hn]
  | succ n ih =>
    rcases Nat.lt_or_ge n m with h' | h'
    · rw [show m = n + 1 by omega]
    · have := ih h'
      show (if mkE v a n ≠ 0 then mkE v a n else _) = _
      rw [if_pos (by rw [this]; exact h), this]
theorem mkE_first {v : Vm} {a : Int} {m : Nat} (h : mkE v a m = 0) : v.ldE a = 0 := by
  induction m with
  | zero => exact h
  | succ m ih =>
    refine ih (Decidable.not_not.1 fun hn => ?_)
    have h : (if mkE v a m ≠ 0 then mkE v a m else v.ldE (a + 1 + m)) = 0 := h
    rw [if_pos hn] at h
    exact hn h
section
variable {w : World} {S2 : Nat → Prop} {k q b4 : Nat} {v : Vm}
/-- The blocks of a piece of work that starts in w. -/
def wkS (w : World) (k i : Nat) : Prop := i = k ∨ w.heap.size ≤ i
def mkG (q : Nat) (S2 : Nat → Prop) (v : Vm) (a : Int) (x n : Nat) (w1 : World) : Prop := mkE v a n = 0 ∧ VmAt w1 S2 q (mkV v a x n)
def mkH (w : World) (k : Nat) (S2 : Nat → Prop) (v : Vm) (a : Int) (n : Nat) (why _a : Int) (v' : Vm) (l : Lg) (S S2' : Nat → Prop) (_w1 : World) : Prop :=
  why = mkE v a n ∧ mkE v a n ≠ 0 ∧ undoL v' l = v ∧ S = wkS w k ∧ S2' = S2
structure MkInv (w wr : World) (S2 : Nat → Prop) (k q : Nat) (v : Vm) (a : Int) (x m : Nat) (l : Lg) : Prop where
  e : mkE v a m = 0
  wk : WkAt wr (wkS w k) k q l
  vm : VmAt wr S2 q (mkV v a x m)
  un : undoL (mkV v a x m) l = v
  ll : l.length = m + 1
  t : Touch (fun i => wkS w k i ∨ S2 i) w wr
set_option maxRecDepth 100000 in
set_option maxHeartbeats 1600000 in
theorem make_body {bA bW bH p f c : Nat} {a : Int} {x : Nat} (hs : p + f + c ≤ 255) (hx : x < 18446744073709551616) (hW : WkAt w (fun i => i = k) k q []) (hV : VmAt w S2 q v) (hS : ∀ i, S2 i → i < w.heap.size) (hk : ¬ S2 k)
    (cA : Rec w bA 3 [.int .i64 a]) (cW : Rec w bW 33 [.int .u64 x]) (cH : Rec w bH 52 [.int .i64 p, .int .i64 f, .int .i64 c]) (nA : ¬ S2 bA) (nH : ¬ S2 bH) (n4 : ¬ S2 b4) (m4 : b4 < w.heap.size) (d4 : b4 ≠ k) :
    Calls Tryz.prog 46 #[.pointer (some ⟨k, 0, none⟩), .pointer (some ⟨bA, 0, none⟩), .pointer (some ⟨bW, 0, none⟩), .pointer (some ⟨bH, 0, none⟩)] w
      (BodyEnd q k b4 (fun i => wkS w k i ∨ S2 i) w (mkG q S2 v a x (p + f + c)) (mkH w k S2 v a (p + f + c))) := by
  have kA := cA.cell (j := 0) rfl
  have kW := cW.cell (j := 0) rfl
  obtain ⟨vl, hr, -⟩ := hW.row
  have hkA : bA ≠ k := own_ne cA hr (by decide) rfl rfl
  have hkH : bH ≠ k := own_ne cH hr (by decide) rfl rfl
  have hkl := hr.lt
  have hd : ∀ i, wkS w k i → ¬ S2 i := fun i hi h => by
    rcases hi with rfl | hi
    · exact hk h
    · have := hS i h; omega
  have hW' : WkAt w (wkS w k) k q [] := hW.mono (fun i hi => .inl hi)
  have HD := hid hd
  have HWK := hid hW'
  have HST := hid (wk_store hW' hV hd (by simp) a hx)
  have hN : hdrN ⟨p, f, c⟩ = 1 + (p : Int) + f + c := if_pos (hdrE_of hs)
  have HSZ := hid (fun W => hdr_size ⟨p, f, c⟩ W)
  rw [hN] at HSZ
  unfold hdrV at HSZ
  have HV := hid hV
  have HCA := hid cA
  have HCH := hid cH
  have HNN := hid (And.intro nA (And.intro nH (And.intro n4 (And.intro hkA hkH))))
  have HB4 := hid (show ¬ wkS w k b4 from fun h => by rcases h with h | h; exact d4 h; omega)
  clear hr hW hV hd hW' hk nA nH n4 hN cA cW cH
  by_cases h0 : v.ldE a = 0
  · have HE := hid h0
    have har := ldE_in h0
    have hn2 := HV.out.ok.n2
    clear h0
    go_enter Tryz.func46, Tryz.ntmps46
    go_wp2_with (first
      | (go_at_call 47; refine HST.out.mono ?_; rintro e w1 (⟨h, -⟩ | ⟨-, rfl, ht1, hv1, hk1⟩); (exact absurd HE.out h); have hH1 := HCH.out.touch ht1 (fun h => h.elim (fun h => h.elim HNN.out.2.2.2.2 (fun h => absurd HCH.out.lt (Nat.not_lt_of_le h))) HNN.out.2.1); have j0 := hH1.cell (j := 0) rfl; have j1 := hH1.cell (j := 1) rfl; have j2 := hH1.cell (j := 2) rfl; have HH1 := hid hH1; have HT1 := hid ht1; have HV1 := hid hv1; have HK1 := hid hk1; clear ht1 hv1 hk1 hH1)
      | (go_at_call 18; refine (HSZ.out _).mono ?_; rintro e w2 ⟨rfl, hg2⟩; have HG2 := hid hg2; clear hg2))
    have HI0 : Hid (MkInv w w2 S2 k q v a x 0 [(a, v.ldV a)]) := ⟨⟨HE.out, (HK1.out.gr HG2.out).mono (fun i hi => hi.elim id .inr), (HV1.out.gr HG2.out).mono (fun i hi => hi.1), st_back HV.out.ok HE.out x, rfl, HT1.out.trans (HG2.out.touch _)⟩⟩
    go_loopw [13] (fun i wr => ∃ (m : Nat) (l : Lg), m ≤ p + f + c ∧ Hid (MkInv w wr S2 k q v a x m l) ∧ i = .int .i64 m) (fun i _ => p + f + c - (intOf i).toNat)
    case atStart => exact ⟨0, _, by omega, HI0, rfl⟩
    case round =>
      obtain ⟨m, l, hm, HI, rfl⟩ := hrel
      have cA1 := HCA.out.touch HI.out.t (fun h => h.elim (fun h => h.elim HNN.out.2.2.2.1 (fun h => absurd HCA.out.lt (Nat.not_lt_of_le h))) HNN.out.1)
      have kA1 := cA1.cell (j := 0) rfl
      clear HI0 kA kW j0 j1 j2
      by_cases hlast : m = p + f + c
      · have d0 : decide ((m : Int) < 1 + (p : Int) + f + c - 1) = false := decide_eq_false (by omega)
        have HM := hid hlast
        clear hlast
        go_wp2
        refine bodyPost_end (results_none rfl _ _ _) rfl ?_
        refine ⟨HI.out.t, .inl ⟨rfl, ?_⟩⟩
        rw [← HM.out]
        exact ⟨HI.out.e, HI.out.vm⟩
      · have d0 : decide ((m : Int) < 1 + (p : Int) + f + c - 1) = true := decide_eq_true (by omega)
        have hll := HI.out.ll
        have HST2 := hid (wk_store HI.out.wk HI.out.vm HD.out (by omega) (a + 1 + m) (x := 0) (by omega))
        have hEE : mkE v a (m + 1) = v.ldE (a + 1 + m) := by
          show (if mkE v a m ≠ 0 then mkE v a m else _) = _
          rw [if_neg (fun h => h HI.out.e)]
        have hLE := mkV_ldE v a x m (a + 1 + m)
        by_cases h1 : v.ldE (a + 1 + m) = 0
        · have H1 := hid (hLE.trans h1)
          have HE1 := hid (hEE.trans h1)
          have HML := hid hlast
          clear hLE h1 hEE hlast hll
          go_wp2_with (go_at_call 47; refine HST2.out.mono ?_; rintro e w3 (⟨h, -⟩ | ⟨-, rfl, ht3, hv3, hk3⟩); (exact absurd H1.out h); have HT3 := hid ht3; have HV3 := hid hv3; have HK3 := hid hk3; clear ht3 hv3 hk3)
          go_round
          case rel =>
            refine ⟨m + 1, l ++ [(a + 1 + m, (mkV v a x m).ldV (a + 1 + m))], by have := HML.out; omega, ⟨HE1.out, HK3.out.mono (fun i hi => hi.elim id (fun h => .inr (Nat.le_trans HI.out.t.size h))), HV3.out.mono (fun i hi => hi.1), ?_, by rw [List.length_append, HI.out.ll]; rfl, HI.out.t.trans HT3.out⟩, by go_num⟩
            rw [undoL_snoc]
            show undoL (((mkV v a x m).st (a + 1 + m) 0).st _ _) l = v
            rw [st_back HI.out.vm.ok H1.out]
            exact HI.out.un
          case measure => have := HML.out; simp [intOf]; omega
        · have H1 : Hid ((mkV v a x m).ldE (a + 1 + m) ≠ 0) := ⟨by rw [hLE]; exact h1⟩
          have HE1 : Hid (mkE v a (p + f + c) = (mkV v a x m).ldE (a + 1 + m)) := ⟨by rw [hLE, ← hEE]; exact mkE_stop (by rw [hEE]; exact h1) (by omega)⟩
          clear hLE h1 hEE hlast hll
          go_wp2_with (go_at_call 47; refine HST2.out.mono ?_; rintro e w3 (⟨-, hg3, rfl⟩ | ⟨h, -⟩); rotate_left; (exact absurd h H1.out); have HG3 := hid hg3; clear hg3)
          exact ⟨rfl, HI.out.t.trans (HG3.out.touch _), .inr ⟨_, _, _, l, wkS w k, S2, rfl, HI.out.wk.gr HG3.out, HI.out.vm.gr HG3.out, HD.out, HB4.out, HNN.out.2.2.1, HE1.out.symm, by rw [HE1.out]; exact H1.out, HI.out.un, rfl, rfl⟩⟩
  · have HE := hid h0
    clear h0
    go_enter Tryz.func46, Tryz.ntmps46
    go_wp2_with (go_at_call 47; refine HST.out.mono ?_; rintro e w1 (⟨-, hg1, rfl⟩ | ⟨h, -⟩); rotate_left; (exact absurd h HE.out); have HG1 := hid hg1; clear hg1)
    have he : mkE v a (p + f + c) = v.ldE a := mkE_stop (m := 0) HE.out (Nat.zero_le _)
    exact ⟨rfl, HG1.out.touch _, .inr ⟨v.ldE a, a, v, [], wkS w k, S2, rfl, HWK.out.gr HG1.out, HV.out.gr HG1.out, HD.out, HB4.out, HNN.out.2.2.1, he.symm, by rw [he]; exact HE.out, rfl, rfl, rfl⟩⟩
end
end Go.Proofs.YtlkifhoedfjlaaaGreatDoor
