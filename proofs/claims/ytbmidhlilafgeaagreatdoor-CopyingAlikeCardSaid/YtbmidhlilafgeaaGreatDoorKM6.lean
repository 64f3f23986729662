/- Package object: Make. Package object: Make. Package object: Copy and SetPointer, where they succeed. -/
import Derived.Test.YtbmidhlilafgeaaGreatDoorKM5
import Derived.Test.YtbmidhlilafgeaaGreatDoorKM7
section
namespace Go.Proofs.YtbmidhlilafgeaaGreatDoor
open Go.RowKit Word

def mkV (v : Vm) (a : Int) (x : Nat) : Nat → Vm
  | 0 => v.st a x
  | m + 1 => (mkV v a x m).st (a + 1 + m) 0
def mkE (v : Vm) (a : Int) : Nat → Int
  | 0 => v.ldE a
  | m + 1 => if mkE v a m ≠ 0 then mkE v a m else v.ldE (a + 1 + m)
theorem mkV_ldE (v : Vm) (a : Int) (x : Nat) (m : Nat) (b : Int) : (mkV v a x m).ldE b = v.ldE b := by
  induction m with
  | zero => exact st_ldE ..
  | succ m ih => unfold mkV; rw [st_ldE, ih]
theorem mkE_stop {v : Vm} {a : Int} {m : Nat} (h : mkE v a m ≠ 0) {n : Nat} (hn : m ≤ n) : mkE v a n = mkE v a m := by
  induction n with
  | zero => rw [Nat.le_zero.1 hn]
  | succ n ih =>
    rcases Nat.lt_or_ge n m with h' | h'
    · rw [show m = n + 1 by omega]
    · have := ih h'
      show (if mkE v a n ≠ 0 then mkE v a n else _) = _
      rw [if_pos (by rw [this]; exact h), this]
theorem mkE_first {v : Vm} {a : Int} {m : Nat} (h : mkE v a m = 0) : v.ldE a = 0 := by
  induction m with
  | zero => exact h
  | succ m ih =>
    refine ih (Decidable.not_not.1 fun hn => ?_)
    have h : (if mkE v a m ≠ 0 then mkE v a m else v.ldE (a + 1 + m)) = 0 := h
    rw [if_pos hn] at h
    exact hn h
section
variable {w : World} {S2 : Nat → Prop} {k q b4 : Nat} {v : Vm}
/-- The blocks of a piece of work that starts in w. -/
def wkS (w : World) (k i : Nat) : Prop := i = k ∨ w.heap.size ≤ i
def mkG (q : Nat) (S2 : Nat → Prop) (v : Vm) (a : Int) (x n : Nat) (w1 : World) : Prop := mkE v a n = 0 ∧ VmAt w1 S2 q (mkV v a x n)
def mkH (w : World) (k : Nat) (S2 : Nat → Prop) (v : Vm) (a : Int) (n : Nat) (why _a : Int) (v' : Vm) (l : Lg) (S S2' : Nat → Prop) (_w1 : World) : Prop :=
  why = mkE v a n ∧ mkE v a n ≠ 0 ∧ undoL v' l = v ∧ S = wkS w k ∧ S2' = S2
structure MkInv (w wr : World) (S2 : Nat → Prop) (k q : Nat) (v : Vm) (a : Int) (x m : Nat) (l : Lg) : Prop where
  e : mkE v a m = 0
  wk : WkAt wr (wkS w k) k q l
  vm : VmAt wr S2 q (mkV v a x m)
  un : undoL (mkV v a x m) l = v
  ll : l.length = m + 1
  t : Touch (fun i => wkS w k i ∨ S2 i) w wr
set_option maxRecDepth 100000 in
set_option maxHeartbeats 1600000 in
theorem make_body {bA bW bH p f c : Nat} {a : Int} {x : Nat} (hs : p + f + c ≤ 255) (hx : x < 18446744073709551616) (hW : WkAt w (fun i => i = k) k q []) (hV : VmAt w S2 q v) (hS : ∀ i, S2 i → i < w.heap.size) (hk : ¬ S2 k)
    (cA : Rec w bA 3 [.int .i64 a]) (cW : Rec w bW 50 [.int .u64 x]) (cH : Rec w bH 90 [.int .i64 p, .int .i64 f, .int .i64 c]) (nA : ¬ S2 bA) (nH : ¬ S2 bH) (n4 : ¬ S2 b4) (m4 : b4 < w.heap.size) (d4 : b4 ≠ k) :
    Calls Tryz.prog 126 #[.pointer (some ⟨k, 0, none⟩), .pointer (some ⟨bA, 0, none⟩), .pointer (some ⟨bW, 0, none⟩), .pointer (some ⟨bH, 0, none⟩)] w
      (BodyEnd q k b4 (fun i => wkS w k i ∨ S2 i) w (mkG q S2 v a x (p + f + c)) (mkH w k S2 v a (p + f + c))) := by
  have kA := cA.cell (j := 0) rfl
  have kW := cW.cell (j := 0) rfl
  obtain ⟨vl, hr, -⟩ := hW.row
  have hkA : bA ≠ k := own_ne cA hr (by decide) rfl rfl
  have hkH : bH ≠ k := own_ne cH hr (by decide) rfl rfl
  have hkl := hr.lt
  have hd : ∀ i, wkS w k i → ¬ S2 i := fun i hi h => by
    rcases hi with rfl | hi
    · exact hk h
    · have := hS i h; omega
  have hW' : WkAt w (wkS w k) k q [] := hW.mono (fun i hi => .inl hi)
  have HD := hid hd
  have HWK := hid hW'
  have HST := hid (wk_store hW' hV hd (by simp) a hx)
  have hN : hdrN ⟨p, f, c⟩ = 1 + (p : Int) + f + c := if_pos (hdrE_of hs)
  have HSZ := hid (fun W => hdr_size ⟨p, f, c⟩ W)
  rw [hN] at HSZ
  unfold hdrV at HSZ
  have HV := hid hV
  have HCA := hid cA
  have HCH := hid cH
  have HNN := hid (And.intro nA (And.intro nH (And.intro n4 (And.intro hkA hkH))))
  have HB4 := hid (show ¬ wkS w k b4 from fun h => by rcases h with h | h; exact d4 h; omega)
  clear hr hW hV hd hW' hk nA nH n4 hN cA cW cH
  by_cases h0 : v.ldE a = 0
  · have HE := hid h0
    have har := ldE_in h0
    have hn2 := HV.out.ok.n2
    clear h0
    go_enter Tryz.func126, Tryz.ntmps126
    go_wp2_with (first
      | (go_at_call 127; refine HST.out.mono ?_; rintro e w1 (⟨h, -⟩ | ⟨-, rfl, ht1, hv1, hk1⟩); (exact absurd HE.out h); have hH1 := HCH.out.touch ht1 (fun h => h.elim (fun h => h.elim HNN.out.2.2.2.2 (fun h => absurd HCH.out.lt (Nat.not_lt_of_le h))) HNN.out.2.1); have j0 := hH1.cell (j := 0) rfl; have j1 := hH1.cell (j := 1) rfl; have j2 := hH1.cell (j := 2) rfl; have HH1 := hid hH1; have HT1 := hid ht1; have HV1 := hid hv1; have HK1 := hid hk1; clear ht1 hv1 hk1 hH1)
      | (go_at_call 55; refine (HSZ.out _).mono ?_; rintro e w2 ⟨rfl, hg2⟩; have HG2 := hid hg2; clear hg2))
    have HI0 : Hid (MkInv w w2 S2 k q v a x 0 [(a, v.ldV a)]) := ⟨⟨HE.out, (HK1.out.gr HG2.out).mono (fun i hi => hi.elim id .inr), (HV1.out.gr HG2.out).mono (fun i hi => hi.1), st_back HV.out.ok HE.out x, rfl, HT1.out.trans (HG2.out.touch _)⟩⟩
    go_loopw [13] (fun i wr => ∃ (m : Nat) (l : Lg), m ≤ p + f + c ∧ Hid (MkInv w wr S2 k q v a x m l) ∧ i = .int .i64 m) (fun i _ => p + f + c - (intOf i).toNat)
    case atStart => exact ⟨0, _, by omega, HI0, rfl⟩
    case round =>
      obtain ⟨m, l, hm, HI, rfl⟩ := hrel
      have cA1 := HCA.out.touch HI.out.t (fun h => h.elim (fun h => h.elim HNN.out.2.2.2.1 (fun h => absurd HCA.out.lt (Nat.not_lt_of_le h))) HNN.out.1)
      have kA1 := cA1.cell (j := 0) rfl
      clear HI0 kA kW j0 j1 j2
      by_cases hlast : m = p + f + c
      · have d0 : decide ((m : Int) < 1 + (p : Int) + f + c - 1) = false := decide_eq_false (by omega)
        have HM := hid hlast
        clear hlast
        go_wp2
        refine bodyPost_end (results_none rfl _ _ _) rfl ?_
        refine ⟨HI.out.t, .inl ⟨rfl, ?_⟩⟩
        rw [← HM.out]
        exact ⟨HI.out.e, HI.out.vm⟩
      · have d0 : decide ((m : Int) < 1 + (p : Int) + f + c - 1) = true := decide_eq_true (by omega)
        have hll := HI.out.ll
        have HST2 := hid (wk_store HI.out.wk HI.out.vm HD.out (by omega) (a + 1 + m) (x := 0) (by omega))
        have hEE : mkE v a (m + 1) = v.ldE (a + 1 + m) := by
          show (if mkE v a m ≠ 0 then mkE v a m else _) = _
          rw [if_neg (fun h => h HI.out.e)]
        have hLE := mkV_ldE v a x m (a + 1 + m)
        by_cases h1 : v.ldE (a + 1 + m) = 0
        · have H1 := hid (hLE.trans h1)
          have HE1 := hid (hEE.trans h1)
          have HML := hid hlast
          clear hLE h1 hEE hlast hll
          go_wp2_with (go_at_call 127; refine HST2.out.mono ?_; rintro e w3 (⟨h, -⟩ | ⟨-, rfl, ht3, hv3, hk3⟩); (exact absurd H1.out h); have HT3 := hid ht3; have HV3 := hid hv3; have HK3 := hid hk3; clear ht3 hv3 hk3)
          go_round
          case rel =>
            refine ⟨m + 1, l ++ [(a + 1 + m, (mkV v a x m).ldV (a + 1 + m))], by have := HML.out; omega, ⟨HE1.out, HK3.out.mono (fun i hi => hi.elim id (fun h => .inr (Nat.le_trans HI.out.t.size h))), HV3.out.mono (fun i hi => hi.1), ?_, by rw [List.length_append, HI.out.ll]; rfl, HI.out.t.trans HT3.out⟩, by go_num⟩
            rw [undoL_snoc]
            show undoL (((mkV v a x m).st (a + 1 + m) 0).st _ _) l = v
            rw [st_back HI.out.vm.ok H1.out]
            exact HI.out.un
          case measure => have := HML.out; simp [intOf]; omega
        · have H1 : Hid ((mkV v a x m).ldE (a + 1 + m) ≠ 0) := ⟨by rw [hLE]; exact h1⟩
          have HE1 : Hid (mkE v a (p + f + c) = (mkV v a x m).ldE (a + 1 + m)) := ⟨by rw [hLE, ← hEE]; exact mkE_stop (by rw [hEE]; exact h1) (by omega)⟩
          clear hLE h1 hEE hlast hll
          go_wp2_with (go_at_call 127; refine HST2.out.mono ?_; rintro e w3 (⟨-, hg3, rfl⟩ | ⟨h, -⟩); rotate_left; (exact absurd h H1.out); have HG3 := hid hg3; clear hg3)
          exact ⟨rfl, HI.out.t.trans (HG3.out.touch _), .inr ⟨_, _, _, l, wkS w k, S2, rfl, HI.out.wk.gr HG3.out, HI.out.vm.gr HG3.out, HD.out, HB4.out, HNN.out.2.2.1, HE1.out.symm, by rw [HE1.out]; exact H1.out, HI.out.un, rfl, rfl⟩⟩
  · have HE := hid h0
    clear h0
    go_enter Tryz.func126, Tryz.ntmps126
    go_wp2_with (go_at_call 127; refine HST.out.mono ?_; rintro e w1 (⟨-, hg1, rfl⟩ | ⟨h, -⟩); rotate_left; (exact absurd h HE.out); have HG1 := hid hg1; clear hg1)
    have he : mkE v a (p + f + c) = v.ldE a := mkE_stop (m := 0) HE.out (Nat.zero_le _)
    exact ⟨rfl, HG1.out.touch _, .inr ⟨v.ldE a, a, v, [], wkS w k, S2, rfl, HWK.out.gr HG1.out, HV.out.gr HG1.out, HD.out, HB4.out, HNN.out.2.2.1, he.symm, by rw [he]; exact HE.out, rfl, rfl, rfl⟩⟩
end
end Go.Proofs.YtbmidhlilafgeaaGreatDoor
end

section
namespace Go.Proofs.YtbmidhlilafgeaaGreatDoor
open Go.RowKit Word

theorem call_make (args : Array Value) (w : World) : (callFunc 126 args).run Tryz.prog w = .ok (.enter 126 args) w := by kernel_rfl
theorem field_fault (x y : Value) (w : World) : (Instr.field 168 (.agg #[x, y]) 0).run Tryz.prog w = .ok x w := by kernel_rfl
section
variable {w : World} {S : Nat → Prop} {q : Nat} {v : Vm}
set_option maxRecDepth 100000 in
set_option maxHeartbeats 1600000 in
theorem hdr_put_bad {h : Hdr} (he : hdrE h ≠ 0) (w : World) : Calls Tryz.prog 124 #[hdrV h] w fun e w' => e = .returned (.tuple #[.int .u64 0, .int .i64 15]) ∧ Gr w w' := by
  have HC := hid (fun W => hdr_check h W)
  have h15 : hdrE h = 15 := (hdrE_two h).resolve_left he
  rw [h15] at HC
  clear h15 he
  unfold hdrV at HC ⊢
  go_enter Tryz.func124, Tryz.ntmps124
  go_wp2_with (go_at_call 118; refine (HC.out _).mono ?_; rintro e w1 ⟨rfl, hg1⟩; have HG1 := hid (((Gr.refl w).alloc _).trans hg1); clear hg1)
  go_ret2
  exact ⟨rfl, HG1.out⟩
/-- What running Make's closure leaves. -/
def MakeEnd (w : World) (S : Nat → Prop) (q : Nat) (v : Vm) (a : Int) (x n : Nat) (e : Ending) (w' : World) : Prop :=
  ∃ b : Int, e = .returned (.agg #[.int .i64 (mkE v a n), .int .i64 b]) ∧ Touch S w w' ∧ VmAt w' S q (if mkE v a n = 0 then mkV v a x n else v)
theorem run_make (hV : VmAt w S q v) {bA bW bH p f c : Nat} {a : Int} {x : Nat} (hs : p + f + c ≤ 255) (hx : x < 18446744073709551616)
    (cA : Rec w bA 3 [.int .i64 a]) (cW : Rec w bW 50 [.int .u64 x]) (cH : Rec w bH 90 [.int .i64 p, .int .i64 f, .int .i64 c]) (nA : ¬ S bA) (nH : ¬ S bH) :
    Calls Tryz.prog 125 #[spV q, .func (.func 126) #[] #[.pointer (some ⟨bA, 0, none⟩), .pointer (some ⟨bW, 0, none⟩), .pointer (some ⟨bH, 0, none⟩)]] w (MakeEnd w S q v a x (p + f + c)) := by
  have hsz : (runW w q).heap.size = w.heap.size + 2 := by unfold runW; rw [World.size_alloc, World.size_alloc]
  obtain ⟨W0, hW0⟩ : ∃ W0, W0 = partW (runW w q) (w.heap.size + 1) := ⟨_, rfl⟩
  have hsz0 : W0.heap.size = w.heap.size + 5 := by rw [hW0]; unfold partW; rw [World.size_alloc, World.size_alloc, World.size_alloc, hsz]
  have g1 : Gr w (runW w q) := ((Gr.refl w).alloc _).alloc _
  have g2 : Gr (runW w q) W0 := by rw [hW0]; exact (((Gr.refl _).alloc _).alloc _).alloc _
  have g : Gr w W0 := g1.trans g2
  have hS2 : ∀ i, cutS S w i → i < w.heap.size := fun i hi => hi.2
  have hbody := make_body (b4 := w.heap.size + 3) (S2 := cutS S w) hs hx ((wk_new w q).gr g2) (hV.cut.gr g) (fun i hi => by have := hS2 i hi; omega) (fun h => by have := hS2 _ h; omega) (cA.gr g) (cW.gr g) (cH.gr g) (fun h => nA h.1) (fun h => nH h.1) (fun h => by have := hS2 _ h; omega) (by omega) (by omega)
  have hrun := trap_run (w := w) (q := q) (F := 126) (caps := #[.pointer (some ⟨bA, 0, none⟩), .pointer (some ⟨bW, 0, none⟩), .pointer (some ⟨bH, 0, none⟩)]) (Sx := fun i => wkS W0 (w.heap.size + 1) i ∨ cutS S w i)
    (G := mkG q (cutS S w) v a x (p + f + c)) (H := mkH W0 (w.heap.size + 1) (cutS S w) v a (p + f + c)) call_make (by rw [← hW0]; exact hbody)
    (fun i h1 h2 h => by
      rcases h with (h | h) | h
      · omega
      · omega
      · have := h.2; omega)
    (fun h => by
      rcases h with (h | h) | h
      · omega
      · omega
      · exact absurd h.2 (Nat.lt_irrefl _))
    (fun why a' v' l S' S2 w1 h => by
      obtain ⟨-, -, -, rfl, rfl⟩ := h
      refine ⟨fun h => ?_, fun h => absurd h.2 (Nat.lt_irrefl _)⟩
      rcases h with h | h <;> omega)
  refine hrun.mono ?_
  rintro e w' ⟨w2, fx, fy, ⟨w1, ht1, hp⟩, rfl, rfl⟩
  rw [← hW0] at ht1
  rw [hsz] at hp
  have hTw : ∀ (X : World) (T : Touch (fun i => w.heap.size ≤ i ∨ S i) w X), Touch S w X := fun X T => T.mono (fun i hi h => h.resolve_left (by omega))
  have T1 : Touch (fun i => w.heap.size ≤ i ∨ S i) w w1 := (g.touch _).trans' ht1 (fun i hi h => by
    rcases h with (h | h) | h
    · left; omega
    · left; omega
    · exact .inr h.1)
  rcases hp with ⟨⟨e0, hv1⟩, he, rfl⟩ | ⟨why, a', v', l, S', S2, ⟨rfl, e0, hu, rfl, rfl⟩, he, hc⟩
  · simp only [Ending.returned.injEq, Value.agg.injEq] at he
    have hfx : fx = 0 ∧ fy = 0 := by simpa using he
    obtain ⟨rfl, rfl⟩ := hfx
    have hT := (((Touch.refl (fun i => w.heap.size ≤ i) w1).setCell (a := ⟨w.heap.size + 2 + 1, 0, none⟩) (fun _ => by show w.heap.size ≤ w.heap.size + 2 + 1; omega) (.int .i64 0)).setCell (a := ⟨w.heap.size + 2 + 1, 1, none⟩) (fun _ => by show w.heap.size ≤ w.heap.size + 2 + 1; omega) (.int .i64 0)).setCell (a := ⟨w.heap.size, 0, none⟩) (fun _ => Nat.le_refl _) (.int .i64 0) |>.setCell (a := ⟨w.heap.size, 1, none⟩) (fun _ => Nat.le_refl _) (.int .i64 0)
    refine ⟨0, by rw [e0], hTw _ (T1.trans (hT.mono (fun i _ h => .inl h))), ?_⟩
    rw [if_pos e0]
    exact (hv1.touch hT (fun i hi _ h => by have := hi.2; omega)).mono (fun i hi => hi.1)
  · simp only [Ending.returned.injEq, Value.agg.injEq] at he
    have hfx : fx = mkE v a (p + f + c) ∧ fy = a' := by simpa using he
    obtain ⟨rfl, rfl⟩ := hfx
    have hT := fun z1 z2 => ((Touch.refl (fun i => w.heap.size ≤ i) w2).setCell (a := ⟨w.heap.size, 0, none⟩) (fun _ => Nat.le_refl _) z1).setCell (a := ⟨w.heap.size, 1, none⟩) (fun _ => Nat.le_refl _) z2
    refine ⟨fy, rfl, hTw _ ((T1.trans' hc.1 (fun i hi h => ?_)).trans ((hT _ _).mono (fun i _ h => .inl h))), ?_⟩
    · rcases h with (h | h) | h | h
      · left; omega
      · left; omega
      · exact .inr h.1
      · left; omega
    · rw [if_neg e0]
      have := (hc.2.1.touch (hT (.int .i64 (mkE v a (p + f + c))) (.int .i64 fy)) (fun i hi _ h => by have := hi.2; omega)).mono (fun i hi => hi.1)
      rw [hu] at this
      exact this
def mkRes (v : Vm) (a : Int) (h : Hdr) : Int := if a ≤ 0 then 5 else if hdrE h ≠ 0 then 15 else mkE v a (h.p + h.f + h.k).toNat
def mkVm (v : Vm) (a : Int) (h : Hdr) : Vm := if mkRes v a h = 0 then mkV v a (hdrW h.p.toNat h.f.toNat h.k.toNat) (h.p + h.f + h.k).toNat else v
theorem hdrW_lt {a b c : Nat} (hs : a + b + c ≤ 255) : hdrW a b c < 18446744073709551616 := by
  have := hdrL_lt hs
  unfold hdrW
  omega
set_option maxRecDepth 100000 in
set_option maxHeartbeats 1600000 in
theorem obj_make (hV : VmAt w S q v) (a : Int) (h : Hdr) : Calls Tryz.prog 60 #[spV q, .int .i64 a, hdrV h] w fun e w' => e = .returned (.int .i64 (mkRes v a h)) ∧ Touch S w w' ∧ VmAt w' (plus S w) q (mkVm v a h) := by
  have HV := hid hV
  have hmf : ∀ (fn : Fn) (first cap : Array Value) (w : World), (Instr.makeFunc fn first cap).run Tryz.prog w = .ok (.func fn first cap) w := fun _ _ _ _ => rfl
  have HSAME : Hid (mkRes v a h ≠ 0 → ∀ w', Gr w w' → Touch S w w' ∧ VmAt w' (plus S w) q (mkVm v a h)) := ⟨fun hn w' g => ⟨g.touch S, by unfold mkVm; rw [if_neg hn]; exact (hV.gr g).mono (fun k hk => .inl hk)⟩⟩
  by_cases h0 : a ≤ 0
  · have HR : Hid (mkRes v a h = 5) := ⟨if_pos h0⟩
    have d0 : decide (a ≤ 0) = true := decide_eq_true h0
    unfold spV hdrV
    clear h0 hV
    go_enter Tryz.func60, Tryz.ntmps60
    go_wp2
    go_ret
    exact ⟨ret_int HR.out.symm, HSAME.out (by rw [HR.out]; decide) _ (((Gr.refl w).alloc _).alloc _)⟩
  · have d0 : decide (a ≤ 0) = false := decide_eq_false h0
    by_cases h1 : hdrE h = 0
    · obtain ⟨p, f, c, rfl, hs⟩ := hdrE_zero h1
      have hR : mkRes v a ⟨p, f, c⟩ = mkE v a (p + f + c) := by
        unfold mkRes
        rw [if_neg h0, if_neg (fun h => h h1)]
        congr 1
      have HR := hid hR
      have HM : Hid (mkVm v a ⟨p, f, c⟩ = if mkE v a (p + f + c) = 0 then mkV v a (hdrW p f c) (p + f + c) else v) := ⟨by
        unfold mkVm
        rw [hR]
        congr 1⟩
      have HP := hid (fun W => hdr_put_ok hs W)
      have HRUN := hid (fun (W : World) (g : Gr w W) (bW : Nat) (cA : Rec W w.heap.size 3 [.int .i64 a]) (cW : Rec W bW 50 [.int .u64 (hdrW p f c : Nat)]) (cH : Rec W (w.heap.size + 1) 90 [.int .i64 p, .int .i64 f, .int .i64 c]) =>
        run_make (hV.cut.gr g) hs (hdrW_lt hs) cA cW cH (fun h => absurd h.2 (Nat.lt_irrefl _)) (fun h => by have := h.2; omega))
      unfold hdrV at HP
      unfold spV hdrV
      unfold spV at HRUN
      have hfl := field_fault
      clear hV h0 h1 hR
      go_enter Tryz.func60, Tryz.ntmps60
      go_wp2_with (first
        | (go_at_call 124; refine (HP.out _).mono ?_; rintro e w1 ⟨rfl, hg1⟩; have HG1 := hid hg1; clear hg1)
        | (go_at_call 125; have cA := (((Rec.new w 3 [.int .i64 a]).gr ((Gr.refl _).alloc _)).gr HG1.out).gr ((Gr.refl w1).alloc (.cells #[.int .u64 (hdrW p f c : Nat)] 50)); have cH := ((Rec.new (w.alloc (.cells #[.int .i64 a] 3)) 90 [.int .i64 p, .int .i64 f, .int .i64 c]).gr HG1.out).gr ((Gr.refl w1).alloc (.cells #[.int .u64 (hdrW p f c : Nat)] 50)); rw [World.size_alloc] at cH; have cW := Rec.new w1 50 [.int .u64 (hdrW p f c : Nat)]; refine (HRUN.out _ (((((Gr.refl w).alloc _).alloc _).trans HG1.out).alloc _) _ cA cW cH).mono ?_; rintro e w2 ⟨b, rfl, ht2, hv2⟩; have HT2 := hid ht2; have HV2 := hid hv2; clear ht2 hv2 cA cH cW))
      go_ret
      refine ⟨ret_int HR.out.symm, ((((((Gr.refl w).alloc _).alloc _).trans HG1.out).alloc _).touch S).trans (HT2.out.mono (fun i _ hi => hi.1)), ?_⟩
      rw [HM.out]
      exact HV2.out.mono (fun i hi => .inl hi.1)
    · have HR : Hid (mkRes v a h = 15) := ⟨by unfold mkRes; rw [if_neg h0, if_pos h1]⟩
      have HP := hid (fun W => hdr_put_bad h1 W)
      unfold hdrV at HP
      unfold spV hdrV
      clear hV h0 h1
      go_enter Tryz.func60, Tryz.ntmps60
      go_wp2_with (go_at_call 124; refine (HP.out _).mono ?_; rintro e w1 ⟨rfl, hg1⟩; have HG1 := hid ((((Gr.refl w).alloc _).alloc _).trans hg1); clear hg1)
      go_ret
      exact ⟨ret_int HR.out.symm, HSAME.out (by rw [HR.out]; decide) _ (HG1.out.alloc _)⟩
end
end Go.Proofs.YtbmidhlilafgeaaGreatDoor
end

section
namespace Go.Proofs.YtbmidhlilafgeaaGreatDoor
open Go.RowKit Word

/-- The words that are read so far. -/
def cwL (v : Vm) (a : Int) (n m : Nat) : List Nat := (List.range n).map fun j => if j < m then v.ldV (a + j) else 0
theorem cwL_len (v : Vm) (a : Int) (n m : Nat) : (cwL v a n m).length = n := by simp [cwL]
theorem cwL_at (v : Vm) (a : Int) {n m j : Nat} (hj : j < n) : (u64s (cwL v a n m))[j]? = some (.int .u64 ((if j < m then v.ldV (a + j) else 0 : Nat) : Int)) := by
  rw [u64s_at (by rw [cwL_len]; exact hj)]
  simp [cwL]
theorem cwL_set (v : Vm) (a : Int) (n m : Nat) : (u64s (cwL v a n m)).set m (.int .u64 (v.ldV (a + m) : Nat)) = u64s (cwL v a n (m + 1)) := by
  apply List.ext_getElem?
  intro j
  rw [List.getElem?_set]
  have hl : ∀ m, (u64s (cwL v a n m)).length = n := fun m => by simp [u64s, cwL]
  by_cases hj : j < n
  · rw [cwL_at v a hj, cwL_at v a hj]
    by_cases h : m = j
    · subst h
      rw [if_pos rfl, if_pos (by rw [hl]; exact hj), if_pos (by omega)]
    · rw [if_neg h]
      by_cases h2 : j < m
      · rw [if_pos h2, if_pos (by omega)]
      · rw [if_neg h2, if_neg (by omega)]
  · rw [List.getElem?_eq_none (by rw [hl]; omega), List.getElem?_eq_none (by rw [hl]; omega)]
    split
    · rename_i h
      rw [if_neg (by rw [hl]; omega)]
    · rfl
theorem cwL_zero (v : Vm) (a : Int) (n : Nat) : u64s (cwL v a n 0) = List.replicate n (.int .u64 0) := by
  apply List.ext_getElem?
  intro j
  by_cases hj : j < n
  · rw [cwL_at v a hj, List.getElem?_replicate, if_pos hj]; rfl
  · rw [List.getElem?_eq_none (by simp [u64s, cwL]; omega), List.getElem?_replicate, if_neg hj]
theorem made_u64 (n : Nat) : (madeCells #[.int .u64 0] n).toList = List.replicate n (.int .u64 0) := by
  unfold madeCells
  apply List.ext_getElem
  · simp
  · intro i h1 h2
    simp [Nat.mod_one]
section
variable {w : World} {S S2 : Nat → Prop} {k q b4 : Nat} {v : Vm}
def cpG (q : Nat) (S2 : Nat → Prop) (v : Vm) (a t : Int) (n : Nat) (w1 : World) : Prop := VmAt w1 S2 q (cpV v a t n)
def noH (_ _ : Int) (_ : Vm) (_ : Lg) (_ _ : Nat → Prop) (_ : World) : Prop := False
structure CpInv (w wg wr : World) (S2 : Nat → Prop) (k q g : Nat) (v : Vm) (a t : Int) (n m : Nat) (l : Lg) : Prop where
  wk : WkAt wr (wkS wg k) k q l
  vm : VmAt wr S2 q (cpV v a t m)
  ll : l.length = m
  row : wr.ownsRow 0 50 1 (.slice (some ⟨g, 0, none⟩) n n) n (u64s (cwL v a n n))
  t : Touch (fun i => wkS w k i ∨ S2 i) w wr
  wz : wg.heap.size ≤ wr.heap.size
  gk : g ≠ k
set_option maxRecDepth 100000 in
set_option maxHeartbeats 3200000 in
theorem copy_body {bA bT bH p f c n : Nat} {a t : Int} (hs : p + f + c ≤ 255) (hn : n = 1 + p + f + c) (hW : WkAt w (fun i => i = k) k q []) (hV : VmAt w S2 q v) (hS : ∀ i, S2 i → i < w.heap.size) (hk : ¬ S2 k)
    (cA : Rec w bA 3 [.int .i64 a]) (cT : Rec w bT 3 [.int .i64 t]) (cH : Rec w bH 90 [.int .i64 p, .int .i64 f, .int .i64 c]) (nA : ¬ S2 bA) (nT : ¬ S2 bT)
    (hl : ∀ m : Nat, m < n → v.ldE (a + m) = 0) (ht : ∀ m : Nat, m < n → v.ldE (t + m) = 0) :
    Calls Tryz.prog 182 #[.pointer (some ⟨k, 0, none⟩), .pointer (some ⟨bH, 0, none⟩), .pointer (some ⟨bA, 0, none⟩), .pointer (some ⟨bT, 0, none⟩)] w
      (BodyEnd q k b4 (fun i => wkS w k i ∨ S2 i) w (cpG q S2 v a t n) noH) := by
  have kA := cA.cell (j := 0) rfl
  have kT := cT.cell (j := 0) rfl
  have j0 := cH.cell (j := 0) rfl
  have j1 := cH.cell (j := 1) rfl
  have j2 := cH.cell (j := 2) rfl
  have hHl := cH.lt
  have hAl := cA.lt
  obtain ⟨vl, hr, -⟩ := hW.row
  have hkA : bA ≠ k := own_ne cA hr (by decide) rfl rfl
  have hkT : bT ≠ k := own_ne cT hr (by decide) rfl rfl
  have hkl := hr.lt
  have hN : hdrN ⟨p, f, c⟩ = (n : Int) := by rw [show hdrN ⟨p, f, c⟩ = 1 + (p : Int) + f + c from if_pos (hdrE_of hs)]; omega
  have HSZ := hid (fun W => hdr_size ⟨p, f, c⟩ W)
  rw [hN] at HSZ
  unfold hdrV at HSZ
  have HW := hid hW
  have HV := hid hV
  have HCA := hid cA
  have HCT := hid cT
  have HNN := hid (And.intro nA (And.intro nT (And.intro hkA (And.intro hkT hk))))
  have HL := hid hl
  have HTT := hid ht
  have HS := hid hS
  obtain ⟨i0, hi, hz0, hz1, hz2⟩ := info_parts infoU64
  have hn256 : n ≤ 256 := by omega
  have hn1 : 1 ≤ n := by omega
  have hn2 := hV.ok.n2
  have har := ldE_in (hl 0 (by omega))
  have har2 := ldE_in (hl (n - 1) (by omega))
  have htr := ldE_in (ht 0 (by omega))
  have htr2 := ldE_in (ht (n - 1) (by omega))
  have HB : Hid (i0.bytes * n ≤ 281474976710656) := ⟨by rw [hz2]; omega⟩
  have HM : Hid (n ≤ maxLen) := ⟨by unfold maxLen; omega⟩
  clear hr hW hV hS hk nA nT hN cA cT cH hl ht hs hn
  go_enter Tryz.func182, Tryz.ntmps182
  go_wp2_with (first
    | (go_at_call 55; refine (HSZ.out _).mono ?_; rintro e w1 ⟨rfl, hg1⟩; have HG1 := hid hg1; clear hg1)
    | (at_make; refine wpList_make_full _ rfl _ _ 35 rfl w1.heap.size 50 i0 (.int .u64 0) 1 Tryz.underlying35 hi hz0 hz1 .i64 .i64 _ _ n rfl rfl ?h1 ?h2 HB.out HM.out (Nat.le_refl _) ?h3))
  case h1 => omega
  case h2 => omega
  case h3 =>
    intro w2 hown hgrow
    have hg2 : Gr w1 w2 := (grownBy_touch hgrow (fun _ => False) (fun k e _ => by cases e)).gr
    have HO : Hid (w2.ownsRow 0 50 1 (.slice (some ⟨w1.heap.size, 0, none⟩) n n) n (u64s (cwL v a n 0))) := ⟨by rw [cwL_zero, ← made_u64]; exact own_zero hown⟩
    have HG2 := hid (HG1.out.trans hg2)
    obtain ⟨g, hg⟩ : ∃ g, g = w1.heap.size := ⟨_, rfl⟩
    have hgw : w.heap.size ≤ g := by rw [hg]; exact HG1.out.size
    have HGK : Hid (g ≠ k) := ⟨by omega⟩
    rw [← hg] at HO ⊢
    clear hown hgrow hg2 hg j0 j1 j2
    go_wp2
    go_loopw [14] (fun s14 wr => ∃ m : Nat, m ≤ n ∧ Hid (Gr w wr) ∧ Hid (wr.ownsRow 0 50 1 (.slice (some ⟨g, 0, none⟩) n n) n (u64s (cwL v a n m))) ∧ s14 = .int .i64 m) (fun s14 _ => n - (intOf s14).toNat)
    case atStart => exact ⟨0, by omega, HG2, HO, rfl⟩
    case round =>
      obtain ⟨m, hm, HGr, HOr, rfl⟩ := hrel
      clear HO kA kT
      by_cases hlast : m = n
      · subst hlast
        go_wp2
        obtain ⟨wg, hwg⟩ : ∃ wg, wg = wr := ⟨_, rfl⟩
        rw [← hwg] at HGr HOr ⊢
        clear hwg
        have HGL := hid (And.intro hgw (own_lt HOr.out rfl).2)
        have HI0 : Hid (CpInv w wg wg S2 k q g v a t m 0 []) := ⟨⟨(HW.out.gr HGr.out).mono (fun i hi => .inl hi), HV.out.gr HGr.out, rfl, HOr.out, HGr.out.touch _, Nat.le_refl _, HGK.out⟩⟩
        have hcz := HGr.out.size
        clear hm
        go_loopw [28] (fun s28 wr => ∃ (j : Nat) (l : Lg), j ≤ m ∧ Hid (CpInv w wg wr S2 k q g v a t m j l) ∧ s28 = .int .i64 j) (fun s28 _ => m - (intOf s28).toNat)
        case atStart => exact ⟨0, _, by omega, HI0, rfl⟩
        case round =>
          obtain ⟨j, l, hj, HI, rfl⟩ := hrel
          clear HI0
          by_cases hlast : j = m
          · subst hlast
            go_wp2
            refine bodyPost_end (results_none rfl _ _ _) rfl ?_
            exact ⟨HI.out.t, .inl ⟨rfl, HI.out.vm⟩⟩
          · have hmI : (j : Int) < (m : Int) := by omega
            have kT := (HCT.out.touch HI.out.t (fun h => h.elim (fun h => h.elim HNN.out.2.2.2.1 (fun h => absurd HCT.out.lt (Nat.not_lt_of_le h))) HNN.out.2.1)).cell (j := 0) rfl
            have kc := own_cell HI.out.row (cwL_at v a (m := m) (show j < m by omega))
            rw [if_pos (by omega)] at kc
            have HD : Hid (∀ i, wkS wg k i → ¬ S2 i) := ⟨fun i hi h => by
              rcases hi with rfl | hi
              · exact HNN.out.2.2.2.2 h
              · have := HS.out i h; omega⟩
            have hyl := HV.out.ok.ldV_lt (a + j)
            obtain ⟨y, hy⟩ : ∃ y, y = v.ldV (a + j) := ⟨_, rfl⟩
            rw [← hy] at kc hyl
            have HY := hid hy
            have hll := HI.out.ll
            have HST := hid (wk_store HI.out.wk HI.out.vm HD.out (by omega) (t + j) hyl)
            have HE : Hid ((cpV v a t j).ldE (t + j) = 0) := ⟨by rw [(cpV_same v a t j).ldE]; exact HTT.out j (by omega)⟩
            have HML := hid hlast
            clear hlast hy hll
            go_wp2_with (go_at_call 127; refine HST.out.mono ?_; rintro e w3 (⟨h, -⟩ | ⟨-, rfl, ht3, hv3, hk3⟩); (exact absurd HE.out h); have HT3 := hid ht3; have HV3 := hid hv3; have HK3 := hid hk3; clear ht3 hv3 hk3)
            go_round
            case rel =>
              have hz := HI.out.t.size
              have hzr : wg.heap.size ≤ wr.heap.size := HI.out.wz
              refine ⟨j + 1, l ++ [(t + j, (cpV v a t j).ldV (t + j))], by have := HML.out; omega, ⟨⟨HK3.out.mono (fun i hi => hi.elim id (fun h => .inr (Nat.le_trans hzr h))), ?_, by rw [List.length_append, HI.out.ll]; rfl, own_touch HI.out.row HT3.out (fun g' hg' h => ?_), HI.out.t.trans (HT3.out.mono (fun i hi h => ?_)), Nat.le_trans hzr HT3.out.size, HI.out.gk⟩⟩, by go_num⟩
              · have := HV3.out.mono (T := S2) (fun i hi => hi.1)
                rw [HY.out] at this
                exact this
              · cases hg'
                rcases h with (h | h) | h
                · exact HI.out.gk h
                · have h : wg.heap.size ≤ g := h; have := HGL.out.2; omega
                · have : g < w.heap.size := HS.out _ h; have := HGL.out.1; omega
              · rcases h with (h | h) | h
                · exact .inl (.inl h)
                · exact .inl (.inr (by omega))
                · exact .inr h
            case measure => have := HML.out; simp [intOf]; omega
      · have hmI : (m : Int) < (n : Int) := by omega
        have kA := (HCA.out.gr HGr.out).cell (j := 0) rfl
        have HLD := hid (wk_load (HW.out.gr HGr.out) (HV.out.gr HGr.out) (a + m))
        have hE := HL.out m (by omega)
        have HE := hid hE
        have HML := hid hlast
        obtain ⟨y, hy⟩ : ∃ y, y = v.ldV (a + m) := ⟨_, rfl⟩
        have HY := hid hy
        unfold WLoadEnd at HLD
        rw [← hy] at HLD
        have kc := own_cell HOr.out (cwL_at v a (m := m) (show m < n by omega))
        have kf := own_free HOr.out m
        clear hlast hE hy
        go_wp2_with (go_at_call 174; refine HLD.out.mono ?_; rintro e w3 ⟨hg3, he, -⟩; obtain rfl := he HE.out; have HO3 := hid (own_gr HOr.out hg3); have kc3 := own_cell HO3.out (cwL_at v a (m := m) (show m < n by have := HML.out; omega)); have kf3 := own_free HO3.out m; have hgl3 := (own_lt HO3.out rfl).2; have HG3 := hid (HGr.out.trans hg3); clear hg3 he)
        go_round
        case rel =>
          refine ⟨m + 1, by have := HML.out; omega, ⟨?_⟩, ⟨?_⟩, by go_num⟩
          · refine ((HG3.out.touch (fun i => w.heap.size ≤ i)).setCell (a := ⟨g, m, none⟩) (fun _ => hgw) _ |>.mono (T := fun _ => False) (fun i hi h => by omega)).gr
          · have := (World.ownsRow.stored HO3.out m (.int .u64 (y : Nat))).1
            rw [HY.out, cwL_set] at this
            rw [HY.out]
            exact this
        case measure => have := HML.out; simp [intOf]; omega
theorem call_copy (args : Array Value) (w : World) : (callFunc 182 args).run Tryz.prog w = .ok (.enter 182 args) w := by kernel_rfl
theorem run_copy (hV : VmAt w S q v) {bA bT bH p f c n : Nat} {a t : Int} (hs : p + f + c ≤ 255) (hn : n = 1 + p + f + c)
    (cA : Rec w bA 3 [.int .i64 a]) (cT : Rec w bT 3 [.int .i64 t]) (cH : Rec w bH 90 [.int .i64 p, .int .i64 f, .int .i64 c]) (nA : ¬ S bA) (nT : ¬ S bT)
    (hl : ∀ m : Nat, m < n → v.ldE (a + m) = 0) (ht : ∀ m : Nat, m < n → v.ldE (t + m) = 0) :
    Calls Tryz.prog 125 #[spV q, .func (.func 182) #[] #[.pointer (some ⟨bH, 0, none⟩), .pointer (some ⟨bA, 0, none⟩), .pointer (some ⟨bT, 0, none⟩)]] w fun e w' =>
      e = .returned (.agg #[.int .i64 0, .int .i64 0]) ∧ Touch S w w' ∧ VmAt w' S q (cpV v a t n) := by
  have hsz : (runW w q).heap.size = w.heap.size + 2 := by unfold runW; rw [World.size_alloc, World.size_alloc]
  obtain ⟨W0, hW0⟩ : ∃ W0, W0 = partW (runW w q) (w.heap.size + 1) := ⟨_, rfl⟩
  have hsz0 : W0.heap.size = w.heap.size + 5 := by rw [hW0]; unfold partW; rw [World.size_alloc, World.size_alloc, World.size_alloc, hsz]
  have g1 : Gr w (runW w q) := ((Gr.refl w).alloc _).alloc _
  have g2 : Gr (runW w q) W0 := by rw [hW0]; exact (((Gr.refl _).alloc _).alloc _).alloc _
  have g : Gr w W0 := g1.trans g2
  have hS2 : ∀ i, cutS S w i → i < w.heap.size := fun i hi => hi.2
  have hbody := copy_body (b4 := w.heap.size + 3) (S2 := cutS S w) hs hn ((wk_new w q).gr g2) (hV.cut.gr g) (fun i hi => by have := hS2 i hi; omega) (fun h => by have := hS2 _ h; omega) (cA.gr g) (cT.gr g) (cH.gr g) (fun h => nA h.1) (fun h => nT h.1) hl ht
  have hrun := trap_run (w := w) (q := q) (F := 182) (caps := #[.pointer (some ⟨bH, 0, none⟩), .pointer (some ⟨bA, 0, none⟩), .pointer (some ⟨bT, 0, none⟩)]) (Sx := fun i => wkS W0 (w.heap.size + 1) i ∨ cutS S w i)
    (G := cpG q (cutS S w) v a t n) (H := noH) call_copy (by rw [← hW0]; exact hbody)
    (fun i h1 h2 h => by
      rcases h with (h | h) | h
      · omega
      · omega
      · have := h.2; omega)
    (fun h => by
      rcases h with (h | h) | h
      · omega
      · omega
      · exact absurd h.2 (Nat.lt_irrefl _))
    (fun why a' v' l S' S2 w1 h => h.elim)
  refine hrun.mono ?_
  rintro e w' ⟨w2, fx, fy, ⟨w1, ht1, hp⟩, rfl, rfl⟩
  rw [← hW0] at ht1
  rw [hsz] at hp
  have hTw : ∀ (X : World) (T : Touch (fun i => w.heap.size ≤ i ∨ S i) w X), Touch S w X := fun X T => T.mono (fun i hi h => h.resolve_left (by omega))
  have T1 : Touch (fun i => w.heap.size ≤ i ∨ S i) w w1 := (g.touch _).trans' ht1 (fun i hi h => by
    rcases h with (h | h) | h
    · left; omega
    · left; omega
    · exact .inr h.1)
  rcases hp with ⟨hv1, he, rfl⟩ | ⟨why, a', v', l, S', S2, hh, -⟩
  · simp only [Ending.returned.injEq, Value.agg.injEq] at he
    have hfx : fx = 0 ∧ fy = 0 := by simpa using he
    obtain ⟨rfl, rfl⟩ := hfx
    have hT := (((Touch.refl (fun i => w.heap.size ≤ i) w1).setCell (a := ⟨w.heap.size + 2 + 1, 0, none⟩) (fun _ => by show w.heap.size ≤ w.heap.size + 2 + 1; omega) (.int .i64 0)).setCell (a := ⟨w.heap.size + 2 + 1, 1, none⟩) (fun _ => by show w.heap.size ≤ w.heap.size + 2 + 1; omega) (.int .i64 0)).setCell (a := ⟨w.heap.size, 0, none⟩) (fun _ => Nat.le_refl _) (.int .i64 0) |>.setCell (a := ⟨w.heap.size, 1, none⟩) (fun _ => Nat.le_refl _) (.int .i64 0)
    exact ⟨rfl, hTw _ (T1.trans (hT.mono (fun i _ h => .inl h))), (hv1.touch hT (fun i hi _ h => by have := hi.2; omega)).mono (fun i hi => hi.1)⟩
  · exact hh.elim
set_option maxRecDepth 100000 in
set_option maxHeartbeats 1600000 in
theorem obj_copy (hV : VmAt w S q v) {a t : Int} {n : Nat} (hr : v.rdE a = 0) (hn : (n : Int) = v.osz a) (h0 : 0 < t) (hl : ∀ m : Nat, m < n → v.ldE (a + m) = 0) (ht : ∀ m : Nat, m < n → v.ldE (t + m) = 0) :
    Calls Tryz.prog 133 #[spV q, .int .i64 a, .int .i64 t] w fun e w' => e = .returned (.int .i64 0) ∧ Touch S w w' ∧ VmAt w' (plus S w) q (cpV v a t n) := by
  have hmf : ∀ (fn : Fn) (first cap : Array Value) (w : World), (Instr.makeFunc fn first cap).run Tryz.prog w = .ok (.func fn first cap) w := fun _ _ _ _ => rfl
  have d0 : decide (t ≤ 0) = false := decide_eq_false (by omega)
  obtain ⟨-, -, p, f, c, hh, hs⟩ := rdE_zero hr
  have hnn : n = 1 + p + f + c := by
    unfold Vm.osz at hn
    rw [hh, show hdrN ⟨p, f, c⟩ = 1 + (p : Int) + f + c from if_pos (hdrE_of hs)] at hn
    omega
  have HRD := hid (fun (w' : World) (g : Gr w w') => obj_read (hV.gr g) a)
  rw [hr, hh] at HRD
  have HRUN := hid (fun (W : World) (g : Gr w W) (bH : Nat) (cA : Rec W w.heap.size 3 [.int .i64 a]) (cT : Rec W (w.heap.size + 1) 3 [.int .i64 t]) (cH : Rec W bH 90 [.int .i64 p, .int .i64 f, .int .i64 c]) =>
    run_copy (hV.cut.gr g) hs hnn cA cT cH (fun h => absurd h.2 (Nat.lt_irrefl _)) (fun h => by have := h.2; omega) hl ht)
  have hfl := field_fault
  unfold hdrV at HRD
  unfold spV at HRD HRUN ⊢
  clear hV hr hh hn hnn hl ht h0
  go_enter Tryz.func133, Tryz.ntmps133
  go_wp2_with (first
    | (go_at_call 108; refine (HRD.out _ (((Gr.refl w).alloc _).alloc _)).mono ?_; rintro e w1 ⟨rfl, hg1⟩; have rt := (Rec.new (w.alloc (.cells #[.int .i64 a] 3)) 3 [.int .i64 t]).gr hg1; rw [World.size_alloc] at rt; have kt := rt.cell (j := 0) rfl; have ktl := rt.lt; have HG1 := hid hg1; clear hg1 rt)
    | (go_at_call 125; have cA := (((Rec.new w 3 [.int .i64 a]).gr ((Gr.refl _).alloc _)).gr HG1.out).gr ((Gr.refl w1).alloc (.cells #[.int .i64 p, .int .i64 f, .int .i64 c] 90)); have cT := ((Rec.new (w.alloc (.cells #[.int .i64 a] 3)) 3 [.int .i64 t]).gr HG1.out).gr ((Gr.refl w1).alloc (.cells #[.int .i64 p, .int .i64 f, .int .i64 c] 90)); rw [World.size_alloc] at cT; have cH := Rec.new w1 90 [.int .i64 p, .int .i64 f, .int .i64 c]; refine (HRUN.out _ (((((Gr.refl w).alloc _).alloc _).trans HG1.out).alloc _) _ cA cT cH).mono ?_; rintro e w2 ⟨rfl, ht2, hv2⟩; have HT2 := hid ht2; have HV2 := hid hv2; clear ht2 hv2 cA cH cT))
  go_ret
  refine ⟨rfl, ((((((Gr.refl w).alloc _).alloc _).trans HG1.out).alloc _).touch S).trans (HT2.out.mono (fun i _ hi => hi.1)), ?_⟩
  exact HV2.out.mono (fun i hi => .inl hi.1)
set_option maxRecDepth 100000 in
set_option maxHeartbeats 800000 in
theorem obj_setp (hV : VmAt w S q v) {a i : Int} (hp : v.plE a i 1 = 0) {x : Nat} (hx : x ≤ 2147483647) : Calls Tryz.prog 135 #[spV q, .int .i64 a, .int .i64 i, .int .i64 x] w fun e w' => e = .returned (.int .i64 (v.ldE (a + 1 + i))) ∧ Touch S w w' ∧ VmAt w' (plus S w) q (v.st (a + 1 + i) x) := by
  have HPL := hid (obj_place hV a i 1 (by decide))
  have hA : v.plA a i 1 = a + 1 + i := if_pos hp
  rw [hp, hA] at HPL
  have n1 := nil_store
  have n2 := method_store
  have d0 : decide ((x : Int) < 0) = false := decide_eq_false (by omega)
  have d1 : decide (2147483647 < (x : Int)) = false := decide_eq_false (by omega)
  have hw : IntKind.u64.wrap (x : Int) = (x : Int) := by rw [IntKind.wrap_u64]; omega
  have HST := hid (fun (w' : World) (g : Gr w w') => vm_store (hV.cut.gr g) (a + 1 + i) (x := x) (by omega))
  generalize a + 1 + i = at' at HPL HST ⊢
  unfold spV at HPL ⊢
  clear hV hp hA
  go_enter Tryz.func135, Tryz.ntmps135
  go_wp2_with (first
    | (go_at_call 184; refine HPL.out.mono ?_; rintro e w1 ⟨rfl, hg1⟩; have HG1 := hid hg1; clear hg1)
    | (go_at_call 61; refine (HST.out _ HG1.out).mono ?_; rintro e w2 ⟨rfl, ht2, hv2⟩; have HT2 := hid ht2; have HV2 := hid hv2; clear ht2 hv2))
  go_ret
  exact ⟨rfl, (HG1.out.touch S).trans (HT2.out.mono (fun i _ hi => hi.1)), HV2.out.mono (fun i hi => .inl hi.1)⟩
end
end Go.Proofs.YtbmidhlilafgeaaGreatDoor
end
