/- Package object: Make. -/
import Derived.Test.YtlkifhoedfjlaaaGreatDoorMake
namespace Go.Proofs.YtlkifhoedfjlaaaGreatDoor
open Go.RowKit Word

theorem call_make (args : Array Value) (w : World) : (callFunc 46 args).run Tryz.prog w = .ok (.enter 46 args) w := by kernel_rfl
theorem field_fault (x y : Value) (w : World) : (Instr.field 78 (.agg #[x, y]) 0).run Tryz.prog w = .ok x w := by kernel_rfl
section
variable {w : World} {S : Nat → Prop} {q : Nat} {v : Vm}
set_option maxRecDepth 100000 in
set_option maxHeartbeats 1600000 in
theorem hdr_put_bad {h : Hdr} (he : hdrE h ≠ 0) (w : World) : Calls Tryz.prog 45 #[hdrV h] w fun e w' => e = .returned (.tuple #[.int .u64 0, .int .i64 15]) ∧ Gr w w' := by
  have HC := hid (fun W => hdr_check h W)
  have h15 : hdrE h = 15 := (hdrE_two h).resolve_left he
  rw [h15] at HC
  clear h15 he
  unfold hdrV at HC ⊢
  go_enter Tryz.func45, Tryz.ntmps45
  go_wp2_with (go_at_call 48; refine (HC.out _).mono ?_; rintro e w1 ⟨rfl, hg1⟩; have HG1 := hid (((Gr.refl w).alloc _).trans hg1); clear hg1)
  go_ret2
  exact ⟨rfl, HG1.out⟩
/-- What running Make's closure leaves. -/
def MakeEnd (w : World) (S : Nat → Prop) (q : Nat) (v : Vm) (a : Int) (x n : Nat) (e : Ending) (w' : World) : Prop :=
  ∃ b : Int, e = .returned (.agg #[.int .i64 (mkE v a n), .int .i64 b]) ∧ Touch S w w' ∧ VmAt w' S q (if mkE v a n = 0 then mkV v a x n else v)
theorem run_make (hV : VmAt w S q v) {bA bW bH p f c : Nat} {a : Int} {x : Nat} (hs : p + f + c ≤ 255) (hx : x < 18446744073709551616)
    (cA : Rec w bA 3 [.int .i64 a]) (cW : Rec w bW 33 [.int .u64 x]) (cH : Rec w bH 52 [.int .i64 p, .int .i64 f, .int .i64 c]) (nA : ¬ S bA) (nH : ¬ S bH) :
    Calls Tryz.prog 29 #[spV q, .func (.func 46) #[] #[.pointer (some ⟨bA, 0, none⟩), .pointer (some ⟨bW, 0, none⟩), .pointer (some ⟨bH, 0, none⟩)]] w (MakeEnd w S q v a x (p + f + c)) := by
  have hsz : (runW w q).heap.size = w.heap.size + 2 := by unfold runW; rw [World.size_alloc, World.size_alloc]
  obtain ⟨W0, hW0⟩ : ∃ W0, W0 = partW (runW w q) (w.heap.size + 1) := ⟨_, rfl⟩
  have hsz0 : W0.heap.size = w.heap.size + 5 := by rw [hW0]; unfold partW; rw [World.size_alloc, World.size_alloc, World.size_alloc, hsz]
  have g1 : Gr w (runW w q) := ((Gr.refl w).alloc _).alloc _
  have g2 : Gr (runW w q) W0 := by rw [hW0]; exact (((Gr.refl _).alloc _).alloc _).alloc _
  have g : Gr w W0 := g1.trans g2
  have hS2 : ∀ i, cutS S w i → i < w.heap.size := fun i hi => hi.2
  have hbody := make_body (b4 := w.heap.size + 3) (S2 := cutS S w) hs hx ((wk_new w q).gr g2) (hV.cut.gr g) (fun i hi => by have := hS2 i hi; omega) (fun h => by have := hS2 _ h; omega) (cA.gr g) (cW.gr g) (cH.gr g) (fun h => nA h.1) (fun h => nH h.1) (fun h => by have := hS2 _ h; omega) (by omega) (by omega)
  have hrun := trap_run (w := w) (q := q) (F := 46) (caps := #[.pointer (some ⟨bA, 0, none⟩), .pointer (some ⟨bW, 0, none⟩), .pointer (some ⟨bH, 0, none⟩)]) (Sx := fun i => wkS W0 (w.heap.size + 1) i ∨ cutS S w i)
    (G := mkG q (cutS S w) v a x (p + f + c)) (H := mkH W0 (w.heap.size + 1) (cutS S w) v a (p + f + c)) call_make (by rw [← hW0]; exact hbody)
    (fun i h1 h2 h => by
      rcases h with (h | h) | h
      · omega
      · omega
      · have := h.2; omega)
    (fun h => by
      rcases h with (h | h) | h
      · omega
      · omega
      · exact absurd h.2 (Nat.lt_irrefl _))
    (fun why a' v' l S' S2 w1 h => by
      obtain ⟨-, -, -, rfl, rfl⟩ := h
      refine ⟨fun h => ?_, fun h => absurd h.2 (Nat.lt_irrefl _)⟩
      rcases h with h | h <;> omega)
  refine hrun.mono ?_
  rintro e w' ⟨w2, fx, fy, ⟨w1, ht1, hp⟩, rfl, rfl⟩
  rw [← hW0] at ht1
  rw [hsz] at hp
  have hTw : ∀ (X : World) (T : Touch (fun i => w.heap.size ≤ i ∨ S i) w X), Touch S w X := fun X T => T.mono (fun i hi h => h.resolve_left (by omega))
  have T1 : Touch (fun i => w.heap.size ≤ i ∨ S i) w w1 := (g.touch _).trans' ht1 (fun i hi h => by
    rcases h with (h | h) | h
    · left; omega
    · left; omega
    · exact .inr h.1)
  rcases hp with ⟨⟨e0, hv1⟩, he, rfl⟩ | ⟨why, a', v', l, S', S2, ⟨rfl, e0, hu, rfl, rfl⟩, he, hc⟩
  · simp only [Ending.returned.injEq, Value.agg.injEq] at he
    have hfx : fx = 0 ∧ fy = 0 := by simpa using he
    obtain ⟨rfl, rfl⟩ := hfx
    have hT := (((Touch.refl (fun i => w.heap.size ≤ i) w1).setCell (a := ⟨w.heap.size + 2 + 1, 0, none⟩) (fun _ => by show w.heap.size ≤ w.heap.size + 2 + 1; omega) (.int .i64 0)).setCell (a := ⟨w.heap.size + 2 + 1, 1, none⟩) (fun _ => by show w.heap.size ≤ w.heap.size + 2 + 1; omega) (.int .i64 0)).setCell (a := ⟨w.heap.size, 0, none⟩) (fun _ => Nat.le_refl _) (.int .i64 0) |>.setCell (a := ⟨w.heap.size, 1, none⟩) (fun _ => Nat.le_refl _) (.int .i64 0)
    refine ⟨0, by rw [e0], hTw _ (T1.trans (hT.mono (fun i _ h => .inl h))), ?_⟩
    rw [if_pos e0]
    exact (hv1.touch hT (fun i hi _ h => by have := hi.2; omega)).mono (fun i hi => hi.1)
  · simp only [Ending.returned.injEq, Value.agg.injEq] at he
    have hfx : fx = mkE v a (p + f + c) ∧ fy = a' := by simpa using he
    obtain ⟨rfl, rfl⟩ := hfx
    have hT := fun z1 z2 => ((Touch.refl (fun i => w.heap.size ≤ i) w2).setCell (a := ⟨w.heap.size, 0, none⟩) (fun _ => Nat.le_refl _) z1).setCell (a := ⟨w.heap.size, 1, none⟩) (fun _ => Nat.le_refl _) z2
    refine ⟨fy, rfl, hTw _ ((T1.trans' hc.1 (fun i hi h => ?_)).trans ((hT _ _).mono (fun i _ h => .inl h))), ?_⟩
    · rcases h with (h | h) | h | h
      · left; omega
      · left; omega
      · exact .inr h.1
      · left; omega
    · rw [if_neg e0]
      have := (hc.2.1.touch (hT (.int .i64 (mkE v a (p + f + c))) (.int .i64 fy)) (fun i hi _ h => by have := hi.2; omega)).mono (fun i hi => hi.1)
      rw [hu] at this
      exact this
def mkRes (v : Vm) (a : Int) (h : Hdr) : Int := if a ≤ 0 then 5 else if hdrE h ≠ 0 then 15 else mkE v a (h.p + h.f + h.k).toNat
def mkVm (v : Vm) (a : Int) (h : Hdr) : Vm := if mkRes v a h = 0 then mkV v a (hdrW h.p.toNat h.f.toNat h.k.toNat) (h.p + h.f + h.k).toNat else v
theorem hdrW_lt {a b c : Nat} (hs : a + b + c ≤ 255) : hdrW a b c < 18446744073709551616 := by
  have := hdrL_lt hs
  unfold hdrW
  omega
set_option maxRecDepth 100000 in
set_option maxHeartbeats 1600000 in
theorem obj_make (hV : VmAt w S q v) (a : Int) (h : Hdr) : Calls Tryz.prog 17 #[spV q, .int .i64 a, hdrV h] w fun e w' => e = .returned (.int .i64 (mkRes v a h)) ∧ Touch S w w' ∧ VmAt w' (plus S w) q (mkVm v a h) := by
  have HV := hid hV
  have hmf : ∀ (fn : Fn) (first cap : Array Value) (w : World), (Instr.makeFunc fn first cap).run Tryz.prog w = .ok (.func fn first cap) w := fun _ _ _ _ => rfl
  have HSAME : Hid (mkRes v a h ≠ 0 → ∀ w', Gr w w' → Touch S w w' ∧ VmAt w' (plus S w) q (mkVm v a h)) := ⟨fun hn w' g => ⟨g.touch S, by unfold mkVm; rw [if_neg hn]; exact (hV.gr g).mono (fun k hk => .inl hk)⟩⟩
  by_cases h0 : a ≤ 0
  · have HR : Hid (mkRes v a h = 5) := ⟨if_pos h0⟩
    have d0 : decide (a ≤ 0) = true := decide_eq_true h0
    unfold spV hdrV
    clear h0 hV
    go_enter Tryz.func17, Tryz.ntmps17
    go_wp2
    go_ret
    exact ⟨ret_int HR.out.symm, HSAME.out (by rw [HR.out]; decide) _ (((Gr.refl w).alloc _).alloc _)⟩
  · have d0 : decide (a ≤ 0) = false := decide_eq_false h0
    by_cases h1 : hdrE h = 0
    · obtain ⟨p, f, c, rfl, hs⟩ := hdrE_zero h1
      have hR : mkRes v a ⟨p, f, c⟩ = mkE v a (p + f + c) := by
        unfold mkRes
        rw [if_neg h0, if_neg (fun h => h h1)]
        congr 1
      have HR := hid hR
      have HM : Hid (mkVm v a ⟨p, f, c⟩ = if mkE v a (p + f + c) = 0 then mkV v a (hdrW p f c) (p + f + c) else v) := ⟨by
        unfold mkVm
        rw [hR]
        congr 1⟩
      have HP := hid (fun W => hdr_put_ok hs W)
      have HRUN := hid (fun (W : World) (g : Gr w W) (bW : Nat) (cA : Rec W w.heap.size 3 [.int .i64 a]) (cW : Rec W bW 33 [.int .u64 (hdrW p f c : Nat)]) (cH : Rec W (w.heap.size + 1) 52 [.int .i64 p, .int .i64 f, .int .i64 c]) =>
        run_make (hV.cut.gr g) hs (hdrW_lt hs) cA cW cH (fun h => absurd h.2 (Nat.lt_irrefl _)) (fun h => by have := h.2; omega))
      unfold hdrV at HP
      unfold spV hdrV
      unfold spV at HRUN
      have hfl := field_fault
      clear hV h0 h1 hR
      go_enter Tryz.func17, Tryz.ntmps17
      go_wp2_with (first
        | (go_at_call 45; refine (HP.out _).mono ?_; rintro e w1 ⟨rfl, hg1⟩; have HG1 := hid hg1; clear hg1)
        | (go_at_call 29; have cA := (((Rec.new w 3 [.int .i64 a]).gr ((Gr.refl _).alloc _)).gr HG1.out).gr ((Gr.refl w1).alloc (.cells #[.int .u64 (hdrW p f c : Nat)] 33)); have cH := ((Rec.new (w.alloc (.cells #[.int .i64 a] 3)) 52 [.int .i64 p, .int .i64 f, .int .i64 c]).gr HG1.out).gr ((Gr.refl w1).alloc (.cells #[.int .u64 (hdrW p f c : Nat)] 33)); rw [World.size_alloc] at cH; have cW := Rec.new w1 33 [.int .u64 (hdrW p f c : Nat)]; refine (HRUN.out _ (((((Gr.refl w).alloc _).alloc _).trans HG1.out).alloc _) _ cA cW cH).mono ?_; rintro e w2 ⟨b, rfl, ht2, hv2⟩; have HT2 := hid ht2; have HV2 := hid hv2; clear ht2 hv2 cA cH cW))
      go_ret
      refine ⟨ret_int HR.out.symm, ((((((Gr.refl w).alloc _).alloc _).trans HG1.out).alloc _).touch S).trans (HT2.out.mono (fun i _ hi => hi.1)), ?_⟩
      rw [HM.out]
      exact HV2.out.mono (fun i hi => .inl hi.1)
    · have HR : Hid (mkRes v a h = 15) := ⟨by unfold mkRes; rw [if_neg h0, if_pos h1]⟩
      have HP := hid (fun W => hdr_put_bad h1 W)
      unfold hdrV at HP
      unfold spV hdrV
      clear hV h0 h1
      go_enter Tryz.func17, Tryz.ntmps17
      go_wp2_with (go_at_call 45; refine (HP.out _).mono ?_; rintro e w1 ⟨rfl, hg1⟩; have HG1 := hid ((((Gr.refl w).alloc _).alloc _).trans hg1); clear hg1)
      go_ret
      exact ⟨ret_int HR.out.symm, HSAME.out (by rw [HR.out]; decide) _ (HG1.out.alloc _)⟩
end
end Go.Proofs.YtlkifhoedfjlaaaGreatDoor
