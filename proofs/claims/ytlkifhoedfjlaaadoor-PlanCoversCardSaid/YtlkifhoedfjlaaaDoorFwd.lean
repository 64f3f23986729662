/- Layer 22: package forward. -/
import Derived.Test.YtlkifhoedfjlaaaDoorFwdP
namespace Go.Proofs.YtlkifhoedfjlaaaDoor
open Go.RowKit Word

/-- A forwarding map f lies in w, all of it from block F on. -/
def Fwd (w : World) (F f n B : Nat) (base : Nat) (L : List Ob) : Prop :=
  f < w.heap.size ∧ F ≤ f ∧ base < 2147483648 ∧ ∃ t o p1 b1 p2 b2, w.cell? ⟨f, 0, none⟩ = some (.pointer (some ⟨t, 0, none⟩)) ∧ w.cell? ⟨f, 1, none⟩ = some (.pointer (some ⟨o, 0, none⟩)) ∧ w.cell? ⟨f, 2, none⟩ = some (.int .i64 base) ∧
    OffT w F t n B L ∧ Ext w o p1 b1 p2 b2 n L ∧ F ≤ o ∧ F ≤ p1 ∧ F ≤ b1 ∧ F ≤ p2 ∧ F ≤ b2
theorem Fwd.touch {S : Nat → Prop} {w w' : World} {F f n B base : Nat} {L : List Ob} (h : Fwd w F f n B base L) (t : Touch S w w') (hS : ∀ k, F ≤ k → k < w.heap.size → ¬ S k) : Fwd w' F f n B base L := by
  obtain ⟨h1, h2, h3, tt, o, p1, b1, p2, b2, c0, c1, c2, hO, hE, k1, k2, k3, k4, k5⟩ := h
  exact ⟨Nat.lt_of_lt_of_le h1 t.size, h2, h3, tt, o, p1, b1, p2, b2, (t.cell h1 (hS f h2 h1) 0).trans c0, (t.cell h1 (hS f h2 h1) 1).trans c1, (t.cell h1 (hS f h2 h1) 2).trans c2, hO.touch t hS, hE.touch t (hS _ k1 hE.hm) (hS _ k2 hE.v1.hp) (hS _ k3 hE.v1.hb) (hS _ k4 hE.v2.hp) (hS _ k5 hE.v2.hb), k1, k2, k3, k4, k5⟩
theorem Fwd.gr {w w' : World} {F f n B base : Nat} {L : List Ob} (h : Fwd w F f n B base L) (g : Gr w w') : Fwd w' F f n B base L := h.touch (g.touch (fun _ => False)) (fun _ _ _ h => h)
theorem Fwd.good {w : World} {F f n B base : Nat} {L : List Ob} (h : Fwd w F f n B base L) : Good n L ∧ n ≤ 1048576 := by
  obtain ⟨_, _, _, _, _, _, _, _, _, _, _, _, hO, hE, _⟩ := h
  exact ⟨hE.good, hE.nb.2⟩
theorem overs_to {n : Nat} {L : List Ob} (h : Good n L) (hn : n ≤ 1048576) (a : Int) : 0 ≤ overs L 0 a ∧ overs L 0 a ≤ 1048576 := by
  rw [← liveN_eq h]
  have : liveN L n 0 a ≤ n := cnt_le _ _
  omega
section
variable {w : World} {F f n B base : Nat} {L : List Ob}
set_option maxRecDepth 100000 in
set_option maxHeartbeats 800000 in
theorem fwd_to (hF : Fwd w F f n B base L) (a : Int) : Gets Tryd.prog 23 #[.pointer (some ⟨f, 0, none⟩), .int .i64 a] w (.tuple #[.int .i64 (toV L base a), .int .i64 (toE L a)]) := by
  obtain ⟨hg, hn⟩ := hF.good
  obtain ⟨h1, h2, h3, t, o, p1, b1, p2, b2, c0, c1, c2, hO, hE, -⟩ := hF
  have HO := hid hO
  have hov := overs_to hg hn a
  have hl := live_find (L := L) a
  clear hO hE hg
  by_cases hf : findO L a < L.length
  · have HV : Hid (toV L base a = base + overs L 0 a ∧ toE L a = 0) := ⟨by unfold toV toE; rw [if_pos hf, if_pos hf]; exact ⟨rfl, rfl⟩⟩
    have HL : Hid ((decide (0 ≤ a) && liveB L a.toNat) = true) := ⟨by rw [hl, decide_eq_true hf]⟩
    rw [HV.out.1, HV.out.2]
    obtain ⟨ov, hov2⟩ : ∃ ov, ov = overs L 0 a := ⟨_, rfl⟩
    rw [← hov2] at hov ⊢
    have HOV := hid hov2.symm
    have z0 : ∀ xs m, (grow w xs m).cell? ⟨f, 0, none⟩ = some (.pointer (some ⟨t, 0, none⟩)) := fun xs m => ((grown w xs m).cell h1 0).trans c0
    have z2 : ∀ xs m, (grow w xs m).cell? ⟨f, 2, none⟩ = some (.int .i64 base) := fun xs m => ((grown w xs m).cell h1 2).trans c2
    have hwr : IntKind.i64.wrap ((base : Int) + ov) = (base : Int) + ov := IntWalk.i64_in _ (by omega)
    clear hl hf hov2
    unfold Gets
    go_enter Tryd.func23, Tryd.ntmps23
    go_wp2_with (go_at_call 18; refine (off_is HO.out a).mono ?_; rintro e w1 ⟨rfl, rfl⟩; rw [HL.out])
    refine wp_region_by (by kernel_rfl) (by kernel_rfl) ?_
    repeat (go_big_quiet_step ((go_at_call 15; have hc := fun xs m => off_before (HO.out.gr (grown w xs m)) a; simp only [HOV.out] at hc; exact Gets.grown (hc _ _))))
    refine wpQuiet_nil ?_
    intro _ hw'
    obtain ⟨⟨xs, nq⟩, hw''⟩ := hw'
    subst hw''
    go_wp2
    go_ret2
    exact ⟨rfl, grown w _ _⟩
  · have HV := hid (toV_no (base := base) hf)
    have HL : Hid ((decide (0 ≤ a) && liveB L a.toNat) = false) := ⟨by rw [hl, decide_eq_false hf]⟩
    rw [HV.out.1, HV.out.2]
    clear hl hf
    unfold Gets
    go_enter Tryd.func23, Tryd.ntmps23
    go_wp2_with (go_at_call 18; refine (off_is HO.out a).mono ?_; rintro e w1 ⟨rfl, rfl⟩; rw [HL.out])
    go_ret2
    exact ⟨rfl, Gr.refl _⟩
theorem fwd_to_nil (a : Int) (w : World) : Calls Tryd.prog 23 #[.pointer none, .int .i64 a] w fun e w' => e = .returned (.tuple #[.int .i64 0, .int .i64 9]) ∧ w = w' := by
  go_enter Tryd.func23, Tryd.ntmps23
  go_wp2
  go_ret2
  exact ⟨rfl, rfl⟩
theorem fwd_base (hF : Fwd w F f n B base L) : Calls Tryd.prog 35 #[.pointer (some ⟨f, 0, none⟩)] w fun e w' => e = .returned (.int .i64 base) ∧ w = w' := by
  obtain ⟨h1, h2, h3, t, o, p1, b1, p2, b2, c0, c1, c2, -⟩ := hF
  go_enter Tryd.func35, Tryd.ntmps35
  go_wp2
  go_ret
  exact ⟨rfl, rfl⟩
theorem fwd_base_nil (w : World) : Calls Tryd.prog 35 #[.pointer none] w fun e w' => e = .returned (.int .i64 0) ∧ w = w' := by
  go_enter Tryd.func35, Tryd.ntmps35
  go_wp2
  go_ret
  exact ⟨rfl, rfl⟩
theorem fwd_words (hF : Fwd w F f n B base L) : Calls Tryd.prog 36 #[.pointer (some ⟨f, 0, none⟩)] w fun e w' => e = .returned (.int .i64 (sizes L : Nat)) ∧ w = w' := by
  obtain ⟨h1, h2, h3, t, o, p1, b1, p2, b2, c0, c1, c2, hO, -⟩ := hF
  have HO := hid hO
  clear hO
  go_enter Tryd.func36, Tryd.ntmps36
  go_wp2_with (go_at_call 17; refine (off_live HO.out).mono ?_; rintro e w1 ⟨rfl, rfl⟩)
  go_ret
  exact ⟨rfl, rfl⟩
theorem fwd_words_nil (w : World) : Calls Tryd.prog 36 #[.pointer none] w fun e w' => e = .returned (.int .i64 0) ∧ w = w' := by
  go_enter Tryd.func36, Tryd.ntmps36
  go_wp2
  go_ret
  exact ⟨rfl, rfl⟩
set_option maxHeartbeats 800000 in
theorem fwd_top (hF : Fwd w F f n B base L) : Gets Tryd.prog 25 #[.pointer (some ⟨f, 0, none⟩)] w (.int .i64 ((base : Int) + (sizes L : Nat))) := by
  obtain ⟨hg, hn⟩ := hF.good
  have hs := sizes_le hg
  obtain ⟨h1, h2, h3, t, o, p1, b1, p2, b2, c0, c1, c2, hO, -⟩ := hF
  have HO := hid hO
  clear hO hg
  have z0 : ∀ xs m, (grow w xs m).cell? ⟨f, 0, none⟩ = some (.pointer (some ⟨t, 0, none⟩)) := fun xs m => ((grown w xs m).cell h1 0).trans c0
  have z2 : ∀ xs m, (grow w xs m).cell? ⟨f, 2, none⟩ = some (.int .i64 base) := fun xs m => ((grown w xs m).cell h1 2).trans c2
  have hwr : IntKind.i64.wrap ((base : Int) + (sizes L : Nat)) = (base : Int) + (sizes L : Nat) := IntWalk.i64_in _ (by omega)
  unfold Gets
  go_enter Tryd.func25, Tryd.ntmps25
  go_wp2
  refine wp_region_by (by kernel_rfl) (by kernel_rfl) ?_
  repeat (go_big_quiet_step ((go_at_call 17; have hc := fun xs m => off_live (HO.out.gr (grown w xs m)); exact Gets.grown_same (hc _ _))))
  refine wpQuiet_nil ?_
  intro _ hw'
  obtain ⟨⟨xs, nq⟩, hw''⟩ := hw'
  subst hw''
  go_wp2
  go_ret
  exact ⟨rfl, grown w _ _⟩
theorem fwd_top_nil (w : World) : Calls Tryd.prog 25 #[.pointer none] w fun e w' => e = .returned (.int .i64 0) ∧ w = w' := by
  go_enter Tryd.func25, Tryd.ntmps25
  go_wp2
  go_ret
  exact ⟨rfl, rfl⟩
set_option maxRecDepth 100000 in
set_option maxHeartbeats 800000 in
theorem fwd_from (hF : Fwd w F f n B base L) (hT : TabAt w) (b : Int) (_hb : b ≤ 9223372036854775807) : Gets Tryd.prog 24 #[.pointer (some ⟨f, 0, none⟩), .int .i64 b] w (.tuple #[.int .i64 (fromV L base b), .int .i64 (fromE L base b)]) := by
  obtain ⟨hg, hn⟩ := hF.good
  have hs := sizes_le hg
  have HF := hid hF
  have HT := hid hT
  obtain ⟨h1, h2, h3, t, o, p1, b1, p2, b2, c0, c1, c2, hO, -⟩ := hF
  have HO := hid hO
  clear hO hg hT
  by_cases hb1 : b < base
  · have E := hid (from_no (inF_false (L := L) (base := base) (b := b) (by omega)))
    rw [E.out.1, E.out.2.2]
    unfold Gets
    go_enter Tryd.func24, Tryd.ntmps24
    go_wp2
    go_ret2
    exact ⟨rfl, Gr.refl _⟩
  · by_cases hb2 : (base : Int) + (sizes L : Nat) ≤ b
    · have E := hid (from_no (inF_false (L := L) (base := base) (b := b) (by omega)))
      rw [E.out.1, E.out.2.2]
      have d1 : decide (b < (base : Int)) = false := decide_eq_false hb1
      have d2 : decide ((base : Int) + (sizes L : Nat) ≤ b) = true := decide_eq_true hb2
      unfold Gets
      go_enter Tryd.func24, Tryd.ntmps24
      go_wp2_with (go_at_call 25; refine (fwd_top HF.out).mono ?_; rintro e w1 ⟨rfl, hg1⟩)
      go_ret2
      exact ⟨rfl, hg1⟩
    · have hin : inF L base b = true := inF_iff.2 ⟨by omega, by omega⟩
      have E : Hid (fromV L base b = wordV L (b - base) ∧ fromE L base b = 0) := ⟨by unfold fromV fromE; rw [hin]; exact ⟨rfl, rfl⟩⟩
      rw [E.out.1, E.out.2]
      obtain ⟨q, hq⟩ : ∃ q, q = b - (base : Int) := ⟨_, rfl⟩
      have HQ := hid hq
      have hq2 : (0 : Int) ≤ b - base := by omega
      have d1 : decide (b < (base : Int)) = false := decide_eq_false hb1
      have d2 : decide ((base : Int) + (sizes L : Nat) ≤ b) = false := decide_eq_false hb2
      have hwr : IntKind.i64.wrap (b - (base : Int)) = b - (base : Int) := IntWalk.i64_in _ (by omega)
      clear hin hq
      unfold Gets
      go_enter Tryd.func24, Tryd.ntmps24
      go_wp2_with (go_at_call 25; refine (fwd_top HF.out).mono ?_; rintro e w1 ⟨rfl, hg1⟩)
      have HG1 := hid hg1
      have z0 : ∀ xs m, (grow w1 xs m).cell? ⟨f, 0, none⟩ = some (.pointer (some ⟨t, 0, none⟩)) := fun xs m => ((HG1.out.trans (grown w1 xs m)).cell h1 0).trans c0
      have z2 : ∀ xs m, (grow w1 xs m).cell? ⟨f, 2, none⟩ = some (.int .i64 base) := fun xs m => ((HG1.out.trans (grown w1 xs m)).cell h1 2).trans c2
      clear hg1
      refine wp_region_by (by kernel_rfl) (by kernel_rfl) ?_
      repeat (go_big_quiet_step ((go_at_call 14; have hc := fun xs m => off_word (HO.out.gr (HG1.out.trans (grown w1 xs m))) ((HG1.out.trans (grown w1 xs m)).tab HT.out.lt HT.out) (b - (base : Int)); exact Gets.grown (hc _ _))))
      refine wpQuiet_nil ?_
      intro _ hw'
      obtain ⟨⟨xs, nq⟩, hw''⟩ := hw'
      subst hw''
      go_wp2
      go_ret2
      exact ⟨rfl, HG1.out.trans (grown w1 _ _)⟩
theorem fwd_from_nil (b : Int) (w : World) : Calls Tryd.prog 24 #[.pointer none, .int .i64 b] w fun e w' => e = .returned (.tuple #[.int .i64 0, .int .i64 9]) ∧ w = w' := by
  go_enter Tryd.func24, Tryd.ntmps24
  go_wp2
  go_ret2
  exact ⟨rfl, rfl⟩
theorem fwd_object_nil (b : Int) (w : World) : Calls Tryd.prog 34 #[.pointer none, .int .i64 b] w fun e w' => e = .returned (.tuple #[.int .i64 0, .int .i64 0, .int .i64 9]) ∧ w = w' := by
  go_enter Tryd.func34, Tryd.ntmps34
  go_wp2_with (go_at_call 24; refine (fwd_from_nil b _).mono ?_; rintro e w1 ⟨rfl, rfl⟩)
  go_ret3
  exact ⟨rfl, rfl⟩
set_option maxRecDepth 100000 in
set_option maxHeartbeats 800000 in
theorem fwd_object (hF : Fwd w F f n B base L) (hT : TabAt w) (b : Int) (hb : b ≤ 9223372036854775807) : Gets Tryd.prog 34 #[.pointer (some ⟨f, 0, none⟩), .int .i64 b] w (.tuple #[.int .i64 (objS L base b), .int .i64 (objZ L base b), .int .i64 (fromE L base b)]) := by
  obtain ⟨hg, hn⟩ := hF.good
  have HF := hid hF
  have HT := hid hT
  obtain ⟨h1, h2, h3, t, o, p1, b1, p2, b2, c0, c1, c2, -, hE, -⟩ := hF
  have HE := hid hE
  clear hE hT
  cases hin : inF L base b with
  | false =>
    have E := hid (from_no hin)
    have E2 : Hid (objS L base b = 0 ∧ objZ L base b = 0) := ⟨by unfold objS objZ; rw [hin]; exact ⟨rfl, rfl⟩⟩
    rw [E2.out.1, E2.out.2, E.out.2.2]
    clear hg hin
    unfold Gets
    go_enter Tryd.func34, Tryd.ntmps34
    go_wp2_with (go_at_call 24; refine (fwd_from HF.out HT.out b hb).mono ?_; rintro e w1 ⟨rfl, hg1⟩; rw [E.out.1, E.out.2.2])
    go_ret3
    exact ⟨rfl, hg1⟩
  | true =>
    obtain ⟨j, hj, e1, e2, e3, e4, e5⟩ := from_in hg hin
    have E2 : Hid (objS L base b = obS L (findO L (fromV L base b)) ∧ objZ L base b = obZ L (findO L (fromV L base b))) := ⟨by
      rw [e4]; unfold objS objZ; rw [hin, if_pos rfl, if_pos rfl]
      unfold fromI at e1; rw [hin, if_pos rfl] at e1
      rw [Int.ofNat.inj e1]; exact ⟨rfl, rfl⟩⟩
    have E5 := hid e5
    obtain ⟨v, hv⟩ : ∃ v, v = fromV L base b := ⟨_, rfl⟩
    rw [E2.out.1, E2.out.2, e5, ← hv]
    have HV := hid hv.symm
    have E4 : Hid (findO L v < L.length) := ⟨by rw [hv, e4]; exact hj⟩
    clear hg hin e1 e2 e3 e4 e5 hv
    unfold Gets
    go_enter Tryd.func34, Tryd.ntmps34
    go_wp2_with (first
      | (go_at_call 24; refine (fwd_from HF.out HT.out b hb).mono ?_; rintro e w1 ⟨rfl, hg1⟩; rw [HV.out, E5.out]; have HG1 := hid hg1; have c11 := (hg1.cell h1 1).trans c1; clear hg1)
      | (go_at_call 67; refine (ext_find (HE.out.gr HG1.out) (HG1.out.tab HT.out.lt HT.out) v).mono ?_; rintro e w2 ⟨rfl, rfl⟩; unfold tellO))
    go_ret3
    exact ⟨rfl, HG1.out⟩
end
end Go.Proofs.YtlkifhoedfjlaaaDoor
