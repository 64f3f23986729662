/- Layer 23: package plan, but Pieces. -/
import Derived.Test.YtlkifhoedfjlaaaDoorFwdN
import Derived.Test.YtlkifhoedfjlaaaDoorUp
namespace Go.Proofs.YtlkifhoedfjlaaaDoor
open Go.RowKit Word

/-- A plan p lies in w, all of it from block F on. -/
def Pln (w : World) (F p n B : Nat) (base : Nat) (L : List Ob) : Prop :=
  p < w.heap.size ∧ F ≤ p ∧ blockOk B = true ∧ ∃ f, w.cell? ⟨p, 0, none⟩ = some (.pointer (some ⟨f, 0, none⟩)) ∧ w.cell? ⟨p, 1, none⟩ = some (.int .i64 B) ∧ Fwd w F f n B base L
theorem Pln.gr {w w' : World} {F p n B base : Nat} {L : List Ob} (h : Pln w F p n B base L) (g : Gr w w') : Pln w' F p n B base L := by
  obtain ⟨h1, h2, h3, f, c0, c1, hF⟩ := h
  exact ⟨Nat.lt_of_lt_of_le h1 g.size, h2, h3, f, (g.cell h1 0).trans c0, (g.cell h1 1).trans c1, hF.gr g⟩
def NewPln (w : World) (n : Nat) (L : List Ob) (k b : Int) (e : Ending) (w' : World) : Prop :=
  Gr w w' ∧ (((blockOk k && baseOk b) = false ∧ e = .returned (.tuple #[.pointer none, .int .i64 5])) ∨ ((blockOk k && baseOk b) = true ∧ ∃ p B base : Nat, k = B ∧ b = base ∧ e = .returned (.tuple #[.pointer (some ⟨p, 0, none⟩), .int .i64 0]) ∧ Pln w' w.heap.size p n B base L))
set_option maxHeartbeats 800000 in
theorem pln_new {w : World} {m p1 b1 p2 b2 n : Nat} {L : List Ob} (hE : Ext w m p1 b1 p2 b2 n L) (hT : TabAt w) (k b : Int) (hk : k ≤ 9223372036854775807) :
    Calls Tryd.prog 40 #[.pointer (some ⟨m, 0, none⟩), .int .i64 k, .int .i64 b] w (NewPln w n L k b) := by
  have HE := hid hE
  have HT := hid hT
  clear hE hT
  cases hgo : (blockOk k && baseOk b) with
  | false =>
    have HG := hid hgo
    clear hgo
    go_enter Tryd.func40, Tryd.ntmps40
    go_wp2_with (go_at_call 22; refine (fwd_new HE.out HT.out k b hk).mono ?_; rintro e w2 ⟨hg2, ⟨-, rfl⟩ | ⟨hb, -⟩⟩; rotate_left; (rw [HG.out] at hb; cases hb); have HG2 := hid hg2; clear hg2)
    go_ret2
    exact ⟨HG2.out, .inl ⟨HG.out, rfl⟩⟩
  | true =>
    have HG := hid hgo
    have HK := hid (Bool.and_eq_true_iff.1 hgo).1
    clear hgo
    go_enter Tryd.func40, Tryd.ntmps40
    go_wp2_with (go_at_call 22; refine (fwd_new HE.out HT.out k b hk).mono ?_; rintro e w2 ⟨hg2, ⟨hb, -⟩ | ⟨-, f, B, base, hB, hbs, rfl, hO⟩⟩; (rw [HG.out] at hb; cases hb); have HG2 := hid hg2; have HO := hid hO; have HB := hid hB; have HBS := hid hbs; clear hg2 hO hB hbs)
    go_ret2
    have hs := HG2.out.size
    refine ⟨HG2.out.alloc _, .inr ⟨HG.out, _, B, base, HB.out, HBS.out, rfl, by simp, by omega, by rw [← HB.out]; exact HK.out, f, World.cell?_alloc_new .., ?_, HO.out.gr ((Gr.refl _).alloc _)⟩⟩
    rw [← HB.out]; exact World.cell?_alloc_new ..
theorem pln_new_nil (k b : Int) (w : World) : Calls Tryd.prog 40 #[.pointer none, .int .i64 k, .int .i64 b] w fun e w' => e = .returned (.tuple #[.pointer none, .int .i64 9]) ∧ w = w' := by
  go_enter Tryd.func40, Tryd.ntmps40
  go_wp2_with (go_at_call 22; refine (fwd_new_nil k b _).mono ?_; rintro e w1 ⟨rfl, rfl⟩)
  go_ret2
  exact ⟨rfl, rfl⟩
theorem pln_blocks_nil (w : World) : Calls Tryd.prog 41 #[.pointer none] w fun e w' => e = .returned (.int .i64 0) ∧ w = w' := by
  go_enter Tryd.func41, Tryd.ntmps41
  go_wp2
  go_ret
  exact ⟨rfl, rfl⟩
theorem pln_block_nil (b : Int) (w : World) : Calls Tryd.prog 47 #[.pointer none, .int .i64 b] w fun e w' => e = .returned (.tuple #[.int .i64 0, .int .i64 9]) ∧ w = w' := by
  go_enter Tryd.func47, Tryd.ntmps47
  go_wp2
  go_ret2
  exact ⟨rfl, rfl⟩
theorem pln_range_nil (b : Int) (w : World) : Calls Tryd.prog 42 #[.pointer none, .int .i64 b] w fun e w' => e = .returned (.tuple #[.int .i64 0, .int .i64 0, .int .i64 9]) ∧ w = w' := by
  go_enter Tryd.func42, Tryd.ntmps42
  go_wp2
  go_ret3
  exact ⟨rfl, rfl⟩
theorem pln_pieces_nil (b : Int) (w : World) : Calls Tryd.prog 43 #[.pointer none, .int .i64 b] w fun e w' => e = .returned (.tuple #[.slice none 0 0, .int .i64 9]) ∧ w = w' := by
  go_enter Tryd.func43, Tryd.ntmps43
  go_wp2_with (go_at_call 42; refine (pln_range_nil b _).mono ?_; rintro e w1 ⟨rfl, rfl⟩)
  go_ret2
  exact ⟨rfl, rfl⟩
theorem pln_forward_nil (w : World) : Calls Tryd.prog 44 #[.pointer none] w fun e w' => e = .returned (.pointer none) ∧ w = w' := by
  go_enter Tryd.func44, Tryd.ntmps44
  go_wp2
  go_ret
  exact ⟨rfl, rfl⟩
section
variable {w : World} {F p n B base : Nat} {L : List Ob}
theorem pln_forward {f : Nat} (c0 : w.cell? ⟨p, 0, none⟩ = some (.pointer (some ⟨f, 0, none⟩))) : Calls Tryd.prog 44 #[.pointer (some ⟨p, 0, none⟩)] w fun e w' => e = .returned (.pointer (some ⟨f, 0, none⟩)) ∧ w = w' := by
  go_enter Tryd.func44, Tryd.ntmps44
  go_wp2
  go_ret
  exact ⟨rfl, rfl⟩
set_option maxRecDepth 100000 in
set_option maxHeartbeats 800000 in
theorem pln_blocks (hP : Pln w F p n B base L) : Gets Tryd.prog 41 #[.pointer (some ⟨p, 0, none⟩)] w (.int .i64 (nbl (sizes L) B : Nat)) := by
  obtain ⟨h1, h2, h3, f, c0, c1, hF⟩ := hP
  obtain ⟨hg, hn⟩ := hF.good
  have hs := sizes_le hg
  have hbp := blockOk_pos h3
  have HF := hid hF
  have HB := hid h3
  obtain ⟨s, hs'⟩ : ∃ s, s = sizes L := ⟨_, rfl⟩
  have HS := hid hs'.symm
  rw [← hs'] at hs ⊢
  obtain ⟨u, hu⟩ : ∃ u, u = (s + B - 1) / B * B := ⟨_, rfl⟩
  obtain ⟨N, hN⟩ : ∃ N, N = nbl s B := ⟨_, rfl⟩
  have hq : (u : Int) / (B : Int) = (N : Int) := by
    rw [hu, hN]; unfold nbl
    rw [Int.natCast_mul]; exact Int.mul_ediv_cancel _ (by omega)
  have hul : (u : Int) ≤ 1049600 := by
    have := Nat.div_mul_le_self (s + B - 1) B
    omega
  have HU := hid hu.symm
  have hNl : N ≤ s := by rw [hN]; exact nbl_le (by omega)
  rw [← hN]
  have z0 : ∀ xs m, (grow w xs m).cell? ⟨p, 0, none⟩ = some (.pointer (some ⟨f, 0, none⟩)) := fun xs m => ((grown w xs m).cell h1 0).trans c0
  have z1 : ∀ xs m, (grow w xs m).cell? ⟨p, 1, none⟩ = some (.int .i64 B) := fun xs m => ((grown w xs m).cell h1 1).trans c1
  have hb1 : (1 : Int) ≤ (B : Int) := hbp.1
  have hB0 : ((B : Int) == 0) = false := beq_eq_false_iff_ne.2 (by omega)
  clear hF h3 hg hs' hu hN hbp
  unfold Gets
  go_enter Tryd.func41, Tryd.ntmps41
  go_wp2
  refine wp_region_by (by kernel_rfl) (by kernel_rfl) ?_
  repeat (go_big_quiet_step (first
    | (go_at_call 36; have hc := fun xs m => fwd_words (HF.out.gr (grown w xs m)); simp only [HS.out] at hc; exact Gets.grown_same (hc _ _))
    | (go_at_call 68; have hc := fun xs m => up_block s B (Nat.le_trans hs (Nat.le_trans hn (by decide))) HB.out (grow w xs m); simp only [HU.out] at hc; exact Gets.grown_same (hc _ _))))
  refine wpQuiet_nil ?_
  intro _ hw'
  obtain ⟨⟨xs, nq⟩, hw''⟩ := hw'
  subst hw''
  go_wp2
  go_ret
  exact ⟨rfl, grown w _ _⟩
def rngIn (L : List Ob) (B : Nat) (k : Int) : Bool := decide (0 ≤ k) && decide (k < (nbl (sizes L) B : Nat))
def rngA (L : List Ob) (B : Nat) (base k : Int) : Int := if rngIn L B k then base + k * B else 0
def rngZ (L : List Ob) (B : Nat) (base k : Int) : Int := if rngIn L B k then base + min (k * B + B) (sizes L : Nat) else 0
def rngE (L : List Ob) (B : Nat) (k : Int) : Int := if rngIn L B k then 0 else 11
theorem rng_no {L : List Ob} {B : Nat} {base k : Int} (h : rngIn L B k = false) : rngA L B base k = 0 ∧ rngZ L B base k = 0 ∧ rngE L B k = 11 := by unfold rngA rngZ rngE; rw [h]; exact ⟨rfl, rfl, rfl⟩
theorem rng_yes {L : List Ob} {B : Nat} {base k : Int} (h : rngIn L B k = true) : rngA L B base k = base + k * B ∧ rngZ L B base k = base + min (k * B + B) (sizes L : Nat) ∧ rngE L B k = 0 := by unfold rngA rngZ rngE; rw [h]; exact ⟨rfl, rfl, rfl⟩
theorem rng_false {L : List Ob} {B : Nat} {k : Int} (h : k < 0 ∨ ((nbl (sizes L) B : Nat) : Int) ≤ k) : rngIn L B k = false := by
  unfold rngIn
  rcases h with h | h
  · rw [decide_eq_false (by omega)]; rfl
  · rw [decide_eq_false (show ¬ k < ((nbl (sizes L) B : Nat) : Int) by omega), Bool.and_false]
/-- A block's first word lies ahead of the last live one. -/
theorem rng_lt {L : List Ob} {B j : Nat} (hB : 1 ≤ B) (h : rngIn L B j = true) : j * B < sizes L := by
  unfold rngIn at h
  simp at h
  exact (nbl_lt hB).1 h
set_option maxRecDepth 100000 in
set_option maxHeartbeats 1600000 in
theorem pln_range (hP : Pln w F p n B base L) (k : Int) : Gets Tryd.prog 42 #[.pointer (some ⟨p, 0, none⟩), .int .i64 k] w (.tuple #[.int .i64 (rngA L B base k), .int .i64 (rngZ L B base k), .int .i64 (rngE L B k)]) := by
  have HP := hid hP
  obtain ⟨h1, h2, h3, f, c0, c1, hF⟩ := hP
  obtain ⟨hg, hn⟩ := hF.good
  have hs := sizes_le hg
  have hbp := blockOk_pos h3
  have HF := hid hF
  have hbs := hF.2.2.1
  clear hF h3 hg
  obtain ⟨N, hN⟩ : ∃ N, N = nbl (sizes L) B := ⟨_, rfl⟩
  have HN := hid hN.symm
  unfold Gets
  by_cases hk0 : k < 0
  · have E := hid (rng_no (base := base) (rng_false (L := L) (B := B) (.inl hk0)))
    rw [E.out.1, E.out.2.1, E.out.2.2]
    have d0 : decide (k < 0) = true := decide_eq_true hk0
    clear hN
    go_enter Tryd.func42, Tryd.ntmps42
    go_wp2
    go_ret3
    exact ⟨rfl, Gr.refl _⟩
  · obtain ⟨j, rfl⟩ : ∃ j : Nat, k = j := ⟨k.toNat, by omega⟩
    have d0 : decide ((j : Int) < 0) = false := decide_eq_false hk0
    by_cases hk1 : N ≤ j
    · have E := hid (rng_no (base := base) (rng_false (L := L) (B := B) (k := j) (.inr (by omega))))
      rw [E.out.1, E.out.2.1, E.out.2.2]
      have d1 : decide (N ≤ j) = true := decide_eq_true hk1
      clear hN
      go_enter Tryd.func42, Tryd.ntmps42
      go_wp2_with (go_at_call 41; refine (pln_blocks HP.out).mono ?_; rintro e w1 ⟨rfl, hg1⟩; rw [HN.out])
      go_ret3
      exact ⟨rfl, hg1⟩
    · have hin : rngIn L B j = true := by unfold rngIn; rw [← hN]; simp; omega
      have hlt := rng_lt (by omega) hin
      have E := hid (rng_yes (base := base) hin)
      rw [E.out.1, E.out.2.1, E.out.2.2]
      obtain ⟨t, ht⟩ : ∃ t, t = j * B := ⟨_, rfl⟩
      have hmul : (j : Int) * (B : Int) = (t : Int) := by rw [ht]; push_cast; rfl
      rw [← ht] at hlt
      rw [hmul]
      obtain ⟨s, hs'⟩ : ∃ s, s = sizes L := ⟨_, rfl⟩
      have HS := hid hs'.symm
      rw [← hs'] at hs hlt ⊢
      have d1 : decide (N ≤ j) = false := decide_eq_false hk1
      have w1 : IntKind.i64.wrap ((j : Int) * (B : Int)) = (t : Int) := by rw [hmul]; exact IntWalk.i64_in _ (by omega)
      have w2 : IntKind.i64.wrap ((base : Int) + (t : Int)) = (base : Int) + (t : Int) := IntWalk.i64_in _ (by omega)
      have w3 : IntKind.i64.wrap ((base : Int) + (t : Int) + (B : Int)) = (base : Int) + (t : Int) + (B : Int) := IntWalk.i64_in _ (by omega)
      have hmin : ∀ w', (Builtin.min_ #[3, 3] 3 #[.int .i64 ((base : Int) + (t : Int) + (B : Int)), .int .i64 ((base : Int) + (s : Int))]).run Tryd.prog w' = .ok (.int .i64 ((base : Int) + min ((t : Int) + (B : Int)) (s : Int))) w' := fun w' => by
        rw [run_minB2]
        rw [show min ((base : Int) + (t : Int) + (B : Int)) ((base : Int) + (s : Int)) = (base : Int) + min ((t : Int) + (B : Int)) (s : Int) by omega]
      clear hN hs' ht hin hbp hmul
      go_enter Tryd.func42, Tryd.ntmps42
      go_wp2_with (go_at_call 41; refine (pln_blocks HP.out).mono ?_; rintro e w1 ⟨rfl, hg1⟩; rw [HN.out])
      have HG1 := hid hg1
      clear hg1
      rename World => wz
      have z0 : ∀ xs m, (grow wz xs m).cell? ⟨p, 0, none⟩ = some (.pointer (some ⟨f, 0, none⟩)) := fun xs m => ((HG1.out.trans (grown wz xs m)).cell h1 0).trans c0
      have z1 : ∀ xs m, (grow wz xs m).cell? ⟨p, 1, none⟩ = some (.int .i64 B) := fun xs m => ((HG1.out.trans (grown wz xs m)).cell h1 1).trans c1
      refine wp_region_by (by kernel_rfl) (by kernel_rfl) ?_
      repeat (go_big_quiet_step ((go_at_call 35; have hc := fun xs m => fwd_base (HF.out.gr (HG1.out.trans (grown wz xs m))); exact Gets.grown_same (hc _ _))))
      refine wpQuiet_nil ?_
      intro _ hw'
      obtain ⟨⟨xs, nq⟩, hw''⟩ := hw'
      subst hw''
      obtain ⟨wy, hwy⟩ : ∃ wy, wy = grow wz xs nq := ⟨_, rfl⟩
      have HG2 := hid (show Gr w wy from by rw [hwy]; exact HG1.out.trans (grown _ _ _))
      have y0 : ∀ xs m, (grow wy xs m).cell? ⟨p, 0, none⟩ = some (.pointer (some ⟨f, 0, none⟩)) := fun xs m => ((HG2.out.trans (grown wy xs m)).cell h1 0).trans c0
      have y1 : ∀ xs m, (grow wy xs m).cell? ⟨p, 1, none⟩ = some (.int .i64 B) := fun xs m => ((HG2.out.trans (grown wy xs m)).cell h1 1).trans c1
      rw [← hwy]
      clear hwy z0 z1
      go_wp2
      refine wp_region_by (by kernel_rfl) (by kernel_rfl) ?_
      repeat (go_big_quiet_step ((go_at_call 25; have hc := fun xs m => fwd_top (HF.out.gr (HG2.out.trans (grown wy xs m))); simp only [HS.out] at hc; exact Gets.grown (hc _ _))))
      refine wpQuiet_nil ?_
      intro _ hw'
      obtain ⟨⟨ys, mq⟩, hw''⟩ := hw'
      subst hw''
      go_wp2
      go_ret3
      exact ⟨rfl, HG2.out.trans (grown wy _ _)⟩
end
end Go.Proofs.YtlkifhoedfjlaaaDoor
