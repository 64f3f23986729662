/- BitvecPlays: the walk. -/
import Derived.Test.YtlbbkpjfoabobaaDoorDone11
import Derived.Test.YtlbbkpjfoabobaaDoorQuiet
namespace Go.Proofs.YtlbbkpjfoabobaaDoor
open Go.RowKit Word

theorem infoBool : (Tryd.prog.info? 4).map (fun i => (i.zero, i.size, i.bytes)) = some (some (.bool false), 1, 1) := by kernel_rfl
theorem made_bools (n : Nat) : (madeCells #[.bool false] n).toList = (List.replicate n false).map Value.bool := by
  unfold madeCells
  apply List.ext_getElem
  · simp
  · intro i h1 h2; simp [Nat.mod_one]
theorem pick_any {w : World} {p b : Nat} {l : List Bool} (hV : Vec w p b l) (q : Int) (hq : q ≤ 9223372036854775807) :
    Calls Tryd.prog 20 #[.pointer (some ⟨p, 0, none⟩), .int .i64 q] w fun e w' => e = .returned (.tuple #[.int .i64 (pickV l q), .bool (pickB l q)]) ∧ w = w' := by
  by_cases h : q < 0
  · have e1 : pickV l q = 0 := by unfold pickV; rw [if_pos h]
    have e2 : pickB l q = false := by unfold pickB; rw [decide_eq_false (by omega)]; rfl
    rw [e1, e2]
    exact pick_vneg p q h
  · obtain ⟨k, rfl⟩ : ∃ k : Nat, q = k := ⟨q.toNat, by omega⟩
    have e1 : pickV l k = valN l.length (pickL l k) := by unfold pickV; rw [if_neg h, Int.toNat_natCast]
    have e2 : pickB l k = decide (pickL l k < l.length) := by unfold pickB; rw [decide_eq_true (by omega), Int.toNat_natCast]; rfl
    rw [e1, e2]
    exact pick_vec hV k hq

set_option maxRecDepth 100000 in
set_option maxHeartbeats 800000 in
theorem plays_out {W : World} (hT : TabAt W) (n : Int) (hn : n < 1 ∨ 1048576 < n) (s : Value) :
    Gets Tryd.prog 5 #[.int .i64 n, s] W (.bool true) := by
  have HT := hid hT
  have HN := hid hn
  have HM : Hid ((decide (1 ≤ n) && decide (n ≤ 1048576)) = false) := ⟨by simp; omega⟩
  clear hT hn
  unfold Gets
  go_enter Tryd.func5, Tryd.ntmps5
  go_wp2_with (first
    | (go_at_call 16; refine (new_none n HN.out _).mono ?_; rintro e w1 ⟨rfl, rfl⟩)
    | (go_at_call 25; refine (ref_may n _).mono ?_; rintro e w1 ⟨rfl, rfl⟩; rw [HM.out])
    | (go_at_call 15; refine (lives11 HT.out).mono ?_; rintro e w1 ⟨rfl, hg⟩))
  go_ret
  exact ⟨rfl, hg⟩
set_option maxRecDepth 100000 in
set_option maxHeartbeats 800000 in
theorem plays_far {W : World} (hT : TabAt W) (n : Nat) (h1 : 1 ≤ n) (h2 : n ≤ 1048576) (A : Option Addr) (len cap : Nat) (h : 2000 < n ∨ 100 < len) :
    Gets Tryd.prog 5 #[.int .i64 n, .slice A len cap] W (.bool true) := by
  have HT := hid hT
  have HN := hid (And.intro h1 h2)
  have HM : Hid ((decide (1 ≤ (n : Int)) && decide ((n : Int) ≤ 1048576)) = true) := ⟨by simp; omega⟩
  clear hT h1 h2
  unfold Gets
  rcases Nat.lt_or_ge 2000 n with h3 | h3
  · have d1 : decide ((2000 : Int) < (n : Int)) = true := by simp; omega
    clear h h3
    go_enter Tryd.func5, Tryd.ntmps5
    go_wp2_with (first
      | (go_at_call 16; refine (new_vec n HN.out.1 HN.out.2 _).mono ?_; rintro e w1 ⟨p, b, rfl, hg1, -, -, -⟩; have HG1 := hid hg1; clear hg1)
      | (go_at_call 25; refine (ref_may n _).mono ?_; rintro e w1 ⟨rfl, rfl⟩; rw [HM.out])
      | (go_at_call 15; refine (lives11 (HG1.out.tab HT.out.lt HT.out)).mono ?_; rintro e w2 ⟨rfl, hg⟩))
    go_ret
    exact ⟨rfl, HG1.out.trans hg⟩
  · have d1 : decide ((2000 : Int) < (n : Int)) = false := by simp; omega
    have d2 : decide ((100 : Int) < (len : Int)) = true := by simp; omega
    clear h h3
    go_enter Tryd.func5, Tryd.ntmps5
    go_wp2_with (first
      | (go_at_call 16; refine (new_vec n HN.out.1 HN.out.2 _).mono ?_; rintro e w1 ⟨p, b, rfl, hg1, -, -, -⟩; have HG1 := hid hg1; clear hg1)
      | (go_at_call 25; refine (ref_may n _).mono ?_; rintro e w1 ⟨rfl, rfl⟩; rw [HM.out])
      | (go_at_call 15; refine (lives11 (HG1.out.tab HT.out.lt HT.out)).mono ?_; rintro e w2 ⟨rfl, hg⟩))
    go_ret
    exact ⟨rfl, HG1.out.trans hg⟩

set_option maxRecDepth 100000 in
set_option maxHeartbeats 1600000 in
theorem plays_in {W : World} (hT : TabAt W) (n : Nat) (h1 : 1 ≤ n) (h2 : n ≤ 2000) (A : Option Addr) (cap : Nat) (l : List ActD) (hA : ActsAt W A l) (h100 : l.length ≤ 100) :
    Gets Tryd.prog 5 #[.int .i64 n, .slice A l.length cap] W (.bool true) := by
  obtain ⟨i0, hi, hz0, hz1, hz2⟩ := info_parts infoBool
  have HB0 : Hid (i0.bytes * n ≤ 281474976710656) := ⟨by rw [hz2]; omega⟩
  have HM0 : Hid (n ≤ maxLen) := ⟨by unfold maxLen; omega⟩
  have HT := hid hT
  have HN := hid (And.intro h1 h2)
  have HA := hid hA
  have HM : Hid ((decide (1 ≤ (n : Int)) && decide ((n : Int) ≤ 1048576)) = true) := ⟨by simp; omega⟩
  have d1 : decide ((2000 : Int) < (n : Int)) = false := by simp; omega
  have d2 : decide ((100 : Int) < (l.length : Int)) = false := by simp; omega
  clear hT hA
  unfold Gets
  go_enter Tryd.func5, Tryd.ntmps5
  go_wp2_with (first
    | (go_at_call 16; refine (new_vec n HN.out.1 (Nat.le_trans HN.out.2 (by decide)) _).mono ?_; rintro e w1 ⟨p, b, rfl, hg1, hV1, hp, hb⟩; have HG1 := hid hg1; have HV1 := hid hV1; have HP := hid (And.intro hp hb); clear hg1 hV1 hp hb)
    | (go_at_call 25; refine (ref_may n _).mono ?_; rintro e w1 ⟨rfl, rfl⟩; rw [HM.out])
    | (at_make; refine wpList_make_full _ rfl _ _ 41 rfl w1.heap.size 4 i0 (.bool false) 1 Tryd.underlying41 hi hz0 hz1 .i64 .i64 _ _ n rfl rfl ?h1 ?h2 HB0.out HM0.out (Nat.le_refl _) ?h3))
  case h1 => omega
  case h2 => omega
  case h3 =>
    intro w2 hown hgrow
    have hg2 : Gr w1 w2 := (grownBy_touch hgrow (fun _ => False) (fun k e _ => by cases e)).gr
    rw [made_bools] at hown
    have hB2 := Bools.of_own (l := List.replicate n false) hown (by simp) (by simp; omega)
    have hV2 := HV1.out.gr hg2
    have HP2 := hid (show w1.heap.size ≠ p ∧ w1.heap.size ≠ b ∧ W.heap.size ≤ w1.heap.size from ⟨by have := HV1.out.hp; omega, by have := HV1.out.hb; omega, HG1.out.size⟩)
    have HG2 := hid (HG1.out.trans hg2)
    have HV2 := hid hV2
    have HB2 := hid hB2.1
    clear hown hgrow hB2 hV2 hg2 HG1 HV1
    obtain ⟨g, hg⟩ : ∃ g, g = w1.heap.size := ⟨_, rfl⟩
    rw [← hg] at HP2 HB2 ⊢
    clear hg
    go_wp2
    go_loopw [56] (fun i wr => ∃ k : Nat, k ≤ l.length ∧ (∃ q : List Bool, q.length = n ∧ Hid (Vec wr p b q) ∧ Hid (Bools wr g q)) ∧ Hid (Touch (fun i => i = b ∨ i = g) w2 wr) ∧ i = .int .i64 k) (fun i _ => l.length - (intOf i).toNat)
    case atStart => exact ⟨0, by omega, ⟨_, by simp, HV2, HB2⟩, hid (Touch.refl _ _), rfl⟩
    case round =>
      obtain ⟨k, hk, ⟨q, hq, hV, hB⟩, hTc, rfl⟩ := hrel
      have HG := hid ((HG2.out.touch (fun _ => False)).trans' hTc.out (fun i hi (h : i = b ∨ i = g) => by have := HP.out; have := HP2.out; omega)).gr
      by_cases hlt : k < l.length
      · obtain ⟨hok, ab, ao, rfl, hab, c0, c1, c2⟩ := HA.out k hlt
        have q0 := (HG.out.cell hab _).trans c0
        have q1 := (HG.out.cell hab _).trans c1
        have q2 := (HG.out.cell hab _).trans c2
        have HOK := hid hok
        clear c0 c1 c2 hok
        generalize l[k] = act at *
        obtain ⟨ka, aa, bb⟩ := act
        simp only [] at q0 q1 q2
        obtain ⟨wa, hwa⟩ : ∃ wa, wa = wr.alloc (.cells #[.int .u8 ka, .int .i64 aa, .int .i64 bb] 31) := ⟨_, rfl⟩
        have hga : Gr wr wa := by rw [hwa]; exact (Gr.refl wr).alloc _
        have hsz : wa.heap.size = wr.heap.size + 1 := by rw [hwa]; simp
        have x0 : wa.cell? ⟨wr.heap.size, 0, none⟩ = some (.int .u8 ka) := by rw [hwa]; exact World.cell?_alloc_new ..
        have x1 : wa.cell? ⟨wr.heap.size, 1, none⟩ = some (.int .i64 aa) := by rw [hwa]; exact World.cell?_alloc_new ..
        have x2 : wa.cell? ⟨wr.heap.size, 2, none⟩ = some (.int .i64 bb) := by rw [hwa]; exact World.cell?_alloc_new ..
        have HX := hid (And.intro x0 (And.intro x1 (And.intro x2 hsz)))
        have HWA := hid hwa
        have HGA := hid hga
        have HS := hid (And.intro hV.out.hb hB.out.lt)
        clear hwa hga hsz
        obtain ⟨s, hs⟩ : ∃ s, s = actL q ⟨ka, aa, bb⟩ := ⟨_, rfl⟩
        have hsl : s.length = n := by rw [hs, actL_length, hq]
        obtain ⟨v1, hv1⟩ : ∃ v, v = valN s.length (nextL s aa) := ⟨_, rfl⟩
        obtain ⟨f1, hf1⟩ : ∃ f, f = decide (nextL s aa < s.length) := ⟨_, rfl⟩
        obtain ⟨v2, hv2⟩ : ∃ v, v = valI (lastL s bb) := ⟨_, rfl⟩
        obtain ⟨f2, hf2⟩ : ∃ f, f = decide (0 ≤ lastL s bb) := ⟨_, rfl⟩
        obtain ⟨v3, hv3⟩ : ∃ v, v = pickV s bb := ⟨_, rfl⟩
        obtain ⟨f3, hf3⟩ : ∃ f, f = pickB s bb := ⟨_, rfl⟩
        obtain ⟨cn, hcn⟩ : ∃ c, c = countL s aa bb := ⟨_, rfl⟩
        obtain ⟨tb, htb⟩ : ∃ t, t = (decide (0 ≤ bb) && at_ s bb.toNat) := ⟨_, rfl⟩
        have HE := hid hs
        have HSL := hid hsl
        have HQ := hid hq
        have E1 := hid (And.intro hv1.symm hf1.symm)
        have E2 := hid (And.intro hv2.symm hf2.symm)
        have E3 := hid (And.intro hv3.symm hf3.symm)
        have E4 := hid hcn.symm
        have E5 := hid htb.symm
        clear hs hsl hq hv1 hf1 hv2 hf2 hv3 hf3 hcn htb
        go_upto_region 11 with (fail)
        rw [← HWA.out]
        go_upto_region 23 with (first
          | (go_at_call 22; have hc := done_any (c := n) (hV.out.gr HGA.out) (hB.out.gr HGA.out) HP2.out.1 HP2.out.2.1 ⟨ka, aa, bb⟩ HOK.out; rw [HQ.out, ← HE.out] at hc; refine hc.mono ?_; rintro e w3 ⟨rfl, ht3, hv3, hb3⟩; have y1 := (ht3.cell (b := wr.heap.size) (by have := HX.out.2.2.2; omega) (by have := HS.out; omega) 1).trans x1; have y2 := (ht3.cell (b := wr.heap.size) (by have := HX.out.2.2.2; omega) (by have := HS.out; omega) 2).trans x2; have HV3 := hid hv3; have HB3 := hid hb3; have HT3 := hid ht3; have HTB := hid ((HG.out.trans HGA.out).tab HT.out.lt HT.out); have HTC := hid (ht3.tab HTB.out.lt (by have := HP.out; have := HP2.out; have := HT.out.lt; omega) HTB.out); clear hc ht3 hv3 hb3)
          | (go_at_call 26; refine (next_vec HV3.out HTC.out _).mono ?_; rintro e w4 ⟨rfl, rfl⟩; rw [E1.out.1, E1.out.2])
          | (go_at_call 24; have hc := ref_next (c := n) HB3.out aa; rw [E1.out.1, E1.out.2, HSL.out] at hc; refine hc.mono ?_; rintro e w4 ⟨rfl, rfl⟩; clear hc)
          | (go_at_call 27; refine (last_vec HV3.out _).mono ?_; rintro e w4 ⟨rfl, rfl⟩; rw [E2.out.1, E2.out.2])
          | (go_at_call 28; have hc := ref_last (c := n) HB3.out bb; rw [E2.out.1, E2.out.2, HSL.out] at hc; refine hc.mono ?_; rintro e w4 ⟨rfl, rfl⟩; clear hc)
          | (go_at_call 20; refine (pick_any HV3.out _ HOK.out.2.2.2.2).mono ?_; rintro e w4 ⟨rfl, rfl⟩; rw [E3.out.1, E3.out.2])
          | (go_at_call 29; have hc := ref_pick (c := n) HB3.out bb; rw [E3.out.1, E3.out.2, HSL.out] at hc; refine hc.mono ?_; rintro e w4 ⟨rfl, rfl⟩; clear hc))
        have z1 : ∀ xs m, (grow w3 xs m).cell? ⟨wr.heap.size, 1, none⟩ = some (.int .i64 aa) := fun xs m => ((grown w3 xs m).cell (lt_cell y1) 1).trans y1
        have z2 : ∀ xs m, (grow w3 xs m).cell? ⟨wr.heap.size, 2, none⟩ = some (.int .i64 bb) := fun xs m => ((grown w3 xs m).cell (lt_cell y2) 2).trans y2
        refine wp_region_by (by kernel_rfl) (by kernel_rfl) ?_
        repeat (go_big_quiet_step (first
          | (go_at_call 19; have hc := fun xs m => count_vec (HV3.out.gr (grown w3 xs m)) aa bb HOK.out.2.2.1; simp only [E4.out] at hc; exact Gets.grown (hc _ _))
          | (go_at_call 30; have hc := fun xs m => ref_count (c := n) (HB3.out.gr (grown w3 xs m)) aa bb; simp only [E4.out, HSL.out] at hc; exact Gets.grown_same (hc _ _))
          | (go_at_call 21; have hc := fun xs m => test_any (HV3.out.gr (grown w3 xs m)) bb; simp only [E5.out] at hc; exact Gets.grown_same (hc _ _))
          | (go_at_call 31; have hc := fun xs m => ref_is (c := n) (HB3.out.gr (grown w3 xs m)) bb; simp only [E5.out, HSL.out] at hc; exact Gets.grown_same (hc _ _))
          | (go_at_call 32; have hc := fun xs m => len_vec (HV3.out.gr (grown w3 xs m)); simp only [HSL.out] at hc; exact Gets.grown_same (hc _ _))))
        refine wpQuiet_nil ?_
        intro _ hw'
        obtain ⟨⟨xs, nq⟩, hw''⟩ := hw'
        subst hw''
        go_wp2
        go_roundw
        case rel =>
          refine ⟨k + 1, by omega, ⟨s, HSL.out, ⟨HV3.out.gr (grown w3 _ _)⟩, ⟨HB3.out.gr (grown w3 _ _)⟩⟩, ⟨?_⟩, by go_num⟩
          exact (hTc.out.trans (HGA.out.touch _)).trans (HT3.out.trans ((grown w3 _ _).touch _))
        case measure => simp [intOf]; omega
      · have HTB := hid (HG.out.tab HT.out.lt HT.out)
        go_wp2_with (first
          | (go_at_call 15; refine (lives11 HTB.out).mono ?_; rintro e w4 ⟨rfl, hg4⟩))
        go_ret
        exact ⟨rfl, HG.out.trans hg4⟩
theorem plays_walk {W : World} (hT : TabAt W) (n : Int) (hn : -9223372036854775808 ≤ n ∧ n ≤ 9223372036854775807) (A : Option Addr) (cap : Nat) (l : List ActD) (hA : ActsAt W A l) :
    Gets Tryd.prog 5 #[.int .i64 n, .slice A l.length cap] W (.bool true) := by
  by_cases h : n < 1 ∨ 1048576 < n
  · exact plays_out hT n h _
  · obtain ⟨m, rfl⟩ : ∃ m : Nat, n = m := ⟨n.toNat, by omega⟩
    by_cases h2 : 2000 < m ∨ 100 < l.length
    · exact plays_far hT m (by omega) (by omega) A l.length cap h2
    · exact plays_in hT m (by omega) (by omega) A cap l hA (by omega)
end Go.Proofs.YtlbbkpjfoabobaaDoor
