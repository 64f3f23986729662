/- BitvecCopies: the walk. -/
import Derived.Test.YtlbbkpjfoabobaaDoorPlays11
namespace Go.Proofs.YtlbbkpjfoabobaaDoor
open Go.RowKit Word

theorem empty_own (w : World) : (w.alloc (.cells #[] 4)).ownsRow w.heap.size 4 1 (.slice (some ⟨w.heap.size, 0, none⟩) 0 0) 0 [] :=
  ⟨rfl, .inr ⟨w.heap.size, 0, #[], rfl, Nat.le_refl _, heap_alloc_new w _, Nat.le_refl _, by unfold maxLen; omega, rfl, rfl⟩⟩
theorem bools_src {w : World} {g : Nat} {l : List Bool} (hB : Bools w g l) (o : Obj) (j : Nat) (u : Value) (hj : (l.map Value.bool)[j]? = some u) : (w.alloc o).cell? (Addr.add ⟨g, 0, none⟩ j) = some u := by
  rw [List.getElem?_map] at hj
  have hjl : j < l.length := by
    rcases Nat.lt_or_ge j l.length with h | h
    · exact h
    · rw [List.getElem?_eq_none h] at hj; cases hj
  rw [List.getElem?_eq_getElem hjl] at hj
  simp only [Option.map_some, Option.some.injEq] at hj
  have e : Addr.add ⟨g, 0, none⟩ j = ⟨g, j, none⟩ := by unfold Addr.add; split <;> simp_all
  rw [e, World.cell?_alloc_lt (h := hB.lt), hB.cell j hjl, ← hj]
  simp [at_, List.getD_eq_getElem?_getD, hjl]
theorem bools_one (l : List Bool) : ∀ u ∈ l.map Value.bool, u.oneCell' = true := fun u hu => by
  obtain ⟨i, _, rfl⟩ := List.mem_map.1 hu; rfl

set_option maxRecDepth 100000 in
set_option maxHeartbeats 800000 in
theorem copies_far {W : World} (hT : TabAt W) (n : Value) (A1 A2 : Option Addr) (c1 c2 l1 l2 : Nat) (h : 50 < l1 ∨ 50 < l2) :
    Gets Tryd.prog 7 #[n, .slice A1 l1 c1, .slice A2 l2 c2] W (.bool true) := by
  have HT := hid hT
  clear hT
  unfold Gets
  rcases Nat.lt_or_ge 50 l1 with h3 | h3
  · have d1 : decide ((50 : Int) < (l1 : Int)) = true := by simp; omega
    clear h h3
    go_enter Tryd.func7, Tryd.ntmps7
    go_wp2_with (go_at_call 15; refine (lives11 HT.out).mono ?_; rintro e w2 ⟨rfl, hg⟩)
    go_ret
    exact ⟨rfl, hg⟩
  · have d1 : decide ((50 : Int) < (l1 : Int)) = false := by simp; omega
    have d2 : decide ((50 : Int) < (l2 : Int)) = true := by simp; omega
    clear h h3
    go_enter Tryd.func7, Tryd.ntmps7
    go_wp2_with (go_at_call 15; refine (lives11 HT.out).mono ?_; rintro e w2 ⟨rfl, hg⟩)
    go_ret
    exact ⟨rfl, hg⟩

set_option maxRecDepth 100000 in
set_option maxHeartbeats 3200000 in
theorem copies_in {W : World} (hT : TabAt W) (n : Nat) (hn : n ≤ 255) (A : Option Addr) (cap : Nat) (l : List ActD) (hA : ActsAt W A l) (h50 : l.length ≤ 50) (A' : Option Addr) (cap' : Nat) (l' : List ActD) (hA' : ActsAt W A' l') (h50' : l'.length ≤ 50) :
    Gets Tryd.prog 7 #[.int .u8 n, .slice A l.length cap, .slice A' l'.length cap'] W (.bool true) := by
  obtain ⟨i0, hi, hz0, hz1, hz2⟩ := info_parts infoBool
  have HB0 : Hid (i0.bytes * (n + 1) ≤ 281474976710656) := ⟨by rw [hz2]; omega⟩
  have HM0 : Hid (n + 1 ≤ maxLen) := ⟨by unfold maxLen; omega⟩
  have HT := hid hT
  have HN := hid hn
  have hn' : (n : Int) ≤ 255 := by omega
  have HA := hid hA
  have HA' := hid hA'
  have d1 : decide ((50 : Int) < (l.length : Int)) = false := by simp; omega
  have d2 : decide ((50 : Int) < (l'.length : Int)) = false := by simp; omega
  clear hT hA hA' hn
  unfold Gets
  go_enter Tryd.func7, Tryd.ntmps7
  go_wp2_with (first
    | (go_at_call 16; refine (new_vec (n + 1) (by omega) (Nat.le_trans (Nat.succ_le_succ HN.out) (by decide)) _).mono ?_; rintro e w1 ⟨p, b, rfl, hg1, hV1, hp, hb⟩; have HG1 := hid hg1; have HV1 := hid hV1; have HP := hid (And.intro hp hb); clear hg1 hV1 hp hb)
    | (at_make; refine wpList_make_full _ rfl _ _ 41 rfl w1.heap.size 4 i0 (.bool false) 1 Tryd.underlying41 hi hz0 hz1 .i64 .i64 _ _ (n + 1) rfl rfl ?h1 ?h2 HB0.out HM0.out (Nat.le_refl _) ?h3))
  case h1 => omega
  case h2 => omega
  case h3 =>
    intro w2 hown hgrow
    have hg2 : Gr w1 w2 := (grownBy_touch hgrow (fun _ => False) (fun k e _ => by cases e)).gr
    rw [made_bools] at hown
    have hB2 := Bools.of_own (l := List.replicate (n + 1) false) hown (by simp) (by have := HN.out; simp; omega)
    have hV2 := HV1.out.gr hg2
    have HP2 := hid (show w1.heap.size ≠ p ∧ w1.heap.size ≠ b ∧ W.heap.size ≤ w1.heap.size from ⟨by have := HV1.out.hp; omega, by have := HV1.out.hb; omega, HG1.out.size⟩)
    have HG2 := hid (HG1.out.trans hg2)
    have HV2 := hid hV2
    have HB2 := hid hB2.1
    clear hown hgrow hB2 hV2 hg2 HG1 HV1
    obtain ⟨g, hg⟩ : ∃ g, g = w1.heap.size := ⟨_, rfl⟩
    rw [← hg] at HP2 HB2 ⊢
    clear hg
    go_wp2
    go_loopw [41] (fun i wr => ∃ k : Nat, k ≤ l.length ∧ (∃ q : List Bool, q.length = n + 1 ∧ Hid (Vec wr p b q) ∧ Hid (Bools wr g q)) ∧ Hid (Touch (fun i => i = b ∨ i = g) w2 wr) ∧ i = .int .i64 k) (fun i _ => l.length - (intOf i).toNat)
    case atStart => exact ⟨0, by omega, ⟨_, by simp, HV2, HB2⟩, hid (Touch.refl _ _), rfl⟩
    case round =>
      rename World => wa
      obtain ⟨k, hk, ⟨q, hq, hV, hB⟩, hTc, rfl⟩ := hrel
      have HG := hid ((HG2.out.touch (fun _ => False)).trans' hTc.out (fun i hi (h : i = b ∨ i = g) => by have := HP.out; have := HP2.out; omega)).gr
      have HQ := hid hq
      clear hq
      by_cases hlt : k < l.length
      · obtain ⟨hok, ab, ao, rfl, hab, c0, c1, c2⟩ := HA.out k hlt
        have q0 := (HG.out.cell hab _).trans c0
        have q1 := (HG.out.cell hab _).trans c1
        have q2 := (HG.out.cell hab _).trans c2
        have HOK := hid hok
        clear c0 c1 c2 hok
        generalize l[k] = act at *
        obtain ⟨ka, aa, bb⟩ := act
        simp only [] at q0 q1 q2
        have HGA := hid ((Gr.refl wa).alloc (.cells #[.int .u8 ka, .int .i64 aa, .int .i64 bb] 31))
        go_wp2_with (first
          | (go_at_call 22; have hc := done_any (c := n + 1) (hV.out.gr HGA.out) (hB.out.gr HGA.out) HP2.out.1 HP2.out.2.1 ⟨ka, aa, bb⟩ HOK.out; rw [HQ.out] at hc; refine hc.mono ?_; rintro e w3 ⟨rfl, ht3, hv3, hb3⟩; have HV3 := hid hv3; have HB3 := hid hb3; have HT3 := hid ht3; clear hc ht3 hv3 hb3))
        go_roundw
        case rel => exact ⟨k + 1, by omega, ⟨_, (actL_length ..).trans HQ.out, HV3, HB3⟩, ⟨(hTc.out.trans (HGA.out.touch _)).trans HT3.out⟩, by go_num⟩
        case measure => simp [intOf]; omega
      · have HS := hid (And.intro hV.out.hb (And.intro hV.out.hp hB.out.lt))
        go_wp2_with (first
          | (go_at_call 39; refine (copy_vec hV.out).mono ?_; rintro e w4 ⟨p4, b4, rfl, hg4, hV4, hp4, hb4⟩; have HG4 := hid hg4; have HV4 := hid hV4; have HP4 := hid (And.intro hp4 hb4); have HB4 := hid (hB.out.gr hg4); have HW4 := hid (hV.out.gr hg4); have HO := hid (empty_own w4); have HC := hid (bools_src HB4.out (.cells #[] 4)); have H1 := hid (bools_one q); clear hg4 hV4 hp4 hb4)
          | (at_builtin; refine wpList_append_own _ rfl _ _ 41 rfl w4.heap.size 4 i0 (.bool false) 1 1 Tryd.underlying41 hi hz0 hz1 hz2 rfl (by decide) _ _ _ rfl HO.out ⟨g, 0, none⟩ (n + 1) (n + 1) (q.map Value.bool) rfl ?k1 HC.out H1.out ?k2 ?k3 ?k4 ?k5))
        case k1 => simp only [List.length_map, HQ.out, Nat.mul_one]
        case k2 => have := HN.out; have := HQ.out; unfold maxLen; simp; omega
        case k3 => have := HN.out; have := HQ.out; simp; omega
        case k4 => simp
        case k5 =>
          intro v' w5 hown5 hgrow5 _
          obtain ⟨g5, c5, hv5, hg5, hc5, hm5⟩ := slice_of_own hown5 (by simp)
          subst hv5
          have hgr5 : Gr w4 w5 := by
            refine Touch.gr ((((Gr.refl w4).alloc (.cells #[] 4)).touch _).trans' (grownBy_touch hgrow5 (fun k => k = w4.heap.size) (fun k e _ => by cases e; rfl)) ?_)
            rintro i hi rfl; omega
          have hB5 := Bools.of_own (l := q) (by simpa using hown5) (by have := HQ.out; omega) (by have := HQ.out; have := HN.out; omega)
          have HB5 := hid hB5.1
          have HG5 := hid (HG4.out.trans hgr5)
          have HP5 := hid (And.intro hg5 HG4.out.size)
          have HVC := hid (HV4.out.gr hgr5)
          have HVV := hid (HW4.out.gr hgr5)
          have HBB := hid (HB4.out.gr hgr5)
          have HGW := hid (HG.out.trans HG5.out)
          clear hown5 hgrow5 hB5 hgr5 hg5 HV4 HW4 HB4 HO HC H1
          go_wp2_with (first
            | (go_at_call_of 32 (Value.pointer (some ⟨p4, 0, none⟩)); have hc := len_vec HVC.out; rw [HQ.out] at hc; refine hc.mono ?_; rintro e w6 ⟨rfl, rfl⟩; clear hc)
            | (go_at_call_of 32 (Value.pointer (some ⟨p, 0, none⟩)); have hc := len_vec HVV.out; rw [HQ.out] at hc; refine hc.mono ?_; rintro e w6 ⟨rfl, rfl⟩; clear hc))
          go_loopw [66] (fun i wr2 => ∃ k : Nat, k ≤ l'.length ∧ (∃ s : List Bool, s.length = n + 1 ∧ Hid (Vec wr2 p b s) ∧ Hid (Bools wr2 g s)) ∧ Hid (Touch (fun i => i = b ∨ i = g) w5 wr2) ∧ i = .int .i64 k) (fun i _ => l'.length - (intOf i).toNat)
          case atStart => exact ⟨0, by omega, ⟨q, HQ.out, HVV, HBB⟩, hid (Touch.refl _ _), rfl⟩
          case round =>
            rename World => wr2
            obtain ⟨k', hk', ⟨s, hs, hVs, hBs⟩, hTs, rfl⟩ := hrel
            have HGS := hid ((HGW.out.touch (fun _ => False)).trans' hTs.out (fun i hi (h : i = b ∨ i = g) => by have := HP.out; have := HP2.out; omega)).gr
            have HSL := hid hs
            clear hs
            by_cases hlt' : k' < l'.length
            · obtain ⟨hok, ab, ao, rfl, hab, c0, c1, c2⟩ := HA'.out k' hlt'
              have q0 := (HGS.out.cell hab _).trans c0
              have q1 := (HGS.out.cell hab _).trans c1
              have q2 := (HGS.out.cell hab _).trans c2
              have HOK := hid hok
              clear c0 c1 c2 hok
              generalize l'[k'] = act at *
              obtain ⟨ka, aa, bb⟩ := act
              simp only [] at q0 q1 q2
              have HGA := hid ((Gr.refl wr2).alloc (.cells #[.int .u8 ka, .int .i64 aa, .int .i64 bb] 31))
              go_wp2_with (first
                | (go_at_call 22; have hc := done_any (c := n + 1) (hVs.out.gr HGA.out) (hBs.out.gr HGA.out) HP2.out.1 HP2.out.2.1 ⟨ka, aa, bb⟩ HOK.out; rw [HSL.out] at hc; refine hc.mono ?_; rintro e w3 ⟨rfl, ht3, hv3, hb3⟩; have HV3 := hid hv3; have HB3 := hid hb3; have HT3 := hid ht3; clear hc ht3 hv3 hb3))
              go_roundw
              case rel => exact ⟨k' + 1, by omega, ⟨_, (actL_length ..).trans HSL.out, HV3, HB3⟩, ⟨(hTs.out.trans (HGA.out.touch _)).trans HT3.out⟩, by go_num⟩
              case measure => simp [intOf]; omega
            · have HVC' := hid (HVC.out.touch hTs.out (by have := HP4.out; have := HS.out; omega) (by have := HP4.out; have := HS.out; omega))
              have HB5' := hid (HB5.out.touch hTs.out (by have := HP5.out; have := HS.out; omega))
              go_wp2
              go_loopw [77] (fun i w3 => ∃ k3 : Nat, k3 ≤ n + 1 ∧ Hid (Gr wr2 w3) ∧ i = .int .i64 k3) (fun i _ => n + 1 - (intOf i).toNat)
              case atStart => exact ⟨0, by omega, hid (Gr.refl _), rfl⟩
              case round =>
                rename World => w3
                obtain ⟨k3, hk3, hG3, rfl⟩ := hrel
                by_cases hlt3 : k3 < n + 1
                · obtain ⟨t1, ht1⟩ : ∃ t, t = at_ q k3 := ⟨_, rfl⟩
                  obtain ⟨t2, ht2⟩ : ∃ t, t = at_ s k3 := ⟨_, rfl⟩
                  have e1 : (decide (0 ≤ (k3 : Int)) && at_ q (k3 : Int).toNat) = t1 := by rw [ht1]; simp
                  have e2 : (decide (0 ≤ (k3 : Int)) && at_ s (k3 : Int).toNat) = t2 := by rw [ht2]; simp
                  have z1 : ∀ xs m, (grow w3 xs m).cell? ⟨g5, k3, none⟩ = some (.bool t1) := fun xs m => by rw [ht1]; exact (HB5'.out.gr (hG3.out.trans (grown w3 xs m))).cell k3 (by rw [HQ.out]; exact hlt3)
                  have z2 : ∀ xs m, (grow w3 xs m).cell? ⟨g, k3, none⟩ = some (.bool t2) := fun xs m => by rw [ht2]; exact (hBs.out.gr (hG3.out.trans (grown w3 xs m))).cell k3 (by rw [HSL.out]; exact hlt3)
                  have E1 := hid e1
                  have E2 := hid e2
                  clear ht1 ht2 e1 e2
                  go_upto_region 24 with (fail)
                  refine wp_region_by (by kernel_rfl) (by kernel_rfl) ?_
                  repeat (go_big_quiet_step (first
                    | (go_at_call_of 21 (Value.pointer (some ⟨p4, 0, none⟩)); have hc := fun xs m => test_any (HVC'.out.gr (hG3.out.trans (grown w3 xs m))) (k3 : Int); simp only [E1.out] at hc; exact Gets.grown_same (hc _ _))
                    | (go_at_call_of 21 (Value.pointer (some ⟨p, 0, none⟩)); have hc := fun xs m => test_any (hVs.out.gr (hG3.out.trans (grown w3 xs m))) (k3 : Int); simp only [E2.out] at hc; exact Gets.grown_same (hc _ _))))
                  refine wpQuiet_nil ?_
                  intro _ hw'
                  obtain ⟨⟨xs, nq⟩, hw''⟩ := hw'
                  subst hw''
                  go_wp2
                  go_roundw
                  case rel => exact ⟨k3 + 1, by omega, hid (hG3.out.trans (grown w3 _ _)), by go_num⟩
                  case measure => simp [intOf]; omega
                · have HF := hid (HVC'.out.gr hG3.out)
                  have HVE := hid (hVs.out.gr hG3.out)
                  have HBE := hid (hBs.out.gr hG3.out)
                  have HTB := hid ((HGS.out.trans hG3.out).tab HT.out.lt HT.out)
                  obtain ⟨cn, hcn⟩ : ∃ c, c = countL s 0 ((n : Int) + 1) := ⟨_, rfl⟩
                  have HCN := hid hcn.symm
                  clear hcn
                  go_wp2_with (first
                    | (go_at_call 17; refine (fill_vec HF.out _ _ (by decide)).mono ?_; rintro e w7 ⟨rfl, ht7, hv7⟩; have HT7 := hid ht7; have HV7 := hid (HVE.out.touch ht7 (by have := HP4.out; have := HS.out; omega) (by have := HP4.out; have := HS.out; omega)); have HB7 := hid (HBE.out.touch ht7 (by have := HP4.out; have := HS.out; omega)); have HTB7 := hid (ht7.tab HTB.out.lt (by have := HP4.out; have := HG.out.size; have := HT.out.lt; omega) HTB.out); clear ht7 hv7)
                    | (go_at_call 19; have hc := count_vec HV7.out 0 ((n : Int) + 1) (by decide); rw [HCN.out] at hc; refine hc.mono ?_; rintro e w8 ⟨rfl, hg8⟩; have HG8 := hid hg8; clear hc hg8)
                    | (go_at_call 30; have hc := ref_count (c := n + 1) (HB7.out.gr HG8.out) 0 ((n : Int) + 1); rw [HCN.out, HSL.out] at hc; refine hc.mono ?_; rintro e w9 ⟨rfl, rfl⟩; clear hc)
                    | (go_at_call 15; refine (lives11 (HG8.out.tab HTB7.out.lt HTB7.out)).mono ?_; rintro e w9 ⟨rfl, hg9⟩))
                  go_ret
                  refine ⟨rfl, ?_⟩
                  exact ((((HGS.out.trans hG3.out).touch (fun _ => False)).trans' HT7.out (fun i hi (h : i = b4) => by have := HP4.out; have := HG.out.size; omega)).trans (((HG8.out.trans hg9).touch _))).gr
theorem copies_walk {W : World} (hT : TabAt W) (n : Nat) (hn : n ≤ 255) (A : Option Addr) (cap : Nat) (l : List ActD) (hA : ActsAt W A l) (A' : Option Addr) (cap' : Nat) (l' : List ActD) (hA' : ActsAt W A' l') :
    Gets Tryd.prog 7 #[.int .u8 n, .slice A l.length cap, .slice A' l'.length cap'] W (.bool true) := by
  by_cases h2 : 50 < l.length ∨ 50 < l'.length
  · exact copies_far hT _ A A' cap cap' _ _ h2
  · exact copies_in hT n hn A cap l hA (by omega) A' cap' l' hA' (by omega)
end Go.Proofs.YtlbbkpjfoabobaaDoor
