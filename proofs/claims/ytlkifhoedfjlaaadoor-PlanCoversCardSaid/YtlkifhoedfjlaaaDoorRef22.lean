/- The reference of layers 21 and 22. -/
import Derived.Test.YtlkifhoedfjlaaaDoorFwdP
import Derived.Test.YtlkifhoedfjlaaaDoorK8
namespace Go.Proofs.YtlkifhoedfjlaaaDoor
open Go.RowKit Word

theorem ret3 {a b c a' b' c' : Value} (h1 : a = a') (h2 : b = b') (h3 : c = c') : Ending.returned (.tuple #[a, b, c]) = .returned (.tuple #[a', b', c']) := by rw [h1, h2, h3]
set_option maxRecDepth 100000 in
set_option maxHeartbeats 800000 in
theorem ref13_sizes {w : World} {A : Option Addr} {c : Nat} {L : List Ob} (hA : ObjsAt w A L) {n : Nat} (hg : Good n L) (hn : n ≤ 1048576) :
    Calls Tryd.prog 33 #[.slice A L.length c] w fun e w' => e = .returned (.int .i64 (sizes L : Nat)) ∧ w = w' := by
  have hlen := hg.len
  have hs := sizes_le hg
  have HA := hid hA
  have HM := hid (fun k => sizes_take_le L k)
  have HT := hid (fun (k : Nat) (hk : k < L.length) => sizes_take hk)
  clear hA hg
  go_enter Tryd.func33, Tryd.ntmps33
  go_wp2
  go_loop [3, 4] (fun s i => ∃ k t : Nat, k ≤ L.length ∧ Hid (t = sizes (L.take k)) ∧ t ≤ 1048576 ∧ s = .int .i64 t ∧ i = .int .i64 k) (fun _ i => L.length - (intOf i).toNat)
  case atStart => exact ⟨0, 0, Nat.zero_le _, ⟨rfl⟩, by omega, rfl, rfl⟩
  case round =>
    obtain ⟨k, t, hk, ht, htb, rfl, rfl⟩ := hrel
    by_cases hlt : k < L.length
    · obtain ⟨g, rfl, hgl, q0, q1⟩ := HA.out k hlt
      have h1 := HT.out k hlt
      have h2 := HM.out (k + 1)
      rw [← ht.out] at h1
      rw [h1] at h2
      have E := hid h1
      generalize L[k].2 = z at *
      clear h1 q0 ht
      go_wp2
      go_round
      case rel => exact ⟨k + 1, t + z, by omega, ⟨E.out.symm⟩, by omega, by go_num, by go_num⟩
      case measure => simp [intOf]; omega
    · obtain rfl : k = L.length := by omega
      have E := hid (show t = sizes L from by rw [ht.out, List.take_length])
      clear ht
      go_wp2
      go_ret
      exact ⟨ret_int (by rw [E.out]), rfl⟩
set_option maxRecDepth 100000 in
set_option maxHeartbeats 800000 in
theorem ref21_blocks {len : Nat} (hl : len ≤ 1048576) (B : Nat) (hB : 1 ≤ B) (hB2 : B ≤ 1024) (w : World) :
    Calls Tryd.prog 32 #[.int .i64 len, .int .i64 B] w fun e w' => e = .returned (.int .i64 (nbl len B : Nat)) ∧ w = w' := by
  go_enter Tryd.func32, Tryd.ntmps32
  go_wp2
  go_loop [5, 6] (fun n i => ∃ j t : Nat, Hid (t = j * B) ∧ t ≤ 1048576 + 1024 ∧ j ≤ t ∧ Hid (∀ i, i < j → i * B < len) ∧ n = .int .i64 j ∧ i = .int .i64 t) (fun _ i => 1048576 + 1025 - (intOf i).toNat)
  case atStart => exact ⟨0, 0, ⟨by simp⟩, by omega, by omega, ⟨fun i h => by omega⟩, rfl, rfl⟩
  case round =>
    obtain ⟨j, t, ht, hb, hjt, hno, rfl, rfl⟩ := hrel
    by_cases hlt : t < len
    · have h1 : Hid (t + B = (j + 1) * B) := ⟨by rw [Nat.succ_mul, ht.out]⟩
      have h2 : Hid (∀ i, i < j + 1 → i * B < len) := ⟨fun i hi => by
        by_cases e : i = j
        · rw [e, ← ht.out]; exact hlt
        · exact hno.out i (by omega)⟩
      clear ht hno
      go_wp2
      go_round
      case rel => exact ⟨j + 1, t + B, h1, by omega, by omega, h2, by go_num, by go_num⟩
      case measure => simp [intOf]; omega
    · have E := hid (nbl_eq hB (show len ≤ j * B by rw [← ht.out]; omega) hno.out)
      clear ht hno
      go_wp2
      go_ret
      exact ⟨ret_int (by rw [E.out]), rfl⟩
set_option maxRecDepth 100000 in
set_option maxHeartbeats 800000 in
theorem ref21_ahead {w : World} {A : Option Addr} {c : Nat} {L : List Ob} (hA : ObjsAt w A L) {n : Nat} (hg : Good n L) (hn : n ≤ 1048576) (B : Nat) (h1 : 1 ≤ B) (h2 : B ≤ 1024) (b : Int) :
    Gets Tryd.prog 28 #[.slice A L.length c, .int .i64 n, .int .i64 B, .int .i64 b] w (.tuple #[.int .i64 (aheadV (liveL n L) B b), .int .i64 (aheadE n B b)]) := by
  have HA := hid hA
  have HG := hid hg
  have hll := liveL_len n L
  clear hA hg
  unfold Gets
  by_cases h0 : b < 0
  · have d0 : decide (b < 0) = true := by simp [h0]
    have e1 : aheadV (liveL n L) B b = 0 := by unfold aheadV; rw [if_pos (.inl h0)]
    have e2 : aheadE n B b = 11 := by unfold aheadE; rw [if_pos (.inl h0)]
    rw [e1, e2]
    clear e1 e2 hll
    go_enter Tryd.func28, Tryd.ntmps28
    go_wp2
    go_ret2
    exact ⟨ret2 rfl rfl, Gr.refl _⟩
  · obtain ⟨j, rfl⟩ : ∃ j : Nat, b = j := ⟨b.toNat, by omega⟩
    obtain ⟨N, hN⟩ : ∃ N, N = nbl n B := ⟨_, rfl⟩
    have d0 : decide ((j : Int) < 0) = false := by simp
    by_cases hj : N ≤ j
    · have e1 : aheadV (liveL n L) B j = 0 := by unfold aheadV; rw [if_pos (by rw [hll]; omega)]
      have e2 : aheadE n B j = 11 := by unfold aheadE; rw [if_pos (by omega)]
      rw [e1, e2]
      have HN := hid hN
      have d1 : decide (N ≤ j) = true := by simp [hj]
      clear hN e1 e2 hll
      go_enter Tryd.func28, Tryd.ntmps28
      go_wp2_with (go_at_call 32; refine (ref21_blocks hn B h1 h2 _).mono ?_; rintro e w1 ⟨rfl, rfl⟩; rw [← HN.out])
      go_ret2
      exact ⟨ret2 rfl rfl, Gr.refl _⟩
    · have e1 : aheadV (liveL n L) B j = (liveN L n 0 ((j : Int) * B) : Nat) := by unfold aheadV; rw [if_neg (by rw [hll]; omega), countL_live HG.out, liveN_eq HG.out]
      have e2 : aheadE n B j = 0 := by unfold aheadE; rw [if_neg (by omega)]
      have hjb : j * B < n := (nbl_lt h1).1 (by omega)
      obtain ⟨t, ht⟩ : ∃ t, t = j * B := ⟨_, rfl⟩
      have ht' : (j : Int) * (B : Int) = (t : Int) := by rw [ht]; push_cast; rfl
      rw [e1, e2, ht']
      have HN := hid hN
      have d1 : decide (N ≤ j) = false := by simp; omega
      have htl : (t : Int) ≤ 1048576 := by omega
      clear hN ht hjb e1 e2 hll
      go_enter Tryd.func28, Tryd.ntmps28
      go_wp2_with (first
        | (go_at_call 32; refine (ref21_blocks hn B h1 h2 _).mono ?_; rintro e w1 ⟨rfl, rfl⟩; rw [← HN.out])
        | (go_at_call 30; first | rw [ht'] | skip; refine (ref13_live HA.out HG.out hn _ _).mono ?_; rintro e w1 ⟨rfl, hg1⟩))
      go_ret2
      exact ⟨ret2 (by first | rfl | rw [ht']) rfl, hg1⟩
/-- Where the place of a word is sought: ahead of object k it was not found. -/
theorem find_from {n : Nat} {L : List Ob} (_h : Good n L) {k : Nat} {a : Int} (hk : k ≤ findO L a) (hkl : k < L.length) (hno : ¬ ((L[k].1 : Int) ≤ a ∧ a < L[k].1 + L[k].2)) : k + 1 ≤ findO L a := by
  rcases Nat.lt_or_ge k (findO L a) with h1 | h1
  · exact h1
  · obtain e : findO L a = k := by omega
    have hf : findO L a < L.length := by omega
    have := findO_yes hf
    simp only [e] at this
    exact absurd this hno
set_option maxRecDepth 100000 in
set_option maxHeartbeats 1600000 in
theorem ref22_to {w : World} {A : Option Addr} {c : Nat} {L : List Ob} (hA : ObjsAt w A L) {n : Nat} (hg : Good n L) (hn : n ≤ 1048576) (base : Nat) (hb : base < 2147483648) (a : Int) :
    Gets Tryd.prog 37 #[.slice A L.length c, .int .i64 base, .int .i64 a] w (.tuple #[.int .i64 (toV L base a), .int .i64 (toE L a)]) := by
  have hlen := hg.len
  have hs := sizes_le hg
  have HA := hid hA
  have HG := hid hg
  have HM := hid (fun k => sizes_take_le L k)
  have HT := hid (fun (k : Nat) (hk : k < L.length) => sizes_take hk)
  clear hA hg
  unfold Gets
  go_enter Tryd.func37, Tryd.ntmps37
  go_wp2
  go_loopw [8, 9] (fun s i wr => ∃ k t : Nat, k ≤ L.length ∧ Hid (k ≤ findO L a) ∧ Hid (t = base + sizes (L.take k)) ∧ t ≤ 2149580800 ∧ Hid (Gr w wr) ∧ s = .int .i64 t ∧ i = .int .i64 k) (fun _ i _ => L.length - (intOf i).toNat)
  case atStart => exact ⟨0, base, Nat.zero_le _, ⟨Nat.zero_le _⟩, ⟨rfl⟩, by omega, ⟨Gr.refl _⟩, rfl, rfl⟩
  case round =>
    rename World => wr
    obtain ⟨k, t, hk, hf, ht, htb, hgr, rfl, rfl⟩ := hrel
    by_cases hlt : k < L.length
    · obtain ⟨g, rfl, hgl, q0, q1⟩ := (HA.out.gr hgr.out) k hlt
      have h1 := HT.out k hlt
      have h2 := HM.out (k + 1)
      rw [h1] at h2
      have E := hid h1
      have hsz := HG.out.sz _ (List.getElem_mem hlt)
      have EIN : Hid (((L[k].1 : Nat) : Int) ≤ a → a < (L[k].1 : Nat) + (L[k].2 : Nat) → toV L base a = (t : Int) + a - (L[k].1 : Nat) ∧ toE L a = 0) := ⟨fun x y => by
        have := toV_at HG.out (base := base) hlt x y
        rw [ht.out]; exact ⟨by rw [this.1]; push_cast; omega, this.2⟩⟩
      have EOUT : Hid (¬ (((L[k].1 : Nat) : Int) ≤ a ∧ a < (L[k].1 : Nat) + (L[k].2 : Nat)) → k + 1 ≤ findO L a) := ⟨fun x => find_from HG.out hf.out hlt x⟩
      have ET : Hid (∀ z, z = L[k].2 → t + z = base + sizes (L.take (k + 1))) := ⟨fun z hz => by rw [hz, E.out, ht.out]; omega⟩
      have hk0 : (0 : Int) ≤ (k : Int) := by omega
      have hkl : (k : Int) < (L.length : Int) := by omega
      have hzz := hid (rfl : L[k].2 = L[k].2)
      generalize hs1 : L[k].1 = s1 at *
      generalize hz1 : L[k].2 = z1 at *
      have ETZ := hid (ET.out z1 rfl)
      have htz : t + z1 ≤ 2149580800 := by have := ET.out z1 rfl; omega
      have z0 : ∀ m, (wr.drewN m).cell? ⟨g, k * 2, none⟩ = some (.int .i64 (s1 : Nat)) := fun m => ((Gr.refl wr).drewN m |>.cell hgl _).trans q0
      have z2 : ∀ m, (wr.drewN m).cell? ⟨g, k * 2 + 1, none⟩ = some (.int .i64 (z1 : Nat)) := fun m => ((Gr.refl wr).drewN m |>.cell hgl _).trans q1
      clear h1 h2 ht ET E hf hzz hs1 hz1
      by_cases ha1 : (s1 : Int) ≤ a
      · have d1 : decide ((s1 : Int) ≤ a) = true := decide_eq_true ha1
        by_cases ha2 : a < (s1 : Int) + (z1 : Int)
        · have d2 : decide (a < (s1 : Int) + (z1 : Int)) = true := decide_eq_true ha2
          have EE := hid (EIN.out ha1 ha2)
          clear EIN EOUT
          go_wp2
          go_quiet (fail)
          go_wp2
          go_ret2
          exact ⟨ret2 (vint (by rw [EE.out.1])) (vint (by rw [EE.out.2])), hgr.out.drewN _⟩
        · have d2 : decide (a < (s1 : Int) + (z1 : Int)) = false := decide_eq_false ha2
          have EE := hid (EOUT.out (fun h => ha2 h.2))
          clear EIN EOUT
          go_wp2
          go_quiet (fail)
          go_wp2
          go_roundw
          case rel => exact ⟨k + 1, t + z1, by omega, EE, ETZ, by omega, ⟨hgr.out.drewN _⟩, by go_num, by go_num⟩
          case measure => simp [intOf]; omega
      · have d1 : decide ((s1 : Int) ≤ a) = false := decide_eq_false ha1
        have EE := hid (EOUT.out (fun h => ha1 h.1))
        clear EIN EOUT
        go_wp2
        go_quiet (fail)
        go_wp2
        go_roundw
        case rel => exact ⟨k + 1, t + z1, by omega, EE, ETZ, by omega, ⟨hgr.out.drewN _⟩, by go_num, by go_num⟩
        case measure => simp [intOf]; omega
    · have EE := hid (toV_no (L := L) (base := base) (a := a) (by have := hf.out; omega))
      clear ht hf
      go_wp2
      go_ret2
      exact ⟨ret2 (vint (by rw [EE.out.1])) (vint (by rw [EE.out.2])), hgr.out⟩
set_option maxRecDepth 100000 in
set_option maxHeartbeats 1600000 in
theorem ref22_from {w : World} {A : Option Addr} {c : Nat} {L : List Ob} (hA : ObjsAt w A L) {n : Nat} (hg : Good n L) (hn : n ≤ 1048576) (base : Nat) (hb : base < 2147483648) (b : Int) :
    Calls Tryd.prog 38 #[.slice A L.length c, .int .i64 base, .int .i64 b] w fun e w' => e = .returned (.tuple #[.int .i64 (fromV L base b), .int .i64 (fromI L base b), .int .i64 (fromE L base b)]) ∧ w = w' := by
  have hlen := hg.len
  have hs := sizes_le hg
  have HA := hid hA
  have HG := hid hg
  have HM := hid (fun k => sizes_take_le L k)
  have HT := hid (fun (k : Nat) (hk : k < L.length) => sizes_take hk)
  clear hA hg
  go_enter Tryd.func38, Tryd.ntmps38
  go_wp2
  go_loop [9, 10] (fun s i => ∃ k t : Nat, k ≤ L.length ∧ Hid (b < base ∨ (t : Int) ≤ b) ∧ Hid (t = base + sizes (L.take k)) ∧ t ≤ 2149580800 ∧ base ≤ t ∧ s = .int .i64 t ∧ i = .int .i64 k) (fun _ i => L.length - (intOf i).toNat)
  case atStart => exact ⟨0, base, Nat.zero_le _, ⟨by omega⟩, ⟨rfl⟩, by omega, by omega, rfl, rfl⟩
  case round =>
    obtain ⟨k, t, hk, hf, ht, htb, htb2, rfl, rfl⟩ := hrel
    by_cases hlt : k < L.length
    · obtain ⟨g, rfl, hgl, q0, q1⟩ := HA.out k hlt
      have h1 := HT.out k hlt
      have h2 := HM.out (k + 1)
      rw [h1] at h2
      have E := hid h1
      have hsz := HG.out.sz _ (List.getElem_mem hlt)
      have EIN : Hid ((t : Int) ≤ b → b < (t : Int) + (L[k].2 : Nat) → fromV L base b = (L[k].1 : Nat) + b - (t : Int) ∧ fromI L base b = k ∧ fromE L base b = 0) := ⟨fun x y => by
        have e := ht.out
        have := from_at (L := L) (base := base) (b := b) hlt (by omega) (by omega)
        exact ⟨by rw [this.1, e]; push_cast; omega, this.2⟩⟩
      have ET : Hid (∀ z, z = L[k].2 → t + z = base + sizes (L.take (k + 1))) := ⟨fun z hz => by rw [hz, E.out, ht.out]; omega⟩
      generalize hs1 : L[k].1 = s1 at *
      generalize hz1 : L[k].2 = z1 at *
      have ETZ := hid (ET.out z1 rfl)
      have htz : t + z1 ≤ 2149580800 := by have := ET.out z1 rfl; omega
      have hff := hf.out
      clear h1 h2 ht ET E hf hs1 hz1
      by_cases ha1 : (t : Int) ≤ b
      · by_cases ha2 : b < (t : Int) + (z1 : Int)
        · have EE := hid (EIN.out ha1 ha2)
          have hbs : (s1 : Int) + b ≤ 9223372036854775807 := by omega
          clear EIN
          go_wp2
          go_ret3
          exact ⟨ret3 (vint (by rw [EE.out.1])) (vint (by rw [EE.out.2.1])) (vint (by rw [EE.out.2.2])), rfl⟩
        · clear EIN
          have EE := hid (show b < base ∨ ((t + z1 : Nat) : Int) ≤ b by omega)
          go_wp2
          go_round
          case rel => exact ⟨k + 1, t + z1, by omega, EE, ETZ, by omega, by omega, by go_num, by go_num⟩
          case measure => simp [intOf]; omega
      · clear EIN
        have EE := hid (show b < base ∨ ((t + z1 : Nat) : Int) ≤ b by omega)
        go_wp2
        go_round
        case rel => exact ⟨k + 1, t + z1, by omega, EE, ETZ, by omega, by omega, by go_num, by go_num⟩
        case measure => simp [intOf]; omega
    · obtain rfl : k = L.length := by omega
      have EE := hid (from_no (inF_false (L := L) (base := base) (b := b) (by have := hf.out; have := ht.out; rw [List.take_length] at this; omega)))
      clear ht hf
      go_wp2
      go_ret3
      exact ⟨ret3 (vint (by rw [EE.out.1])) (vint (by rw [EE.out.2.1])) (vint (by rw [EE.out.2.2])), rfl⟩
end Go.Proofs.YtlkifhoedfjlaaaDoor
