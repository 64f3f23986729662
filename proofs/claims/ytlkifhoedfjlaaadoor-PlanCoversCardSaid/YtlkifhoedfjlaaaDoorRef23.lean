/- The reference of layer 23. -/
import Derived.Test.YtlkifhoedfjlaaaDoorPieces
import Derived.Test.YtlkifhoedfjlaaaDoorRef22
namespace Go.Proofs.YtlkifhoedfjlaaaDoor
open Go.RowKit Word

set_option maxRecDepth 100000 in
set_option maxHeartbeats 800000 in
theorem ref23_blocks {w : World} {A : Option Addr} {c : Nat} {L : List Ob} (hA : ObjsAt w A L) {n : Nat} (hg : Good n L) (hn : n ≤ 1048576) (B : Nat) (hB : 1 ≤ B) (hB2 : B ≤ 1024) :
    Calls Tryd.prog 48 #[.slice A L.length c, .int .i64 B] w fun e w' => e = .returned (.int .i64 (nbl (sizes L) B : Nat)) ∧ w = w' := by
  have hs := sizes_le hg
  have HA := hid hA
  have HG := hid hg
  obtain ⟨len, hlen⟩ : ∃ s, s = sizes L := ⟨_, rfl⟩
  rw [← hlen] at hs ⊢
  have HL := hid hlen.symm
  clear hA hg hlen
  go_enter Tryd.func48, Tryd.ntmps48
  go_wp2
  go_loop [5, 6] (fun n i => ∃ j t : Nat, Hid (t = j * B) ∧ t ≤ 1048576 + 1024 ∧ j ≤ t ∧ Hid (∀ i, i < j → i * B < len) ∧ n = .int .i64 j ∧ i = .int .i64 t) (fun _ i => 1048576 + 1025 - (intOf i).toNat)
  case atStart => exact ⟨0, 0, ⟨by simp⟩, by omega, by omega, ⟨fun i h => by omega⟩, rfl, rfl⟩
  case round =>
    obtain ⟨j, t, ht, hb, hjt, hno, rfl, rfl⟩ := hrel
    by_cases hlt : t < len
    · have h1 : Hid (t + B = (j + 1) * B) := ⟨by rw [Nat.succ_mul, ht.out]⟩
      have h2 : Hid (∀ i, i < j + 1 → i * B < len) := ⟨fun i hi => by
        by_cases e : i = j
        · rw [e, ← ht.out]; exact hlt
        · exact hno.out i (by omega)⟩
      clear ht hno
      go_wp2_with (go_at_call 33; refine (ref13_sizes HA.out HG.out hn).mono ?_; rintro e w1 ⟨rfl, rfl⟩; rw [HL.out])
      go_round
      case rel => exact ⟨j + 1, t + B, h1, by omega, by omega, h2, by go_num, by go_num⟩
      case measure => simp [intOf]; omega
    · have E := hid (nbl_eq hB (show len ≤ j * B by rw [← ht.out]; omega) hno.out)
      clear ht hno
      go_wp2_with (go_at_call 33; refine (ref13_sizes HA.out HG.out hn).mono ?_; rintro e w1 ⟨rfl, rfl⟩; rw [HL.out])
      go_ret
      exact ⟨ret_int (by rw [E.out]), rfl⟩
set_option maxRecDepth 100000 in
set_option maxHeartbeats 1600000 in
theorem ref23_range {w : World} {A : Option Addr} {c : Nat} {L : List Ob} (hA : ObjsAt w A L) {n : Nat} (hg : Good n L) (hn : n ≤ 1048576) (B : Nat) (hB : 1 ≤ B) (hB2 : B ≤ 1024) (base : Nat) (hbs : base < 2147483648) (k : Int) :
    Calls Tryd.prog 45 #[.slice A L.length c, .int .i64 B, .int .i64 base, .int .i64 k] w fun e w' => e = .returned (.tuple #[.int .i64 (rngA L B base k), .int .i64 (rngZ L B base k), .int .i64 (rngE L B k)]) ∧ w = w' := by
  have hs := sizes_le hg
  have HA := hid hA
  have HG := hid hg
  clear hA hg
  obtain ⟨N, hN⟩ : ∃ N, N = nbl (sizes L) B := ⟨_, rfl⟩
  have HN := hid hN.symm
  by_cases hk0 : k < 0
  · have E := hid (rng_no (base := base) (rng_false (L := L) (B := B) (.inl hk0)))
    rw [E.out.1, E.out.2.1, E.out.2.2]
    have d0 : decide (k < 0) = true := decide_eq_true hk0
    clear hN
    go_enter Tryd.func45, Tryd.ntmps45
    go_wp2
    go_ret3
    exact ⟨rfl, rfl⟩
  · obtain ⟨j, rfl⟩ : ∃ j : Nat, k = j := ⟨k.toNat, by omega⟩
    have d0 : decide ((j : Int) < 0) = false := decide_eq_false hk0
    by_cases hk1 : N ≤ j
    · have E := hid (rng_no (base := base) (rng_false (L := L) (B := B) (k := j) (.inr (by omega))))
      rw [E.out.1, E.out.2.1, E.out.2.2]
      have d1 : decide (N ≤ j) = true := decide_eq_true hk1
      clear hN
      go_enter Tryd.func45, Tryd.ntmps45
      go_wp2_with (go_at_call 48; refine (ref23_blocks HA.out HG.out hn B hB hB2).mono ?_; rintro e w1 ⟨rfl, rfl⟩; rw [HN.out])
      go_ret3
      exact ⟨rfl, rfl⟩
    · have hin : rngIn L B j = true := by unfold rngIn; rw [← hN]; simp; omega
      have hlt := rng_lt hB hin
      have E := hid (rng_yes (base := base) hin)
      rw [E.out.1, E.out.2.1, E.out.2.2]
      obtain ⟨t, ht⟩ : ∃ t, t = j * B := ⟨_, rfl⟩
      have hmul : (j : Int) * (B : Int) = (t : Int) := by rw [ht]; push_cast; rfl
      rw [← ht] at hlt
      rw [hmul]
      obtain ⟨s, hs'⟩ : ∃ s, s = sizes L := ⟨_, rfl⟩
      have HS := hid hs'.symm
      rw [← hs'] at hs hlt ⊢
      have d1 : decide (N ≤ j) = false := decide_eq_false hk1
      obtain ⟨u, hu⟩ : ∃ u, u = min ((t : Int) + (B : Int)) (s : Int) := ⟨_, rfl⟩
      have hub : 0 ≤ u ∧ u ≤ 1048576 := by omega
      rw [← hu]
      have hmin : ∀ w', (Builtin.min_ #[3, 3] 3 #[.int .i64 ((t : Int) + (B : Int)), .int .i64 (s : Int)]).run Tryd.prog w' = .ok (.int .i64 u) w' := fun w' => by rw [run_minB2, hu]
      clear hN hs' ht hin hu
      go_enter Tryd.func45, Tryd.ntmps45
      go_wp2_with (first
        | (go_at_call 48; refine (ref23_blocks HA.out HG.out hn B hB hB2).mono ?_; rintro e w1 ⟨rfl, rfl⟩; rw [HN.out])
        | (go_at_call 33; refine (ref13_sizes HA.out HG.out hn).mono ?_; rintro e w1 ⟨rfl, rfl⟩; rw [HS.out]))
      go_ret3
      exact ⟨rfl, rfl⟩
theorem flatP_set (Q : List Pc) (q : Pc) : (flatP (Q ++ [q])).set (Q.length * 3 + 2) (.int .i64 ((q.s : Nat) + 1 : Int)) = flatP (Q ++ [⟨q.f, q.t, q.s + 1⟩]) := by
  rw [flatP_append, flatP_append, List.set_append, if_neg (by rw [flatP_len]; omega), flatP_len, show Q.length * 3 + 2 - Q.length * 3 = 2 by omega]
  rfl
theorem infoPcR : (Tryd.prog.info? 75).map (fun i => (i.zero, i.size, i.bytes)) = some (some (.agg #[.int .i64 0, .int .i64 0, .int .i64 0]), 3, 24) := by kernel_rfl
set_option maxRecDepth 100000 in
set_option maxHeartbeats 3200000 in
theorem ref23_pieces {w : World} {A : Option Addr} {c : Nat} {L : List Ob} (hA : ObjsAt w A L) {n : Nat} (hg : Good n L) (hn : n ≤ 1048576) (B : Nat) (hB : 1 ≤ B) (hB2 : B ≤ 1024) (base : Nat) (hbs : base < 2147483648) (k : Int) :
    Calls Tryd.prog 46 #[.slice A L.length c, .int .i64 B, .int .i64 base, .int .i64 k] w (PcsEnd w (pcsOf L B base k) (rngE L B k)) := by
  have HA := hid hA
  have HG := hid hg
  clear hA
  cases hin : rngIn L B k with
  | false =>
    have E := hid (rng_no (base := base) hin)
    have E2 := hid (pcsOf_no (base := base) hin)
    rw [E2.out, E.out.2.2]
    clear hin hg
    go_enter Tryd.func46, Tryd.ntmps46
    go_wp2_with (go_at_call 45; refine (ref23_range HA.out HG.out hn B hB hB2 base hbs k).mono ?_; rintro e w1 ⟨rfl, rfl⟩; rw [E.out.1, E.out.2.1, E.out.2.2])
    go_ret2
    exact ⟨none, 0, rfl, Gr.refl _, fun i hi => absurd hi (by simp)⟩
  | true =>
    obtain ⟨a0, z, ea, ez, hlt, hz, hzB, -, -⟩ := rng_nat hg hn hB hbs hin
    have E := hid (And.intro ea (And.intro ez (rng_yes (base := base) hin).2.2))
    have E2 : Hid (pcsOf L B base k = pcs (fromV L base) a0 (z - a0)) := ⟨by unfold pcsOf; rw [ea, ez]; congr 1; omega⟩
    rw [E2.out, E.out.2.2]
    obtain ⟨i0, hi, hi0, hi1, hi2⟩ := info_parts infoPcR
    have HBD := hid (fun b => frm_bd hg hn base b)
    obtain ⟨g, hgf⟩ : ∃ g, g = fromV L base := ⟨_, rfl⟩
    rw [← hgf] at HBD ⊢
    have HGF := hid hgf.symm
    clear hg hin ea ez hgf
    go_enter Tryd.func46, Tryd.ntmps46
    go_wp2_with (go_at_call 45; refine (ref23_range HA.out HG.out hn B hB hB2 base hbs k).mono ?_; rintro e w1 ⟨rfl, rfl⟩; rw [E.out.1, E.out.2.1, E.out.2.2])
    go_loopw [13, 14] (fun s13 s14 wr => ∃ (b m : Nat) (P : List Pc), Hid (b = a0 + m) ∧ b ≤ z ∧ a0 ≤ b ∧ Hid (pcs g a0 m = P) ∧ P.length ≤ b ∧ Hid (wr.ownsRow w.heap.size 75 3 s13 P.length (flatP P)) ∧ Hid (Touch (fun i => w.heap.size ≤ i) w wr) ∧ s14 = .int .i64 b) (fun _ s14 _ => z - (intOf s14).toNat)
    case atStart => exact ⟨a0, 0, [], ⟨rfl⟩, by omega, Nat.le_refl _, ⟨rfl⟩, by simp, ⟨own_nil _ _ _ _⟩, ⟨Touch.refl _ _⟩, rfl⟩
    case round =>
      obtain ⟨b, m, P, hat, hle, hge, hp, hpl, hown, ht, rfl⟩ := hrel
      have HAr := hid (HA.out.gr (ht.out.mono (T := fun _ => False) (fun i hi h => by omega)).gr)
      have hwl := ht.out.size
      have hbase : ∀ nq o, w.heap.size ≤ ((wr.drewN nq).alloc o).heap.size := fun nq o => Nat.le_trans hwl (((Gr.refl wr).drewN nq).alloc o).size
      by_cases hz' : b < z
      · obtain ⟨x, hx⟩ : ∃ x, x = g (b : Int) := ⟨_, rfl⟩
        have hxb := HBD.out b
        rw [← hx] at hxb
        have HX := hid hx.symm
        have HP1 : Hid (pcs g a0 (m + 1) = pcStep P x b) := ⟨by
          show pcStep (pcs g a0 m) (g ((a0 : Int) + (m : Int))) ((a0 : Int) + (m : Int)) = _
          rw [hp.out, show (a0 : Int) + (m : Int) = (b : Int) by have := hat.out; omega, ← hx]⟩
        have HAT := hid (show b + 1 = a0 + (m + 1) from by have := hat.out; omega)
        clear hx
        by_cases hP : P = []
        · subst hP
          obtain ⟨Av, cv, rfl, -, -⟩ := own_pcs hown.out
          have d0 : decide ((0 : Int) < 0) = false := by decide
          have HR : Hid (pcs g a0 (m + 1) = [⟨x, b, 1⟩]) := ⟨by rw [HP1.out]; rfl⟩
          clear hp
          go_wp2_with (go_at_call 38; refine (ref22_from HAr.out HG.out hn base hbs b).mono ?_; rintro e w2 ⟨rfl, rfl⟩; rw [HGF.out, HX.out])
          go_quiet (fail)
          go_wp2_with (at_builtin; refine wpList_append_own _ rfl _ _ 72 rfl w.heap.size 75 i0 _ 3 24 Tryd.underlying72 hi hi0 hi1 hi2 rfl (by decide) (.slice Av 0 cv) 0 [] rfl (own_gr hown.out (((Gr.refl _).drewN nq).alloc _)) ⟨wr.heap.size, 0, none⟩ 1 1 [.int .i64 x, .int .i64 b, .int .i64 1] rfl rfl (World.news_of_block (cs := #[.int .i64 x, .int .i64 b, .int .i64 1]) (t := 75) (fr := (0, 0)) (heap_alloc_new (wr.drewN nq) _)) (by simp [Value.oneCell']) (by unfold maxLen; omega) (by omega) (hbase _ _) ?_; intro v4 w4 hown4 hgrow4 _; have HO4 := hid (own_push (P := []) (q := ⟨x, b, 1⟩) hown4); have HT4 := hid (((((Gr.refl wr).drewN nq).alloc (.cells #[.int .i64 x, .int .i64 b, .int .i64 1] 75)).touch (fun k => w.heap.size ≤ k)).trans (grown_touch hgrow4 _ (fun _ e _ => (own_lt hown.out e).1))); clear hown4 hgrow4)
          go_roundw
          case rel => exact ⟨b + 1, m + 1, [⟨x, b, 1⟩], HAT, by omega, by omega, HR, by simp, HO4, ⟨ht.out.trans HT4.out⟩, by go_num⟩
          case measure => simp [intOf]; omega
        · obtain ⟨Q, q, rfl⟩ := snoc_of hP
          obtain ⟨gA, cv, rfl, hgb, hcv1, hcv2, hgl⟩ := own_form hown.out (by simp)
          obtain ⟨N, hN⟩ : ∃ N, N = Q.length := ⟨_, rfl⟩
          have hN1 : (Q ++ [q]).length = N + 1 := by rw [hN]; simp
          have hown1 := hown.out
          rw [hN1] at hown1 hpl hcv1 ⊢
          have hqs := pcs_size g a0 m q (by rw [hp.out]; simp)
          have hR := pcs_runs g a0 m
          rw [hp.out] at hR
          have hq1 := hR.pos q (by simp)
          have hqf : 0 ≤ q.f ∧ q.f ≤ 1048576 := by
            have h0 : g q.t = q.f := by simpa using hR.word q (by simp) 0 hq1
            rw [← h0]
            exact HBD.out q.t
          have hf := flatP_at (P := Q ++ [q]) (i := N) (by rw [hN1]; omega)
          have hge : (Q ++ [q])[N]'(by rw [hN1]; omega) = q := by simp [hN]
          rw [hge] at hf
          have k0 := own_cell hown1 hf.1
          have k2 := own_cell hown1 hf.2.2
          have kf := own_free hown1 (N * 3 + 2)
          have HS := flatP_set Q q
          rw [← hN] at HS
          have HFS := hid HS
          have HOW := hid hown1
          have hmb : m ≤ b := by have := hat.out; omega
          have HPC := hid hp.out
          have HNX := hid hN1
          obtain ⟨qf, hqf'⟩ : ∃ v, v = q.f := ⟨_, rfl⟩
          obtain ⟨qs, hqs'⟩ : ∃ v, v = q.s := ⟨_, rfl⟩
          rw [← hqf'] at hqf k0
          rw [← hqs'] at hqs hq1 k2
          have HQ := hid (And.intro hqf'.symm hqs'.symm)
          have z0 : ∀ m, (wr.drewN m).cell? ⟨gA, N * 3, none⟩ = some (.int .i64 qf) := fun m => ((Gr.refl wr).drewN m |>.cell hgl _).trans k0
          have z2 : ∀ m, (wr.drewN m).cell? ⟨gA, N * 3 + 2, none⟩ = some (.int .i64 (qs : Nat)) := fun m => ((Gr.refl wr).drewN m |>.cell hgl _).trans k2
          have zf : ∀ m, (wr.drewN m).frozen? ⟨gA, N * 3 + 2, none⟩ = false := fun m => ((Gr.refl wr).drewN m |>.frozen hgl _).trans kf
          have hgne : ∀ i, i < w.heap.size → i ≠ gA := fun i hi h => by omega
          clear hp hown hN hN1 hR hf hge HS hown1 hqf' hqs' hP
          by_cases hx : qf + (qs : Int) = x
          · have d1 : (qf + (qs : Int) == x) = true := by rw [hx]; simp
            have HR : Hid (pcs g a0 (m + 1) = Q ++ [⟨q.f, q.t, q.s + 1⟩]) := ⟨by rw [HP1.out]; exact pcStep_more (by rw [HQ.out.1, HQ.out.2]; exact hx)⟩
            clear hx
            go_wp2_with (go_at_call 38; refine (ref22_from HAr.out HG.out hn base hbs b).mono ?_; rintro e w2 ⟨rfl, rfl⟩; rw [HGF.out, HX.out])
            go_quiet (fail)
            go_wp2
            go_roundw
            case rel =>
              have hst := (own_gr HOW.out ((Gr.refl wr).drewN nq)).stored (N * 3 + 2) (.int .i64 ((qs : Nat) + 1 : Int))
              have hl2 : (Q ++ [(⟨q.f, q.t, q.s + 1⟩ : Pc)]).length = N + 1 := by have := HNX.out; simp at this ⊢; exact this
              rw [← HQ.out.2, HFS.out] at hst
              refine ⟨b + 1, m + 1, Q ++ [⟨q.f, q.t, q.s + 1⟩], HAT, by omega, by omega, HR, by rw [hl2]; omega, ⟨?_⟩, ⟨ht.out.trans ((((Gr.refl wr).drewN nq).touch _).setCell (fun _ => hgb) _)⟩, by go_num⟩
              rw [hl2, ← HQ.out.2]
              exact hst.1
            case measure => simp [intOf]; omega
          · have d1 : (qf + (qs : Int) == x) = false := beq_eq_false_iff_ne.2 hx
            have HR : Hid (pcs g a0 (m + 1) = Q ++ [q] ++ [⟨x, b, 1⟩]) := ⟨by rw [HP1.out]; exact pcStep_new (fun p h => by simp at h; subst h; rw [HQ.out.1, HQ.out.2]; exact hx)⟩
            clear hx
            go_wp2_with (go_at_call 38; refine (ref22_from HAr.out HG.out hn base hbs b).mono ?_; rintro e w2 ⟨rfl, rfl⟩; rw [HGF.out, HX.out])
            go_quiet (fail)
            go_wp2_with (at_builtin; refine wpList_append_own _ rfl _ _ 72 rfl w.heap.size 75 i0 _ 3 24 Tryd.underlying72 hi hi0 hi1 hi2 rfl (by decide) (.slice (some ⟨gA, 0, none⟩) (N + 1) cv) (N + 1) (flatP (Q ++ [q])) rfl (own_gr HOW.out (((Gr.refl _).drewN nq).alloc _)) ⟨wr.heap.size, 0, none⟩ 1 1 [.int .i64 x, .int .i64 b, .int .i64 1] rfl rfl (World.news_of_block (cs := #[.int .i64 x, .int .i64 b, .int .i64 1]) (t := 75) (fr := (0, 0)) (heap_alloc_new (wr.drewN nq) _)) (by simp [Value.oneCell']) (by unfold maxLen; omega) (by omega) (hbase _ _) ?_; intro v4 w4 hown4 hgrow4 _; rw [← HNX.out] at hown4; have HO4 := hid (own_push (P := Q ++ [q]) (q := ⟨x, b, 1⟩) hown4); have HT4 := hid (((((Gr.refl wr).drewN nq).alloc (.cells #[.int .i64 x, .int .i64 b, .int .i64 1] 75)).touch (fun k => w.heap.size ≤ k)).trans (grown_touch hgrow4 _ (fun _ e _ => (own_lt HOW.out e).1))); clear hown4 hgrow4)
            go_roundw
            case rel => exact ⟨b + 1, m + 1, Q ++ [q] ++ [⟨x, b, 1⟩], HAT, by omega, by omega, HR, by rw [List.length_append, HNX.out]; simp; omega, HO4, ⟨ht.out.trans HT4.out⟩, by go_num⟩
            case measure => simp [intOf]; omega
      · obtain rfl : b = z := by omega
        go_wp2
        go_ret2
        obtain ⟨A, c, hA, hA2, -⟩ := own_pcs hown.out
        have e1 := hp.out
        have e2 : m = b - a0 := by have := hat.out; omega
        subst e2
        rw [e1]
        exact ⟨A, c, by rw [← hA]; rfl, (ht.out.mono (T := fun _ => False) (fun i hi h => by omega)).gr, hA2⟩
end Go.Proofs.YtlkifhoedfjlaaaDoor
