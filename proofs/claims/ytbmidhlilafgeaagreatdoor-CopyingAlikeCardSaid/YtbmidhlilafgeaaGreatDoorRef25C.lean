/- The reference of layer 24: May; of layer 25: Check. -/
import Derived.Test.YtbmidhlilafgeaaGreatDoorRef25B
import Derived.Test.YtbmidhlilafgeaaGreatDoorRef20N
import Derived.Test.YtbmidhlilafgeaaGreatDoorTold20
import Derived.Test.YtbmidhlilafgeaaGreatDoorK6
import Derived.Test.YtbmidhlilafgeaaGreatDoorChk
namespace Go.Proofs.YtbmidhlilafgeaaGreatDoor
open Go.RowKit Word

set_option maxRecDepth 100000 in
set_option maxHeartbeats 3200000 in
theorem ref24_may {pg n : Nat} {c : Cf} (hc : CfOk pg n c) (hpg : 1 ≤ pg) (hn : n ≤ 524288) (w : World) :
    Calls Tryz.prog 77 #[cfV c, .int .i64 n, .int .i64 pg] w fun e w' => e = .returned (.bool true) ∧ Gr w w' := by
  obtain ⟨h1, h2, h3, h4, h5, h6, h7, h8, h9, h10, h11, h12, h13⟩ := hc
  obtain ⟨fr, tp, tt, lm, bk, st, ah⟩ := c
  dsimp only at h1 h2 h3 h4 h5 h6 h7 h8 h9 h10 h11 h12 h13
  unfold cfV
  dsimp only
  have HB := hid h1
  have HAP := hid h13
  have HF := hid h10
  have g1 : (fr : Int).tmod (pg : Int) = 0 := by show ((fr % pg : Nat) : Int) = 0; rw [h10]; rfl
  have g2 : (tt : Int).tmod (pg : Int) = 0 := by show ((tt % pg : Nat) : Int) = 0; rw [h11]; rfl
  have g3 : (lm : Int).tmod (pg : Int) = 0 := by show ((lm % pg : Nat) : Int) = 0; rw [h12]; rfl
  have g1' : (fr : Int) % (pg : Int) = 0 := by show ((fr % pg : Nat) : Int) = 0; rw [h10]; rfl
  have g2' : (tt : Int) % (pg : Int) = 0 := by show ((tt % pg : Nat) : Int) = 0; rw [h11]; rfl
  have g3' : (lm : Int) % (pg : Int) = 0 := by show ((lm % pg : Nat) : Int) = 0; rw [h12]; rfl
  have hpz : (pg : Int) ≠ 0 := by omega
  have d1 : decide ((st : Int) < 1) = false := decide_eq_false (by omega)
  have d2 : decide ((4096 : Int) < (st : Int)) = false := decide_eq_false (by omega)
  have d3 : decide ((ah : Int) < 0) = false := decide_eq_false (by omega)
  have d4 : decide ((16 : Int) < (ah : Int)) = false := decide_eq_false (by omega)
  have d5 : decide ((fr : Int) < (pg : Int)) = false := decide_eq_false (by omega)
  have d6 : decide ((tp : Int) < (fr : Int)) = false := decide_eq_false (by omega)
  have d7 : decide ((n : Int) < (tp : Int)) = false := decide_eq_false (by omega)
  have d8 : decide ((tt : Int) < (pg : Int)) = false := decide_eq_false (by omega)
  have d9 : decide ((lm : Int) < (tt : Int)) = false := decide_eq_false (by omega)
  have da : decide ((n : Int) < (lm : Int)) = false := decide_eq_false (by omega)
  have e5 : decide (fr < pg) = false := decide_eq_false (by omega)
  have e6 : decide (tp < fr) = false := decide_eq_false (by omega)
  have e7 : decide (n < tp) = false := decide_eq_false (by omega)
  have e8 : decide (tt < pg) = false := decide_eq_false (by omega)
  have e9 : decide (lm < tt) = false := decide_eq_false (by omega)
  have ea : decide (n < lm) = false := decide_eq_false (by omega)
  have rb := Rec.new w 44 [.int .i64 fr, .int .i64 tp, .int .i64 tt, .int .i64 lm, .int .i64 bk, .int .i64 st, .int .i64 ah]
  have HG0 := hid ((Gr.refl w).alloc (.cells #[.int .i64 fr, .int .i64 tp, .int .i64 tt, .int .i64 lm, .int .i64 bk, .int .i64 st, .int .i64 ah] 44))
  have z0 := rb.cell (j := 0) rfl
  have z1 := rb.cell (j := 1) rfl
  have z2 := rb.cell (j := 2) rfl
  have z3 := rb.cell (j := 3) rfl
  have z4 := rb.cell (j := 4) rfl
  have z5 := rb.cell (j := 5) rfl
  have z6 := rb.cell (j := 6) rfl
  have zl := rb.lt
  have HTPB := hid h5
  clear h1 h10 h11 h12 h13 rb
  go_enter Tryz.func77, Tryz.ntmps77
  go_upto_region 1 with (fail)
  obtain ⟨W0, hW0⟩ : ∃ W0, W0 = w.alloc (.cells #[.int .i64 fr, .int .i64 tp, .int .i64 tt, .int .i64 lm, .int .i64 bk, .int .i64 st, .int .i64 ah] 44) := ⟨_, rfl⟩
  rw [show w.alloc (.cells ([.int .i64 fr, .int .i64 tp, .int .i64 tt, .int .i64 lm, .int .i64 bk, .int .i64 st, .int .i64 ah] : List Value).toArray 44) = W0 from hW0.symm] at z0 z1 z2 z3 z4 z5 z6 zl
  rw [← hW0] at HG0 ⊢
  clear hW0
  go_wp2_with (go_at_call 139; refine (ref_may12 bk _).mono ?_; rintro e w1 ⟨rfl, rfl⟩; rw [HB.out])
  go_loopw [7] (fun s7 wr => ∃ a : Nat, fr ≤ a ∧ a ≤ tp ∧ wr = W0 ∧ s7 = .int .i64 a) (fun s7 _ => tp - (intOf s7).toNat)
  case atStart => exact ⟨fr, Nat.le_refl _, HTPB.out, rfl, rfl⟩
  case round =>
    obtain ⟨a, ha1, ha2, rfl, rfl⟩ := hrel
    by_cases hlt : a < tp
    · have hltI : (a : Int) < (tp : Int) := by omega
      have q1 : (a : Int).tdiv (pg : Int) = ((a / pg : Nat) : Int) := rfl
      have q1' : (a : Int) / (pg : Int) = ((a / pg : Nat) : Int) := rfl
      obtain ⟨dd, hd⟩ : ∃ d, d = a / pg := ⟨_, rfl⟩
      rw [← hd] at q1 q1'
      have hda : dd ≤ a := by rw [hd]; exact Nat.div_le_self _ _
      obtain ⟨qq, hq⟩ : ∃ q, q = dd * pg := ⟨_, rfl⟩
      have q2 : (dd : Int) * (pg : Int) = (qq : Int) := by rw [hq]; push_cast; rfl
      have hqa : qq ≤ a := by rw [hq, hd]; exact Nat.div_mul_le_self _ _
      have hfq : fr ≤ qq := by
        obtain ⟨m, hm⟩ := Nat.dvd_of_mod_eq_zero HF.out
        rw [hq, hd, hm, Nat.mul_comm pg m]
        refine Nat.mul_le_mul_right _ ?_
        rw [Nat.le_div_iff_mul_le (by omega), Nat.mul_comm, ← hm]; exact ha1
      have HLT := hid hlt
      have HA1 := hid ha1
      clear hd hq
      by_cases hx : tt ≤ qq
      · have f1 : decide ((tt : Int) ≤ (qq : Int)) = true := decide_eq_true (by omega)
        have f2 : decide (tt ≤ qq) = true := decide_eq_true hx
        have hlq : ¬ qq < lm := fun h => HAP.out ⟨by
          have : tp ≤ upN tp pg := by
            unfold upN
            have h1 := Nat.div_add_mod (tp + pg - 1) pg
            have h2 := Nat.mod_lt (tp + pg - 1) (show 0 < pg by omega)
            rw [Nat.mul_comm] at h1
            omega
          omega, by omega, by omega, by
          have : tp ≤ upN tp pg := by
            unfold upN
            have h1 := Nat.div_add_mod (tp + pg - 1) pg
            have h2 := Nat.mod_lt (tp + pg - 1) (show 0 < pg by omega)
            rw [Nat.mul_comm] at h1
            omega
          omega⟩
        have f3 : decide ((qq : Int) < (lm : Int)) = false := decide_eq_false (by omega)
        have f4 : decide (qq < lm) = false := decide_eq_false hlq
        clear hlt ha1 hfq
        go_wp2
        go_round
        case rel => exact ⟨a + 1, by have := HA1.out; omega, HLT.out, trivial, by go_num⟩
        case measure => have := HLT.out; simp [intOf]; omega
      · have f1 : decide ((tt : Int) ≤ (qq : Int)) = false := decide_eq_false (by omega)
        have f2 : decide (tt ≤ qq) = false := decide_eq_false hx
        clear hlt ha1 hfq
        go_wp2
        go_round
        case rel => exact ⟨a + 1, by have := HA1.out; omega, HLT.out, trivial, by go_num⟩
        case measure => have := HLT.out; simp [intOf]; omega
    · have hltI : ¬ (a : Int) < (tp : Int) := by omega
      go_wp2
      go_ret
      exact ⟨rfl, HG0.out⟩
section
variable {w : World} {A0 A : Option Addr} {cp cr M : Nat} {v : Vm} {rs : List Int} {L : List Ob}
set_option maxRecDepth 100000 in
set_option maxHeartbeats 6400000 in
theorem ref25_check (hf : FullN M v) (hW : Wrds w A0 cp M v) (hA : IntsAt w A rs) (hlen : rs.length ≤ 64) (hM : Marks v rs M L) (hM2 : M ≤ 1100) {pg : Nat} (hpg : 1 ≤ pg) {c : Cf} (hc : CfOk pg M c) (hin : ∀ o ∈ L, c.fr ≤ o.1 ∧ o.1 + o.2 ≤ c.tp) (hsz : c.to + sizes L ≤ c.lm) :
    Calls Tryz.prog 21 #[.slice A0 M cp, .int .i64 pg, .slice A rs.length cr, cfV c] w fun e w' => e = .returned (.tuple #[.int .i64 (sizes L : Nat), .int .i64 0]) ∧ Gr w w' := by
  have HMK := hid hM
  have HIN := hid hin
  have HMY := hid (fun W => ref24_may hc hpg (by omega) W)
  have HRC := hid (fun (W : World) (g : Gr w W) => ref20n_reached (cr := cr) hf (hW.gr g) (fun i hi => by
    obtain ⟨b, o, e, hb, h0⟩ := hA i hi
    exact ⟨b, o, e, Nat.lt_of_lt_of_le hb g.size, (g.cell hb _).trans h0⟩) hlen hM2)
  unfold ReachEnd at HRC
  have hlm := hc.ln
  have htn := hc.tn
  have hgood := hM.mkd.good
  have hL1 := hgood.len
  have HGD := hid hgood
  obtain ⟨fr, tp, tt, lm, bk, st, ah⟩ := c
  dsimp only at hsz HIN hlm htn
  unfold cfV at HMY ⊢
  dsimp only at HMY ⊢
  have rb := Rec.new w 44 [.int .i64 fr, .int .i64 tp, .int .i64 tt, .int .i64 lm, .int .i64 bk, .int .i64 st, .int .i64 ah]
  have HG0 := hid ((Gr.refl w).alloc (.cells #[.int .i64 fr, .int .i64 tp, .int .i64 tt, .int .i64 lm, .int .i64 bk, .int .i64 st, .int .i64 ah] 44))
  clear hf hW hA hM hin hc hgood
  go_enter Tryz.func21, Tryz.ntmps21
  go_upto_region 1 with (fail)
  obtain ⟨W0, hW0⟩ : ∃ W0, W0 = w.alloc (.cells #[.int .i64 fr, .int .i64 tp, .int .i64 tt, .int .i64 lm, .int .i64 bk, .int .i64 st, .int .i64 ah] 44) := ⟨_, rfl⟩
  rw [show w.alloc (.cells ([.int .i64 fr, .int .i64 tp, .int .i64 tt, .int .i64 lm, .int .i64 bk, .int .i64 st, .int .i64 ah] : List Value).toArray 44) = W0 from hW0.symm] at rb
  rw [← hW0] at HG0 ⊢
  clear hW0
  have HRB := hid rb
  have z0 := rb.cell (j := 0) rfl
  have z1 := rb.cell (j := 1) rfl
  have z2 := rb.cell (j := 2) rfl
  have z3 := rb.cell (j := 3) rfl
  have z4 := rb.cell (j := 4) rfl
  have z5 := rb.cell (j := 5) rfl
  have z6 := rb.cell (j := 6) rfl
  have zl := rb.lt
  clear rb
  go_upto_region 4 with (first
    | (go_at_call 77; refine (HMY.out _).mono ?_; rintro e w1 ⟨rfl, hg1⟩; have HG1 := hid (HG0.out.trans hg1); have HB1 := hid (HRB.out.gr hg1); clear hg1)
    | (go_at_call 78; refine (HRC.out _ HG1.out).mono ?_; rintro e w2 ⟨OA, oc, L', ok, rfl, hg2, hok1, hok2⟩; have HOK : Hid ((ok = true → ObjsAt w2 OA L' ∧ Marks v rs M L') ∧ (ok = false → ¬ Sound v rs M)) := ⟨⟨hok1, hok2⟩⟩; have HG2 := hid (HG1.out.trans hg2); have HB2 := hid (HB1.out.gr hg2); clear hg2 hok1 hok2))
  have hokt : ok = true := by
    cases ok with
    | true => rfl
    | false => exact absurd HMK.out.sound (HOK.out.2 rfl)
  subst hokt
  obtain ⟨hO, hM'⟩ := HOK.out.1 rfl
  obtain rfl := hM'.unique HMK.out
  have HO := hid hO
  obtain ⟨N, hN⟩ : ∃ N, N = L'.length := ⟨_, rfl⟩
  have HN := hid hN
  rw [← hN] at hL1 ⊢
  have HSZ := hid (fun W (g : Gr w2 W) => sizes13 (c := oc) (hO.gr g) HGD.out (by omega))
  rw [← hN] at HSZ
  clear hO hM' hN z0 z1 z2 z3 z4 z5 z6 zl HOK
  go_wp2_with (fail)
  go_loopw [12] (fun s12 wr => ∃ i : Nat, i ≤ N ∧ Hid (Gr w2 wr) ∧ s12 = .int .i64 i) (fun s12 _ => N - (intOf s12).toNat)
  case atStart => exact ⟨0, Nat.zero_le _, ⟨Gr.refl _⟩, rfl⟩
  case round =>
    obtain ⟨i, hi, HG, rfl⟩ := hrel
    have hbx := HB2.out.gr HG.out
    have z0 := hbx.cell (j := 0) rfl
    have z1 := hbx.cell (j := 1) rfl
    have z2 := hbx.cell (j := 2) rfl
    have z3 := hbx.cell (j := 3) rfl
    have zl := hbx.lt
    clear hbx
    by_cases hlt : i < N
    · have hil : i < L'.length := by have := HN.out; omega
      obtain ⟨go, rfl, hgl, q0, q1⟩ := (HO.out.gr HG.out) i hil
      obtain ⟨i1, i2⟩ := HIN.out _ (List.getElem_mem hil)
      obtain ⟨a, ha⟩ : ∃ a, a = L'[i].1 := ⟨_, rfl⟩
      obtain ⟨s, hs⟩ : ∃ s, s = L'[i].2 := ⟨_, rfl⟩
      rw [← ha] at i1 i2 q0
      rw [← hs] at i2 q1
      have hltI : (i : Int) < (N : Int) := by omega
      have f1 : decide ((a : Int) < (fr : Int)) = false := decide_eq_false (by omega)
      have f2 : decide (a < fr) = false := decide_eq_false (by omega)
      have f3 : decide ((tp : Int) < (a : Int) + (s : Int)) = false := decide_eq_false (by omega)
      have f4 : decide (tp < a + s) = false := decide_eq_false (by omega)
      have hws : IntKind.i64.wrap ((a : Int) + (s : Int)) = (a : Int) + (s : Int) := IntWalk.i64_in _ (by omega)
      have HLT := hid hlt
      clear hil ha hs hlt
      go_upto_region 9 with (fail)
      obtain ⟨Sx, hSx⟩ : ∃ Sx : World → Prop, Sx = fun W' => (W'.cell? ⟨w.heap.size, 0, none⟩ = some (.int .i64 fr) ∧ W'.cell? ⟨w.heap.size, 1, none⟩ = some (.int .i64 tp)) ∧ W'.cell? ⟨go, i * 2, none⟩ = some (.int .i64 a) ∧ W'.cell? ⟨go, i * 2 + 1, none⟩ = some (.int .i64 s) := ⟨_, rfl⟩
      have x0 : ∀ p' : Held Sx, p'.w.cell? ⟨w.heap.size, 0, none⟩ = some (.int .i64 fr) := fun p => (Held.get hSx p).1.1
      have x1 : ∀ p' : Held Sx, p'.w.cell? ⟨w.heap.size, 1, none⟩ = some (.int .i64 tp) := fun p => (Held.get hSx p).1.2
      have x2 : ∀ p' : Held Sx, p'.w.cell? ⟨go, i * 2, none⟩ = some (.int .i64 a) := fun p => (Held.get hSx p).2.1
      have x3 : ∀ p' : Held Sx, p'.w.cell? ⟨go, i * 2 + 1, none⟩ = some (.int .i64 s) := fun p => (Held.get hSx p).2.2
      have hS0 : Sx wr.drew := by rw [hSx]; exact ⟨⟨z0, z1⟩, q0, q1⟩
      have inst : Inhabited (Held Sx) := ⟨⟨_, hS0⟩⟩
      clear hSx
      refine wp_region_mixS Sx 24 [] [0, 1, 2, 3, 4, 5, 6, 7, 8, 9, 10, 11, 12, 13, 14, 15, 16, 17, 18, 19, 20, 21, 22, 23] (by kernel_rfl) (by kernel_rfl) hS0 ?_
      refine segs_end ?_
      simp only [opsAt, List.getElem?_cons_zero, List.getElem?_cons_succ]
      repeat (go_big_quiet_step (fail))
      refine wpQuiet_nil ?_
      refine NoPanic.normal ?_
      clear x0 x1 x2 x3 hS0 inst
      clear Sx
      go_wp2
      go_round
      case rel => exact ⟨i + 1, HLT.out, ⟨HG.out.drew⟩, by go_num⟩
      case measure => have := HLT.out; simp [intOf]; omega
    · have hltI : ¬ (i : Int) < (N : Int) := by omega
      have HZ1 := hid (HSZ.out _ HG.out.drew)
      have HSZ2 := hid (HSZ.out)
      obtain ⟨sz, hsz2⟩ : ∃ s, s = sizes L' := ⟨_, rfl⟩
      rw [← hsz2] at HZ1 hsz HSZ2
      have f1 : decide ((lm : Int) - (tt : Int) < (sz : Int)) = false := decide_eq_false (by omega)
      have HSS := hid hsz2
      clear hsz2 hlt
      go_upto_region 11 with (fail)
      obtain ⟨Sx, hSx⟩ : ∃ Sx : World → Prop, Sx = fun W' => W'.cell? ⟨w.heap.size, 2, none⟩ = some (.int .i64 tt) ∧ W'.cell? ⟨w.heap.size, 3, none⟩ = some (.int .i64 lm) := ⟨_, rfl⟩
      have x2 : ∀ p' : Held Sx, p'.w.cell? ⟨w.heap.size, 2, none⟩ = some (.int .i64 tt) := fun p => (Held.get hSx p).1
      have x3 : ∀ p' : Held Sx, p'.w.cell? ⟨w.heap.size, 3, none⟩ = some (.int .i64 lm) := fun p => (Held.get hSx p).2
      have hS0 : Sx wr.drew := by rw [hSx]; exact ⟨z2, z3⟩
      have inst : Inhabited (Held Sx) := ⟨⟨_, hS0⟩⟩
      clear hSx
      refine wp_region_mixS Sx 8 [([0, 2, 3, 4, 5, 6], 1)] [7] (by kernel_rfl) (by kernel_rfl) hS0 ?_
      refine segs_step ?_
      simp only [opsAt, List.getElem?_cons_zero, List.getElem?_cons_succ]
      repeat (go_big_quiet_step (fail))
      refine wpQuiet_nil ?_
      go_wp2_with (go_at_call 79; refine HZ1.out.mono ?_; rintro e w5 ⟨rfl, rfl⟩)
      refine ⟨.inr (Held.of hS0), ?_⟩
      refine segs_end ?_
      simp only [opsAt, List.getElem?_cons_zero, List.getElem?_cons_succ]
      repeat (go_big_quiet_step (fail))
      refine wpQuiet_nil ?_
      refine NoPanic.normal ?_
      clear x2 x3 hS0 inst
      clear Sx
      go_wp2_with (go_at_call 79; refine (HSZ2.out _ HG.out.drew).mono ?_; rintro e w5 ⟨rfl, rfl⟩)
      go_ret2
      refine ⟨?_, (HG2.out.trans HG.out).drew⟩
      rw [← HSS.out]
      exact ret2 rfl rfl
end
end Go.Proofs.YtbmidhlilafgeaaGreatDoor
