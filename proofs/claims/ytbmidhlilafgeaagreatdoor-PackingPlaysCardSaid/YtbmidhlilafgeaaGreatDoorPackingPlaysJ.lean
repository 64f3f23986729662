/- Part 10 of what PackingPlays leans on: my own lemmas, merged by shake.py. -/
import Derived.Test.YtbmidhlilafgeaaGreatDoorPackingPlaysI
section
namespace Go.Proofs.YtbmidhlilafgeaaGreatDoor
open Go.RowKit Word

def Chk26 (w : World) (M : Nat) (u : Vm) (rs : List Int) (fr tp room : Int) (e : Ending) (w' : World) : Prop :=
  Gr w w' ∧ ((pkArg M fr tp room = false ∧ e = .returned (.tuple #[.slice none 0 0, .int .i64 5])) ∨
    (pkArg M fr tp room = true ∧ (∀ L, ¬ PkIn u rs fr tp L) ∧ e = .returned (.tuple #[.slice none 0 0, .int .i64 25])) ∨
    (pkArg M fr tp room = true ∧ ∃ L A c, PkIn u rs fr tp L ∧ e = .returned (.tuple #[.slice A (List.length L) c, .int .i64 0]) ∧ ObjsAt w' A L ∧ ∀ a, A = some a → w.heap.size ≤ a.block))
section
variable {w : World} {A0 A : Option Addr} {cp cr M : Nat} {u : Vm} {rs : List Int}
set_option maxRecDepth 100000 in
set_option maxHeartbeats 6400000 in
theorem ref26_check (hf : FullN M u) (hW : Wrds w A0 cp M u) (hA : IntsAt w A rs) (hlen : rs.length ≤ 64) (hM2 : M ≤ 1100) (fr tp room : Int) :
    Calls Tryz.prog 30 #[.slice A0 M cp, .slice A rs.length cr, .int .i64 fr, .int .i64 tp, .int .i64 room] w (Chk26 w M u rs fr tp room) := by
  have HRC := hid (ref20n_reachedN (cr := cr) hf hW hA hlen hM2)
  unfold ReachEndN at HRC
  have HF := hid hf
  obtain ⟨l, hl⟩ : ∃ l, l = rs.length := ⟨_, rfl⟩
  rw [← hl] at HRC ⊢
  clear hf hW hA hlen hl
  go_enter Tryz.func30, Tryz.ntmps30
  by_cases h1 : fr < 1
  · have e1 : decide (fr < 1) = true := decide_eq_true h1
    have HE := hid (pkArg_false (n := M) (fr := fr) (tp := tp) (room := room) (by omega))
    go_wp2
    go_ret2
    exact ⟨Gr.refl _, .inl ⟨HE.out, ret2 rfl rfl⟩⟩
  · have e1 : decide (fr < 1) = false := decide_eq_false h1
    by_cases h2 : tp < fr
    · have e2 : decide (tp < fr) = true := decide_eq_true h2
      have HE := hid (pkArg_false (n := M) (fr := fr) (tp := tp) (room := room) (by omega))
      go_wp2
      go_ret2
      exact ⟨Gr.refl _, .inl ⟨HE.out, ret2 rfl rfl⟩⟩
    · have e2 : decide (tp < fr) = false := decide_eq_false h2
      by_cases h3 : (M : Int) < tp
      · have e3 : decide ((M : Int) < tp) = true := decide_eq_true h3
        have HE := hid (pkArg_false (n := M) (fr := fr) (tp := tp) (room := room) (by omega))
        go_wp2
        go_ret2
        exact ⟨Gr.refl _, .inl ⟨HE.out, ret2 rfl rfl⟩⟩
      · have e3 : decide ((M : Int) < tp) = false := decide_eq_false h3
        by_cases h4 : room < 1
        · have e4 : decide (room < 1) = true := decide_eq_true h4
          have HE := hid (pkArg_false (n := M) (fr := fr) (tp := tp) (room := room) (by omega))
          go_wp2
          go_ret2
          exact ⟨Gr.refl _, .inl ⟨HE.out, ret2 rfl rfl⟩⟩
        · have e4 : decide (room < 1) = false := decide_eq_false h4
          by_cases h5 : 4096 < room
          · have e5 : decide (4096 < room) = true := decide_eq_true h5
            have HE := hid (pkArg_false (n := M) (fr := fr) (tp := tp) (room := room) (by omega))
            go_wp2
            go_ret2
            exact ⟨Gr.refl _, .inl ⟨HE.out, ret2 rfl rfl⟩⟩
          · have e5 : decide (4096 < room) = false := decide_eq_false h5
            have HE := hid ((pkArg_true (n := M) (fr := fr) (tp := tp) (room := room)).2 (by omega))
            obtain ⟨f, rfl⟩ : ∃ f : Nat, fr = f := ⟨fr.toNat, by omega⟩
            obtain ⟨t, rfl⟩ : ∃ t : Nat, tp = t := ⟨tp.toNat, by omega⟩
            go_upto_region 4 with (go_at_call 78; refine (HRC.out).mono ?_; rintro e w2 ⟨OA, oc, L, ok, rfl, hg2, hok1, hok2, hok3⟩; have HNEW := hid hok3; have HOK : Hid ((ok = true → ObjsAt w2 OA L ∧ Marks u rs M L) ∧ (ok = false → ¬ Sound u rs M)) := ⟨⟨hok1, hok2⟩⟩; have HG2 := hid hg2; clear hg2 hok1 hok2 hok3)
            cases ok with
            | false =>
              have HNS := hid (HOK.out.2 rfl)
              go_wp2
              go_ret2
              refine ⟨HG2.out, .inr (.inl ⟨HE.out, fun L' h => HNS.out ?_, ret2 rfl rfl⟩)⟩
              rw [← HF.out.n]
              exact h.1.sound
            | true =>
              obtain ⟨hO, hM⟩ := HOK.out.1 rfl
              have HO := hid hO
              have HM := hid hM
              have hL1 := hM.mkd.good.len
              obtain ⟨N, hN⟩ : ∃ N, N = L.length := ⟨_, rfl⟩
              have HN := hid hN
              rw [← hN] at hL1 ⊢
              clear hO hM hN HOK e1 e2 e3 e4 e5
              go_wp2_with (fail)
              go_loopw [14] (fun s14 wr => ∃ i : Nat, i ≤ N ∧ Hid (∀ j (hj : j < L.length), j < i → f ≤ L[j].1 ∧ L[j].1 + L[j].2 ≤ t) ∧ Hid (Gr w2 wr) ∧ s14 = .int .i64 i) (fun s14 _ => N - (intOf s14).toNat)
              case atStart => exact ⟨0, Nat.zero_le _, ⟨fun j hj h => absurd h (Nat.not_lt_zero _)⟩, ⟨Gr.refl _⟩, rfl⟩
              case round =>
                obtain ⟨i, hi, HIN, HG, rfl⟩ := hrel
                by_cases hlt : i < N
                · have hil : i < L.length := by have := HN.out; omega
                  obtain ⟨go, rfl, hgl, q0, q1⟩ := (HO.out.gr HG.out) i hil
                  have hsz := (HM.out.mkd.good.sz _ (List.getElem_mem hil)).2
                  have HAT : Hid (∃ h : i < L.length, L[i]'h = L[i]) := ⟨⟨hil, rfl⟩⟩
                  have HNO : Hid (¬ (f ≤ L[i].1 ∧ L[i].1 + L[i].2 ≤ t) → ∀ L', ¬ PkIn u rs (f : Nat) (t : Nat) L') := ⟨fun hn L' h => hn (by
                    have h1 := h.1
                    rw [HF.out.n] at h1
                    have e := h1.unique HM.out
                    subst e
                    have := h.2 _ (List.getElem_mem hil)
                    omega)⟩
                  have HIX : Hid (f ≤ L[i].1 ∧ L[i].1 + L[i].2 ≤ t → ∀ j (hj : j < L.length), j < i + 1 → f ≤ L[j].1 ∧ L[j].1 + L[j].2 ≤ t) := ⟨fun h j hj hji => by
                    rcases Nat.lt_or_ge j i with h' | h'
                    · exact HIN.out j hj h'
                    · obtain rfl : j = i := by omega
                      exact h⟩
                  obtain ⟨a, ha⟩ : ∃ a, a = L[i].1 := ⟨_, rfl⟩
                  obtain ⟨s, hs⟩ : ∃ s, s = L[i].2 := ⟨_, rfl⟩
                  rw [← ha] at q0 hsz HNO HIX
                  rw [← hs] at q1 hsz HNO HIX
                  have hltI : (i : Int) < (N : Int) := by omega
                  have hws : IntKind.i64.wrap ((a : Int) + (s : Int)) = (a : Int) + (s : Int) := IntWalk.i64_in _ (by omega)
                  have HLT := hid hlt
                  clear hil ha hs hlt
                  go_upto_region 9 with (fail)
                  by_cases b1 : a < f
                  · have f1 : decide ((a : Int) < (f : Int)) = true := decide_eq_true (by omega)
                    have f2 : decide (a < f) = true := decide_eq_true b1
                    obtain ⟨Sx, hSx⟩ : ∃ Sx : World → Prop, Sx = fun W' => W'.cell? ⟨go, i * 2, none⟩ = some (.int .i64 a) ∧ W'.cell? ⟨go, i * 2 + 1, none⟩ = some (.int .i64 s) := ⟨_, rfl⟩
                    have x1 : ∀ p : Held Sx, p.w.cell? ⟨go, i * 2, none⟩ = some (.int .i64 a) := fun p => by have h := Held.get hSx p; exact h.1
                    have x2 : ∀ p : Held Sx, p.w.cell? ⟨go, i * 2 + 1, none⟩ = some (.int .i64 s) := fun p => by have h := Held.get hSx p; exact h.2
                    have HS : Hid (∀ W', W'.cell? ⟨go, i * 2, none⟩ = some (.int .i64 a) ∧ W'.cell? ⟨go, i * 2 + 1, none⟩ = some (.int .i64 s) → Sx W') := ⟨fun W' h => by rw [hSx]; exact h⟩
                    have hS0 := HS.out (wr.drew) (⟨q0, q1⟩)
                    have inst : Inhabited (Held Sx) := ⟨⟨_, hS0⟩⟩
                    clear hSx
                    refine wp_region_mixS Sx 22 [] [0, 1, 2, 3, 4, 5, 6, 7, 8, 9, 10, 11, 12, 13, 14, 15, 16, 17, 18, 19, 20, 21] (by kernel_rfl) (by kernel_rfl) hS0 ?_
                    refine segs_end ?_
                    try simp only [opsAt, List.getElem?_cons_zero, List.getElem?_cons_succ]
                    repeat (go_big_quiet_step (fail))
                    refine wpQuiet_nil ?_
                    refine NoPanic.normal ?_
                    clear x1 x2 hS0 inst
                    clear HS Sx
                    have HB1 := hid b1
                    clear b1 f1 f2
                    go_wp2
                    go_ret2
                    exact ⟨(HG2.out.trans HG.out).drew, .inr (.inl ⟨HE.out, HNO.out (fun h => by have := HB1.out; omega), ret2 rfl rfl⟩)⟩
                  · have f1 : decide ((a : Int) < (f : Int)) = false := decide_eq_false (by omega)
                    have f2 : decide (a < f) = false := decide_eq_false b1
                    by_cases b2 : t < a + s
                    · have f3 : decide ((t : Int) < (a : Int) + (s : Int)) = true := decide_eq_true (by omega)
                      have f4 : decide (t < a + s) = true := decide_eq_true b2
                      obtain ⟨Sx, hSx⟩ : ∃ Sx : World → Prop, Sx = fun W' => W'.cell? ⟨go, i * 2, none⟩ = some (.int .i64 a) ∧ W'.cell? ⟨go, i * 2 + 1, none⟩ = some (.int .i64 s) := ⟨_, rfl⟩
                      have x1 : ∀ p : Held Sx, p.w.cell? ⟨go, i * 2, none⟩ = some (.int .i64 a) := fun p => by have h := Held.get hSx p; exact h.1
                      have x2 : ∀ p : Held Sx, p.w.cell? ⟨go, i * 2 + 1, none⟩ = some (.int .i64 s) := fun p => by have h := Held.get hSx p; exact h.2
                      have HS : Hid (∀ W', W'.cell? ⟨go, i * 2, none⟩ = some (.int .i64 a) ∧ W'.cell? ⟨go, i * 2 + 1, none⟩ = some (.int .i64 s) → Sx W') := ⟨fun W' h => by rw [hSx]; exact h⟩
                      have hS0 := HS.out (wr.drew) (⟨q0, q1⟩)
                      have inst : Inhabited (Held Sx) := ⟨⟨_, hS0⟩⟩
                      clear hSx
                      refine wp_region_mixS Sx 22 [] [0, 1, 2, 3, 4, 5, 6, 7, 8, 9, 10, 11, 12, 13, 14, 15, 16, 17, 18, 19, 20, 21] (by kernel_rfl) (by kernel_rfl) hS0 ?_
                      refine segs_end ?_
                      try simp only [opsAt, List.getElem?_cons_zero, List.getElem?_cons_succ]
                      repeat (go_big_quiet_step (fail))
                      refine wpQuiet_nil ?_
                      refine NoPanic.normal ?_
                      clear x1 x2 hS0 inst
                      clear HS Sx
                      have HB1 := hid b2
                      clear b1 b2 f1 f2 f3 f4
                      go_wp2
                      go_ret2
                      exact ⟨(HG2.out.trans HG.out).drew, .inr (.inl ⟨HE.out, HNO.out (fun h => by have := HB1.out; omega), ret2 rfl rfl⟩)⟩
                    · have f3 : decide ((t : Int) < (a : Int) + (s : Int)) = false := decide_eq_false (by omega)
                      have f4 : decide (t < a + s) = false := decide_eq_false b2
                      obtain ⟨Sx, hSx⟩ : ∃ Sx : World → Prop, Sx = fun W' => W'.cell? ⟨go, i * 2, none⟩ = some (.int .i64 a) ∧ W'.cell? ⟨go, i * 2 + 1, none⟩ = some (.int .i64 s) := ⟨_, rfl⟩
                      have x1 : ∀ p : Held Sx, p.w.cell? ⟨go, i * 2, none⟩ = some (.int .i64 a) := fun p => by have h := Held.get hSx p; exact h.1
                      have x2 : ∀ p : Held Sx, p.w.cell? ⟨go, i * 2 + 1, none⟩ = some (.int .i64 s) := fun p => by have h := Held.get hSx p; exact h.2
                      have HS : Hid (∀ W', W'.cell? ⟨go, i * 2, none⟩ = some (.int .i64 a) ∧ W'.cell? ⟨go, i * 2 + 1, none⟩ = some (.int .i64 s) → Sx W') := ⟨fun W' h => by rw [hSx]; exact h⟩
                      have hS0 := HS.out (wr.drew) (⟨q0, q1⟩)
                      have inst : Inhabited (Held Sx) := ⟨⟨_, hS0⟩⟩
                      clear hSx
                      refine wp_region_mixS Sx 22 [] [0, 1, 2, 3, 4, 5, 6, 7, 8, 9, 10, 11, 12, 13, 14, 15, 16, 17, 18, 19, 20, 21] (by kernel_rfl) (by kernel_rfl) hS0 ?_
                      refine segs_end ?_
                      try simp only [opsAt, List.getElem?_cons_zero, List.getElem?_cons_succ]
                      repeat (go_big_quiet_step (fail))
                      refine wpQuiet_nil ?_
                      refine NoPanic.normal ?_
                      clear x1 x2 hS0 inst
                      clear HS Sx
                      have HB1 := hid (HIX.out ⟨by omega, by omega⟩)
                      clear b1 b2 f1 f2 f3 f4
                      go_wp2
                      go_round
                      case rel => exact ⟨i + 1, HLT.out, HB1, ⟨HG.out.drew⟩, by go_num⟩
                      case measure => have := HLT.out; simp [intOf]; omega
                · obtain rfl : N = i := by omega
                  have hltI : ¬ (N : Int) < (N : Int) := by omega
                  clear hlt hi
                  go_wp2
                  go_ret2
                  refine ⟨HG2.out.trans HG.out, .inr (.inr ⟨HE.out, L, OA, oc, ⟨by rw [HF.out.n]; exact HM.out, fun o ho => ?_⟩, ?_, HO.out.gr HG.out, HNEW.out⟩)⟩
                  · obtain ⟨j, hj, rfl⟩ := List.getElem_of_mem ho
                    have := HIN.out j hj (by rw [HN.out]; exact hj)
                    omega
                  · rw [← HN.out]; exact ret2 rfl rfl
end
theorem rowP_append (v : Vm) (L : List Ob) (fr : Nat) (P Q : List Ob) : rowP v L fr (P ++ Q) = rowP v L fr P ++ rowP v L fr Q := by
  induction P with
  | nil => rfl
  | cons b r ih => simp only [List.cons_append, rowP, ih, List.append_assoc]
section
variable {w : World} {A0 A : Option Addr} {cp cr M : Nat} {u : Vm} {rs : List Int} {L : List Ob}
set_option maxRecDepth 100000 in
set_option maxHeartbeats 6400000 in
theorem ref26_words (hf : FullN M u) (hW : Wrds w A0 cp M u) (hA : ObjsAt w A L) (hM : Marks u rs M L) (hM2 : M ≤ 1100) (fr : Nat) (hfr : fr ≤ 4096) :
    Calls Tryz.prog 31 #[.slice A0 M cp, .slice A L.length cr, .int .i64 fr] w fun e w' => ∃ (A' : Option Addr) (c : Nat), e = .returned (.slice A' (rowP u L fr L).length c) ∧ Gr w w' ∧ w'.ownsRow w.heap.size 50 1 (.slice A' (rowP u L fr L).length c) (rowP u L fr L).length (us (rowP u L fr L)) := by
  have HW := hid hW
  have HA := hid hA
  have HF := hid hf
  have HM := hid hM
  have hlen := hM.mkd.good.len
  have hsz := sizes_le hM.mkd.good
  have HSM := hid hsz
  obtain ⟨ii, hii, hi0, hi1, hi2⟩ := info_parts infoU64
  obtain ⟨N, hN⟩ : ∃ N, N = L.length := ⟨_, rfl⟩
  have HN := hid hN
  have HAT : Hid (∀ W, Touch (fun i => w.heap.size ≤ i) w W → ObjsAt W A L) := ⟨fun W t i hi => by
    obtain ⟨g, e, h1, h2, h3⟩ := hA i hi
    exact ⟨g, e, Nat.lt_of_lt_of_le h1 t.size, (t.cell h1 (by omega) _).trans h2, (t.cell h1 (by omega) _).trans h3⟩⟩
  have HWT := hid (fun (W : World) (t : Touch (fun i => w.heap.size ≤ i) w W) (a : Int) => ref22_to (c := cr) (HAT.out W t) hM.mkd.good (by omega) fr (by omega) a)
  rw [← hN] at hlen HWT ⊢
  clear hW hA hf hM hN hsz
  go_enter Tryz.func31, Tryz.ntmps31
  go_wp2_with (fail)
  go_loopw [7, 8] (fun s7 s8 wr => ∃ (i K : Nat) (T : List Nat) (vL : Value), i ≤ N ∧ K ≤ M ∧ Hid (wr.ownsRow w.heap.size 50 1 vL K (us T) ∧ K = T.length) ∧ Hid (T = rowP u L fr (L.take i)) ∧ Hid (Touch (fun i => w.heap.size ≤ i) w wr) ∧ s7 = vL ∧ s8 = .int .i64 i) (fun _ s8 _ => N - (intOf s8).toNat)
  case atStart => exact ⟨0, 0, [], _, Nat.zero_le _, Nat.zero_le _, ⟨⟨own_nil _ _ _ _, rfl⟩⟩, ⟨rfl⟩, ⟨Touch.refl _ _⟩, rfl, rfl⟩
  case round =>
    obtain ⟨i, K, T, vL, hi, hKM, HL, HR, HT, rfl, rfl⟩ := hrel
    obtain ⟨TA, tc, rfl, hc1, hc2⟩ := own_shape HL.out.1
    by_cases hlast : i < N
    · have hil : i < L.length := by have := HN.out; omega
      obtain ⟨go, hAe, hgl, q0, q1⟩ := HAT.out wr HT.out i hil
      subst hAe
      have hiI : (i : Int) < (N : Int) := by omega
      obtain ⟨hra, hE, hoz⟩ := HM.out.mkd.ats _ (List.getElem_mem hil)
      obtain ⟨b, p, f, k, hbe, -, hh, hs, hin, hbp, hoz2, hpts⟩ := rch_obj HM.out.sound hra
      obtain ⟨a, ha⟩ : ∃ a, a = L[i].1 := ⟨_, rfl⟩
      obtain ⟨z, hz⟩ : ∃ z, z = L[i].2 := ⟨_, rfl⟩
      have HTK : Hid (L.take (i + 1) = L.take i ++ [(a, z)]) := ⟨by rw [ha, hz]; exact List.take_succ_eq_append_getElem hil⟩
      have hsm := sizes_mid hil
      have hend := (HM.out.mkd.good.sz _ (List.getElem_mem hil)).2
      rw [← hz] at hsm hend q1
      rw [← ha] at hbe hE hh hoz2 hpts hend q0
      rw [← ha, ← hz] at hoz
      have hzz : z = 1 + p + f + k := by omega
      have HWr : Hid (Wrds wr A0 cp M u) := ⟨own_touch HW.out HT.out (fun g hg h => by have := (own_lt HW.out hg).2; omega)⟩
      have HRD := hid (ref15n_read HF.out HWr.out (a : Int))
      rw [hh, hE] at HRD
      unfold hdrV at HRD
      have HHH := hid hh
      have HPT : Hid (∀ m : Nat, 1 ≤ m → m ≤ p → u.ldV ((a + m : Nat) : Int) ≤ 2147483647 ∧ (u.ldV ((a + m : Nat) : Int) ≠ 0 → Hs L (u.ldV ((a + m : Nat) : Int) : Nat))) := ⟨fun m h1 h2 => by
        have := hpts (m - 1) (by omega)
        rw [show (a : Int) + 1 + ((m - 1 : Nat) : Int) = ((a + m : Nat) : Int) by omega] at this
        exact ⟨this.2.1, fun h0 => HM.out.all _ (this.2.2 h0)⟩⟩
      have hKb : K + z ≤ M := by
        have h2 := HSM.out
        have h3 := rowP_len u L fr (L.take i)
        rw [← HR.out] at h3
        have h4 := HL.out.2
        omega
      have hRec := hid (fun W => Rec.new W 90 [.int .i64 p, .int .i64 f, .int .i64 k])
      have HGO : Hid (∀ W, Touch (fun i => w.heap.size ≤ i) w W → go < W.heap.size ∧ W.cell? ⟨go, i * 2, none⟩ = some (.int .i64 (a : Nat)) ∧ W.cell? ⟨go, i * 2 + 1, none⟩ = some (.int .i64 (z : Nat))) := ⟨fun W t => by
        obtain ⟨g', e', h1, h2, h3⟩ := HAT.out W t i hil
        simp only [Option.some.injEq, Addr.mk.injEq] at e'
        obtain ⟨rfl, -, -⟩ := e'
        rw [← ha] at h2
        rw [← hz] at h3
        exact ⟨h1, h2, h3⟩⟩
      have HII := hid hlast
      clear hlast hi hil hra hE hh hoz hoz2 hpts hin hbe ha hz hbp hsm
      go_upto_region 6 with (go_at_call 74; refine (HRD.out).mono ?_; rintro e w1 ⟨rfl, hg1⟩; have HG1 := hid hg1; clear hg1)
      obtain ⟨w2, hw2⟩ : ∃ w2, w2 = w1.alloc (.cells #[.int .i64 p, .int .i64 f, .int .i64 k] 90) := ⟨_, rfl⟩
      have R2 := hRec.out w1
      obtain ⟨hq, hhq⟩ : ∃ hq, hq = w1.heap.size := ⟨_, rfl⟩
      rw [← hhq] at R2 ⊢
      have hg2 : Gr wr w2 := by rw [hw2]; exact HG1.out.alloc _
      simp only [List.toArray] at R2
      rw [← hw2] at R2 ⊢
      have HLL : Hid (w2.ownsRow w.heap.size 50 1 (.slice TA K tc) (K + 0) (us (T ++ (List.range 0).map (pkW u L fr a))) ∧ K = T.length) := ⟨⟨by rw [Nat.add_zero, List.range_zero, List.map_nil, List.append_nil]; exact own_gr HL.out.1 hg2, HL.out.2⟩⟩
      have HT4 := hid (HT.out.trans (hg2.touch (fun i => w.heap.size ≤ i)))
      have HR4 := hid R2
      clear hw2 hhq HG1 R2 hg2 hRec HL HT hc1 hc2 q0 q1 hgl
      go_wp2_with (fail)
      go_loopw [7, 11] (fun s7 s11 wx => ∃ (m : Nat) (vL : Value), m ≤ z ∧ Hid (wx.ownsRow w.heap.size 50 1 vL (K + m) (us (T ++ (List.range m).map (pkW u L fr a))) ∧ K = T.length) ∧ Hid (Rec wx hq 90 [.int .i64 p, .int .i64 f, .int .i64 k]) ∧ Hid (Touch (fun i => w.heap.size ≤ i) w wx) ∧ s7 = vL ∧ s11 = .int .i64 m) (fun _ s11 _ => z - (intOf s11).toNat)
      case atStart => exact ⟨0, _, Nat.zero_le _, HLL, HR4, HT4, rfl, rfl⟩
      case round =>
        clear HLL HR4 HT4
        obtain ⟨m, vL, hm, HL, HR', HT', rfl, rfl⟩ := hrel
        obtain ⟨TA, tc, rfl, hc1, hc2⟩ := own_shape HL.out.1
        unfold maxLen at hc2
        have y0 := HR'.out.cell (j := 0) rfl
        obtain ⟨gl', q0, q1⟩ := HGO.out wr HT'.out
        have HWx : Hid (Wrds wr A0 cp M u) := ⟨own_touch HW.out HT'.out (fun g hg h => by have := (own_lt HW.out hg).2; omega)⟩
        by_cases hm2 : m < z
        · have HQ2 := hid hm2
          have hmI : (m : Int) < (z : Int) := by omega
          have hidx : a + m < M := by omega
          obtain ⟨gw, cw, ew, -, -, -, hgw⟩ := own_form HWx.out (by omega)
          simp only [Value.slice.injEq] at ew
          obtain ⟨rfl, -, rfl⟩ := ew
          have k5 := own_cell HWx.out (wrds_at u hidx)
          have HXL : Hid (u.ldV ((a + m : Nat) : Int) < 18446744073709551616) := ⟨HF.out.ok.ldV_lt _⟩
          have HWD : Hid (pkW u L fr a m = if (1 ≤ m ∧ (m : Int) ≤ (p : Int)) ∧ u.ldV ((a + m : Nat) : Int) ≠ 0 then (toV L fr (u.ldV ((a + m : Nat) : Int) : Nat)).toNat else u.ldV ((a + m : Nat) : Int)) := ⟨by rw [pkW_at u L fr a m rfl, HHH.out]⟩
          have HPM := hid (HPT.out m)
          obtain ⟨x, hx⟩ : ∃ x, x = u.ldV ((a + m : Nat) : Int) := ⟨_, rfl⟩
          rw [← hx] at k5 HXL HWD HPM
          have HSN : Hid (∀ y : Nat, pkW u L fr a m = y → us (T ++ (List.range m).map (pkW u L fr a)) ++ [.int .u64 (y : Nat)] = us (T ++ (List.range (m + 1)).map (pkW u L fr a))) := ⟨fun y hy => by rw [List.range_succ, List.map_append, ← List.append_assoc]; unfold us; rw [List.map_append (l₁ := T ++ _)]; simp [hy]⟩
          have haI : (a : Int) + (m : Int) < (M : Int) := by omega
          have ha0 : (0 : Int) ≤ (a : Int) + (m : Int) := by omega
          have haN : ((a : Int) + (m : Int)).toNat = a + m := by omega
          have hxl := HXL.out
          clear hm2 hm hx
          by_cases hm0 : m = 0
          · rw [if_neg (fun h => by have := h.1.1; omega)] at HWD
            have hm1 : ¬ (0 : Int) < (m : Int) := by omega
            have d1 : decide ((0 : Int) < (m : Int)) = false := decide_eq_false hm1
            have d2 : decide (0 < m) = false := decide_eq_false (by omega)
            have HM0 := hid hm0
            clear hm0
            go_wp2_with (at_builtin; refine wpList_append_lies _ rfl _ _ 35 rfl w.heap.size 50 ii _ 1 8 Tryz.underlying35 hii hi0 hi1 hi2 rfl (by decide) (.slice TA (K + m) tc) (K + m) (us (T ++ (List.range m).map (pkW u L fr a))) rfl (HL.out.1.alloc _) ⟨wr.heap.size, 0, none⟩ 1 1 [.int .u64 (x : Nat)] rfl rfl (World.news_of_block (cs := #[.int .u64 (x : Nat)]) (t := 50) (fr := (0, 0)) (heap_alloc_new wr (.cells #[.int .u64 (x : Nat)] 50))) (by simp [Value.oneCell']) (by have := HQ2.out; omega) (by unfold maxLen; have := HQ2.out; omega) (by have := HQ2.out; omega) (by have := HT'.out.size; rw [World.size_alloc]; omega) (wr.heap.size + 1) (by simp) ?_; intro g4 c4 w4 hown4 hgrow4 hat4 hlt4; have t4 : Touch (fun k' => (Value.slice TA (K + m) tc).ownBlock = some k') wr w4 := (((Gr.refl _).alloc _).touch _).trans (grown_touch hgrow4 _ (fun k e _ => e)); have HT4 := hid t4; have HO4 := hid hown4; clear hown4 hgrow4 hat4 hlt4 t4)
            go_round
            case rel =>
              refine ⟨m + 1, _, by have := HQ2.out; omega, ⟨⟨by rw [← HSN.out x HWD.out]; exact HO4.out, HL.out.2⟩⟩, ⟨HR'.out.touch HT4.out (fun e => own_ne HL.out.1 HR'.out (by decide) e rfl rfl)⟩, ⟨HT'.out.trans (HT4.out.mono (fun i _ h => (own_lt HL.out.1 h).1))⟩, rfl, by go_num⟩
            case measure => have := HQ2.out; simp [intOf]; omega
          · by_cases hmp : m ≤ p
            · have hm1 : (0 : Int) < (m : Int) := by omega
              have hmpI : (m : Int) ≤ (p : Int) := by omega
              have d1 : decide ((0 : Int) < (m : Int)) = true := decide_eq_true hm1
              have d2 : decide (0 < m) = true := decide_eq_true (by omega)
              have d3 : decide ((m : Int) ≤ (p : Int)) = true := decide_eq_true hmpI
              have d4 : decide (m ≤ p) = true := decide_eq_true hmp
              obtain ⟨hx1, hxs⟩ := HPM.out (by omega) hmp
              by_cases hx0 : x = 0
              · subst hx0
                rw [if_neg (fun h => h.2 rfl)] at HWD
                clear hxs hx1 hmp
                go_wp2_with (at_builtin; refine wpList_append_lies _ rfl _ _ 35 rfl w.heap.size 50 ii _ 1 8 Tryz.underlying35 hii hi0 hi1 hi2 rfl (by decide) (.slice TA (K + m) tc) (K + m) (us (T ++ (List.range m).map (pkW u L fr a))) rfl (HL.out.1.alloc _) ⟨wr.heap.size, 0, none⟩ 1 1 [.int .u64 (0 : Nat)] rfl rfl (World.news_of_block (cs := #[.int .u64 (0 : Nat)]) (t := 50) (fr := (0, 0)) (heap_alloc_new wr (.cells #[.int .u64 (0 : Nat)] 50))) (by simp [Value.oneCell']) (by have := HQ2.out; omega) (by unfold maxLen; have := HQ2.out; omega) (by have := HQ2.out; omega) (by have := HT'.out.size; rw [World.size_alloc]; omega) (wr.heap.size + 1) (by simp) ?_; intro g4 c4 w4 hown4 hgrow4 hat4 hlt4; have t4 : Touch (fun k' => (Value.slice TA (K + m) tc).ownBlock = some k') wr w4 := (((Gr.refl _).alloc _).touch _).trans (grown_touch hgrow4 _ (fun k e _ => e)); have HT4 := hid t4; have HO4 := hid hown4; clear hown4 hgrow4 hat4 hlt4 t4)
                go_round
                case rel =>
                  refine ⟨m + 1, _, by have := HQ2.out; omega, ⟨⟨by rw [← HSN.out 0 HWD.out]; exact HO4.out, HL.out.2⟩⟩, ⟨HR'.out.touch HT4.out (fun e => own_ne HL.out.1 HR'.out (by decide) e rfl rfl)⟩, ⟨HT'.out.trans (HT4.out.mono (fun i _ h => (own_lt HL.out.1 h).1))⟩, rfl, by go_num⟩
                case measure => have := HQ2.out; simp [intOf]; omega
              · have d5 : ((x : Int) != 0) = true := by simp; exact hx0
                have hwx : IntKind.i64.wrap (x : Int) = (x : Int) := IntWalk.i64_in _ (by omega)
                have HWN := hid (HWT.out wr HT'.out (x : Int))
                have HYV : Hid (∃ y : Nat, toV L fr (x : Int) = y ∧ y ≤ 5200) := ⟨by
                  obtain ⟨o, ho, he⟩ := hxs hx0
                  obtain ⟨j, hj, rfl⟩ := List.getElem_of_mem ho
                  have h1 := (HM.out.mkd.good.sz _ (List.getElem_mem hj)).1
                  have h2 := (toV_at HM.out.mkd.good (base := fr) hj (a := (x : Int)) (by omega) (by omega)).1
                  have h3 := sizes_mid hj
                  have h4 := HSM.out
                  exact ⟨fr + sizes (L.take j), by rw [h2]; omega, by omega⟩⟩
                obtain ⟨y, hy, hyb⟩ := HYV.out
                obtain ⟨ye, hye⟩ : ∃ ye, ye = toE L (x : Int) := ⟨_, rfl⟩
                unfold Gets at HWN
                rw [hy, ← hye] at HWN
                rw [if_pos ⟨⟨by omega, hmpI⟩, hx0⟩, hy, Int.toNat_natCast] at HWD
                have hwy : IntKind.u64.wrap (y : Int) = (y : Int) := by rw [IntKind.wrap_u64]; omega
                clear hxs hx1 hmp hx0 hy hye HYV
                go_wp2_with (first
                  | (go_at_call 32; refine (HWN.out).mono ?_; rintro e w3 ⟨rfl, hg3⟩; have HG3 := hid hg3; have HL3 := hid (own_gr HL.out.1 hg3); clear hg3)
                  | (at_builtin; refine wpList_append_lies _ rfl _ _ 35 rfl w.heap.size 50 ii _ 1 8 Tryz.underlying35 hii hi0 hi1 hi2 rfl (by decide) (.slice TA (K + m) tc) (K + m) (us (T ++ (List.range m).map (pkW u L fr a))) rfl (HL3.out.alloc _) ⟨w3.heap.size, 0, none⟩ 1 1 [.int .u64 (y : Nat)] rfl rfl (World.news_of_block (cs := #[.int .u64 (y : Nat)]) (t := 50) (fr := (0, 0)) (heap_alloc_new w3 (.cells #[.int .u64 (y : Nat)] 50))) (by simp [Value.oneCell']) (by have := HQ2.out; omega) (by unfold maxLen; have := HQ2.out; omega) (by have := HQ2.out; omega) (by have := HT'.out.size; have := HG3.out.size; rw [World.size_alloc]; omega) (w3.heap.size + 1) (by simp) ?_; intro g4 c4 w4 hown4 hgrow4 hat4 hlt4; have t4 : Touch (fun k' => (Value.slice TA (K + m) tc).ownBlock = some k') w3 w4 := (((Gr.refl _).alloc _).touch _).trans (grown_touch hgrow4 _ (fun k e _ => e)); have HT4 := hid t4; have HO4 := hid hown4; clear hown4 hgrow4 hat4 hlt4 t4))
                go_round
                case rel =>
                  refine ⟨m + 1, _, by have := HQ2.out; omega, ⟨⟨by rw [← HSN.out y HWD.out]; exact HO4.out, HL.out.2⟩⟩, ⟨(HR'.out.gr HG3.out).touch HT4.out (fun e => own_ne HL3.out (HR'.out.gr HG3.out) (by decide) e rfl rfl)⟩, ⟨(HT'.out.trans (HG3.out.touch _)).trans (HT4.out.mono (fun i _ h => (own_lt HL3.out h).1))⟩, rfl, by go_num⟩
                case measure => have := HQ2.out; simp [intOf]; omega
            · rw [if_neg (fun h => by have := h.1.2; omega)] at HWD
              have hm1 : (0 : Int) < (m : Int) := by omega
              have d1 : decide ((0 : Int) < (m : Int)) = true := decide_eq_true hm1
              have d2 : decide (0 < m) = true := decide_eq_true (by omega)
              have d3 : decide ((m : Int) ≤ (p : Int)) = false := decide_eq_false (by omega)
              have d4 : decide (m ≤ p) = false := decide_eq_false hmp
              clear hmp hm0
              go_wp2_with (at_builtin; refine wpList_append_lies _ rfl _ _ 35 rfl w.heap.size 50 ii _ 1 8 Tryz.underlying35 hii hi0 hi1 hi2 rfl (by decide) (.slice TA (K + m) tc) (K + m) (us (T ++ (List.range m).map (pkW u L fr a))) rfl (HL.out.1.alloc _) ⟨wr.heap.size, 0, none⟩ 1 1 [.int .u64 (x : Nat)] rfl rfl (World.news_of_block (cs := #[.int .u64 (x : Nat)]) (t := 50) (fr := (0, 0)) (heap_alloc_new wr (.cells #[.int .u64 (x : Nat)] 50))) (by simp [Value.oneCell']) (by have := HQ2.out; omega) (by unfold maxLen; have := HQ2.out; omega) (by have := HQ2.out; omega) (by have := HT'.out.size; rw [World.size_alloc]; omega) (wr.heap.size + 1) (by simp) ?_; intro g4 c4 w4 hown4 hgrow4 hat4 hlt4; have t4 : Touch (fun k' => (Value.slice TA (K + m) tc).ownBlock = some k') wr w4 := (((Gr.refl _).alloc _).touch _).trans (grown_touch hgrow4 _ (fun k e _ => e)); have HT4 := hid t4; have HO4 := hid hown4; clear hown4 hgrow4 hat4 hlt4 t4)
              go_round
              case rel =>
                refine ⟨m + 1, _, by have := HQ2.out; omega, ⟨⟨by rw [← HSN.out x HWD.out]; exact HO4.out, HL.out.2⟩⟩, ⟨HR'.out.touch HT4.out (fun e => own_ne HL.out.1 HR'.out (by decide) e rfl rfl)⟩, ⟨HT'.out.trans (HT4.out.mono (fun i _ h => (own_lt HL.out.1 h).1))⟩, rfl, by go_num⟩
              case measure => have := HQ2.out; simp [intOf]; omega
        · obtain rfl : m = z := by omega
          have HNX : Hid (T ++ (List.range m).map (pkW u L fr a) = rowP u L fr (L.take (i + 1))) := ⟨by
            rw [HTK.out, rowP_append, ← HR.out]
            simp only [rowP, List.append_nil]⟩
          have hmI : ¬ (m : Int) < (m : Int) := by omega
          clear hm2 hm
          go_wp2
          go_round
          case rel => exact ⟨i + 1, K + m, _, _, HII.out, hKb, ⟨⟨HL.out.1, by rw [List.length_append, List.length_map, List.length_range, ← HL.out.2]⟩⟩, HNX, HT', rfl, by go_num⟩
          case measure => have := HII.out; simp [intOf]; omega
    · obtain rfl : N = i := by omega
      have HF2 : Hid (T = rowP u L fr L) := ⟨by have := HR.out; rwa [HN.out, List.take_length] at this⟩
      clear hlast hi
      go_wp2
      go_ret
      have h1 := HL.out
      rw [HF2.out] at h1
      have h2 := h1.2
      subst h2
      exact ⟨TA, tc, rfl, touch_old HT.out, h1.1⟩
end
end Go.Proofs.YtbmidhlilafgeaaGreatDoor
end
section
namespace Go.Proofs.YtbmidhlilafgeaaGreatDoor
open Go.RowKit Word

section
variable {x : LaidC} {v0 u : Vm}
/-- A header that stands somewhere is one that was laid. -/
theorem head_at {rm : Nat} (hr : Run24 x rm v0) (hz : ∀ a : Nat, v0.ldV a = 0) {b : Nat} (hE : tkE ((layC x v0).ldV b) = 0) : ∃ j, j < x.k ∧ b = x.at j := by
  rcases lay_vals hr.ok hz hr.map b with hv | h
  · exfalso
    have hno : tkOk ((layC x v0).ldV b) = false := by
      rcases hv with hv | ⟨n, n1, n2, hv⟩
      · unfold tkOk
        rw [decide_eq_false (show ¬ (layC x v0).ldV b % 4294967296 / 16777216 = 165 by omega)]
        rfl
      · rw [hv]
        exact wrd_no ⟨n, by omega⟩ n1
    unfold tkE at hE
    rw [hno] at hE
    simp at hE
  · exact h
/-- What a memory with all words there holds of a laid heap's objects. -/
theorem back_ob {rm : Nat} (hr : Run24 x rm v0) (hz : ∀ a : Nat, v0.ldV a = 0) (hu : FullN x.n u) (huv : ∀ a : Nat, a < x.n → u.ldV a = (layC x v0).ldV a) {a : Int} (hrd : u.rdE a = 0) :
    (layC x v0).rdE a = 0 ∧ (layC x v0).rdH a = u.rdH a ∧ ∀ i : Nat, (i : Int) < (u.rdH a).p → (layC x v0).ptE a i = 0 ∧ (layC x v0).ptV a i = u.ptV a i ∧ u.ptE a i = 0 := by
  have hLI := laid_in (x := x) hr.ok hr.map
  obtain ⟨h0, hl, -⟩ := rdE_zero hrd
  obtain ⟨h1, h2⟩ := ldE_in hl
  rw [hu.n] at h2
  obtain ⟨b, rfl⟩ : ∃ b : Nat, a = b := ⟨a.toNat, by omega⟩
  have hE : tkE (u.ldV b) = 0 := by
    unfold Vm.rdE at hrd
    rw [if_neg (by omega), if_neg (by omega), if_pos hl] at hrd
    exact hrd
  rw [huv b (by omega)] at hE
  obtain ⟨j, hj, hb⟩ := head_at hr hz hE
  subst hb
  obtain ⟨p, f, c, e, r1, r2, r3⟩ := hLI.ob hr.map hj
  have hn := at_next (x := x) hj e
  have ht := x.top_le
  have hl2 := (rdE_zero r1).2.1
  have hH : u.rdH ((x.at j : Nat) : Int) = ⟨p, f, c⟩ := by
    rw [← r2]
    unfold Vm.rdH
    rw [if_pos ⟨h0, hl⟩, if_pos ⟨h0, hl2⟩, huv _ (by omega)]
  refine ⟨r1, r2.trans hH.symm, fun i hi => ?_⟩
  rw [hH] at hi
  have hi' : (i : Int) < (p : Int) := hi
  obtain ⟨q1, q2⟩ := hLI.ptr hr.map hj (i := i) (by rw [r2]; exact hi)
  have q3 := ptV_of q1
  have hpp := x.page_pos
  have e1 : ((x.at j : Nat) : Int) + 1 + (i : Int) = ((x.at j + 1 + i : Nat) : Int) := by omega
  have hin : x.at j + 1 + i < x.n := by unfold LaidC.n; omega
  rw [e1] at q3
  have q4 := ptE_of (v := u) (a := ((x.at j : Nat) : Int)) (i := i) hrd (by rw [hH]; exact hi) (by rw [e1]; exact hu.al _ hin) (by rw [e1, huv _ hin]; exact q3.2.1)
  have q5 := ptV_of q4.1
  rw [e1] at q5
  exact ⟨q1, by rw [q3.1, q5.1, huv _ hin], q4.1⟩
theorem back_marks {rm : Nat} (hr : Run24 x rm v0) (hz : ∀ a : Nat, v0.ldV a = 0) (hu : FullN x.n u) (huv : ∀ a : Nat, a < x.n → u.ldV a = (layC x v0).ldV a) {rs : List Int} {L : List Ob} (hM : Marks u rs x.n L) : Marks (layC x v0) rs x.n L := by
  have hS := hM.sound
  have hrch : ∀ a, Rch u rs a → Rch (layC x v0) rs a := fun a ha => by
    refine (ha (fun b => Rch u rs b ∧ Rch (layC x v0) rs b) (fun r hr h0 => ⟨Rch.root hr h0, Rch.root hr h0⟩) ?_).2
    rintro b c ⟨hb, hb'⟩ hp
    refine ⟨hb.step hp, ?_⟩
    obtain ⟨hrd, i, hi, h0, h1, rfl⟩ := hp
    obtain ⟨e1, e2, e3⟩ := back_ob hr hz hu huv hrd
    obtain ⟨e4, e5, -⟩ := e3 i hi
    rw [← e5]
    exact hb'.step ⟨e1, i, by rw [e2]; exact hi, e4, by rw [e5]; exact h1, rfl⟩
  refine Marks.of ⟨hM.mkd.good, fun o ho => ?_⟩ (fun r hr h0 => hM.all _ (Rch.root hr h0)) (fun o ho i hi => ?_)
  · obtain ⟨h1, h2, h3⟩ := hM.mkd.ats o ho
    obtain ⟨e1, e2, -⟩ := back_ob hr hz hu huv h2
    exact ⟨hrch _ h1, e1, by rw [h3]; unfold Vm.osz; rw [e2]⟩
  · obtain ⟨-, h2, -⟩ := hM.mkd.ats o ho
    obtain ⟨e1, e2, e3⟩ := back_ob hr hz hu huv h2
    rw [e2] at hi
    obtain ⟨e4, e5, -⟩ := e3 i hi
    refine ⟨e4, fun h0 => ?_⟩
    rw [e5] at h0 ⊢
    exact (hM.cl o ho i hi).2 h0
theorem pkIn_iff {rm : Nat} (hr : Run24 x rm v0) (hz : ∀ a : Nat, v0.ldV a = 0) (hu : FullN x.n u) (huv : ∀ a : Nat, a < x.n → u.ldV a = (layC x v0).ldV a) {rs : List Int} {f t : Int} {L : List Ob} : PkIn u rs f t L ↔ PkIn (layC x v0) rs f t L := by
  have hs := hr.stays (Stays.layC hr.ok x)
  have hw : Wider (layC x v0) u := ghost_wider hu hs.n huv
  unfold PkIn
  rw [hu.n, hs.n]
  exact ⟨fun h => ⟨back_marks hr hz hu huv h.1, h.2⟩, fun h => ⟨hw.marks h.1, h.2⟩⟩
end
/-- The error. -/
def errE (a : Bool) : Int := if a then 25 else 5
theorem chk26_err {w w' : World} {M : Nat} {u : Vm} {rs : List Int} {fr tp room : Int} {e : Ending} (h : Chk26 w M u rs fr tp room e w') (hb : pkArg M fr tp room = true → ∀ L, ¬ PkIn u rs fr tp L) : e = .returned (.tuple #[.slice none 0 0, .int .i64 (errE (pkArg M fr tp room))]) ∧ Gr w w' := by
  obtain ⟨hg, ⟨ha, rfl⟩ | ⟨ha, -, rfl⟩ | ⟨ha, L, A, c, hI, -⟩⟩ := h
  · rw [ha]; exact ⟨rfl, hg⟩
  · rw [ha]; exact ⟨rfl, hg⟩
  · exact absurd hI (hb ha L)
theorem chk26_ok {w w' : World} {M : Nat} {u : Vm} {rs : List Int} {fr tp room : Int} {e : Ending} {L : List Ob} (h : Chk26 w M u rs fr tp room e w') (ha : pkArg M fr tp room = true) (hI : PkIn u rs fr tp L) : ∃ A c, e = .returned (.tuple #[.slice A L.length c, .int .i64 0]) ∧ Gr w w' ∧ ObjsAt w' A L ∧ ∀ a, A = some a → w.heap.size ≤ a.block := by
  obtain ⟨hg, ⟨ha', -⟩ | ⟨-, hn, -⟩ | ⟨-, L', A, c, hI', rfl, hO, hN⟩⟩ := h
  · rw [ha] at ha'; cases ha'
  · exact absurd hI (hn L)
  · have := hI'.1.unique hI.1
    subst this
    exact ⟨A, c, rfl, hg, hO, hN⟩
theorem run26_err {W w' : World} {S : Nat → Prop} {q r g : Nat} {v : Vm} {rs : List Int} {fr tp room : Int} {e : Ending} (h : PkEnd W S q r g v rs fr tp room e w') (hb : pkArg v.n fr tp room = true → ∀ L, ¬ PkIn v rs fr tp L) :
    e = .returned (.tuple #[.int .i64 0, .int .i64 (errE (pkArg v.n fr tp room))]) ∧ Touch (fun b => b = g ∨ S b) W w' ∧ VmAt w' S q v ∧ RtAt w' r g rs := by
  obtain ⟨ht, ⟨ha, rfl, hv, hr⟩ | ⟨ha, (⟨-, rfl, hv, hr⟩ | ⟨L, f, t, hI, rfl, rfl, -⟩)⟩⟩ := h
  · rw [ha]; exact ⟨rfl, ht, hv, hr⟩
  · rw [ha]; exact ⟨rfl, ht, hv, hr⟩
  · exact absurd hI (hb ha L)
theorem run26_in {W w' : World} {S : Nat → Prop} {q r g : Nat} {v : Vm} {rs : List Int} {f t : Nat} {room : Int} {e : Ending} {L : List Ob} (h : PkEnd W S q r g v rs f t room e w') (ha : pkArg v.n f t room = true) (hI : PkIn v rs f t L) (hE : needE v f ((f + sizes L : Nat) : Int) = 0) :
    e = .returned (.tuple #[.int .i64 ((f + sizes L : Nat) : Int), .int .i64 0]) ∧ Touch (fun b => b = g ∨ S b) W w' ∧ ∃ v1 v2 j, PkDone v rs f t L v1 v2 j ∧ VmAt w' (plus S W) q (pkUm v v2 f (f + sizes L) j) ∧ RtAt w' r g (rs.map (toV L f)) := by
  obtain ⟨ht, ⟨ha', -⟩ | ⟨-, (⟨hn, -⟩ | ⟨L', f', t', hI', e1, e2, hc⟩)⟩⟩ := h
  · rw [ha] at ha'; cases ha'
  · exact absurd hI (hn L)
  · obtain rfl : f = f' := by omega
    obtain rfl : t = t' := by omega
    have := hI'.1.unique hI.1
    subst this
    rcases hc with ⟨h0, -⟩ | ⟨-, rfl, v1, v2, j, hD, hv, hrt⟩
    · exact absurd hE h0
    · exact ⟨rfl, ht, v1, v2, j, hD, hv, hrt⟩
/-- Which pages are mapped behind it. -/
def mapB (q pg tp f nt : Nat) : Bool := (decide (1 ≤ q) && decide (q * pg < tp)) || (decide (f < nt) && decide (q * pg < nt) && decide (f < q * pg + pg))
def goneB (q pg f t nt : Nat) : Bool := decide (f / pg ≤ q) && decide (q * pg < t) && decide (nt ≤ q * pg)
theorem pk_mapped {x : LaidC} {rm : Nat} {v v1 v2 : Vm} {rs : List Int} {f t j : Nat} {L : List Ob} (hr : Run24 x rm v) (d : PkDone v rs f t L v1 v2 j) (hE : needE v f ((f + sizes L : Nat) : Int) = 0) (hn : f + sizes L ≤ x.n) {q : Nat} (hq : q < x.n / x.page) :
    (frE (pkUm v v2 f (f + sizes L) j).pt (q : Nat) == 0) = (mapB q x.page x.top f (f + sizes L) && !(goneB q x.page f t (f + sizes L))) := by
  have hp := x.page_pos
  have hqn : q * x.page < x.n := by
    have h1 := Nat.mul_le_mul_right x.page (show q + 1 ≤ x.n / x.page by omega)
    have h2 := Nat.div_mul_le_self x.n x.page
    rw [Nat.add_mul] at h1
    omega
  have hb := d.base
  have hl := d.ldE hr.ok hE (by rw [hr.n]; exact hn) (a := q * x.page) (by rw [hr.n]; exact hqn)
  have e1 : (pkUm v v2 f (f + sizes L) j).ldE ((q * x.page : Nat) : Int) = frE (pkUm v v2 f (f + sizes L) j).pt (q : Nat) := by
    unfold Vm.ldE
    rw [if_pos ⟨by omega, by rw [hb.1, hr.n]; omega⟩, hb.2.1, hr.pg]
    congr 1
    rw [← Int.natCast_ediv, Nat.mul_div_cancel _ (by omega)]
  rw [e1, hr.pg, Nat.mul_div_cancel _ (by omega)] at hl
  have h0 := hr.le (q * x.page) hqn
  have hv0 : v.ldE ((q * x.page : Nat) : Int) = 0 ↔ 1 ≤ q ∧ q * x.page < x.top := by
    rw [h0]
    have h1 : q * x.page < upN x.top x.page ↔ q * x.page < x.top := by
      have : upN x.top x.page = pgUp x.top x.page * x.page := rfl
      rw [this]
      constructor
      · intro h
        have h2 : q < pgUp x.top x.page := Nat.lt_of_mul_lt_mul_right h
        rcases Nat.lt_or_ge (q * x.page) x.top with h3 | h3
        · exact h3
        · have := (pgUp_le (pg := x.page) hp.1).1 h3
          omega
      · intro h
        rcases Nat.lt_or_ge q (pgUp x.top x.page) with h3 | h3
        · exact Nat.mul_lt_mul_of_pos_right h3 (by omega)
        · have := (pgUp_le (pg := x.page) hp.1).2 h3
          omega
    have h2 : x.page ≤ q * x.page ↔ 1 ≤ q := by
      constructor
      · intro h
        rcases Nat.eq_zero_or_pos q with h3 | h3
        · rw [h3, Nat.zero_mul] at h; omega
        · exact h3
      · exact fun h => Nat.le_mul_of_pos_left _ h
    constructor
    · intro h
      split at h
      · rename_i hc; exact ⟨h2.1 hc.1, h1.1 hc.2⟩
      · cases h
    · rintro ⟨h3, h4⟩
      rw [if_pos ⟨h2.2 h3, h1.2 h4⟩]
  have hB : (0 < sizes L ∧ f / x.page ≤ q ∧ q ≤ (f + sizes L - 1) / x.page) ↔ (f < f + sizes L ∧ q * x.page < f + sizes L) ∧ f < q * x.page + x.page := by
    have h1 : f / x.page ≤ q ↔ f < q * x.page + x.page := by
      rw [← Nat.succ_mul, ← Nat.div_lt_iff_lt_mul (by omega)]
      omega
    rw [h1, Nat.le_div_iff_mul_le (by omega)]
    omega
  have hG : (pgUp (f + sizes L) x.page ≤ q ∧ q < f / x.page + j) ↔ (f / x.page ≤ q ∧ q * x.page < t) ∧ f + sizes L ≤ q * x.page := by
    rw [← pgUp_le hp.1]
    have h5 := d.q1
    have h6 := d.q2
    rw [hr.pg] at h5 h6
    constructor
    · rintro ⟨h1, h2⟩
      have h3 : f / x.page ≤ q := by
        rcases Nat.lt_or_ge q (f / x.page) with h | h
        · exfalso
          have h7 := Nat.mul_le_mul_right x.page (show q + 1 ≤ f / x.page by omega)
          have h8 := Nat.div_mul_le_self f x.page
          rw [Nat.add_mul] at h7
          omega
        · exact h
      exact ⟨⟨h3, (pg_end h5 h6 q h3).1 h2⟩, h1⟩
    · rintro ⟨⟨h3, h4⟩, h1⟩
      exact ⟨h1, (pg_end h5 h6 q h3).2 h4⟩
  rw [hv0, hB, hG] at hl
  unfold mapB goneB
  by_cases hx : frE (pkUm v v2 f (f + sizes L) j).pt (q : Nat) = 0
  · rw [hx]
    obtain ⟨h1, h2⟩ := hl.1 hx
    have e2 : (decide (1 ≤ q) && decide (q * x.page < x.top) || decide (f < f + sizes L) && decide (q * x.page < f + sizes L) && decide (f < q * x.page + x.page)) = true := by
      simp only [Bool.or_eq_true, Bool.and_eq_true, decide_eq_true_eq]
      exact h1
    have e3 : (decide (f / x.page ≤ q) && decide (q * x.page < t) && decide (f + sizes L ≤ q * x.page)) = false := by
      cases hc : (decide (f / x.page ≤ q) && decide (q * x.page < t) && decide (f + sizes L ≤ q * x.page)) with
      | false => rfl
      | true =>
        simp only [Bool.and_eq_true, decide_eq_true_eq] at hc
        exact absurd hc h2
    rw [e2, e3]
    rfl
  · have e4 : (frE (pkUm v v2 f (f + sizes L) j).pt (q : Nat) == 0) = false := by simpa using hx
    rw [e4]
    symm
    rw [Bool.and_eq_false_iff]
    by_cases h1 : (1 ≤ q ∧ q * x.page < x.top) ∨ (f < f + sizes L ∧ q * x.page < f + sizes L) ∧ f < q * x.page + x.page
    · right
      have h2 : (f / x.page ≤ q ∧ q * x.page < t) ∧ f + sizes L ≤ q * x.page := Decidable.not_not.1 fun h => hx (hl.2 ⟨h1, h⟩)
      have : (decide (f / x.page ≤ q) && decide (q * x.page < t) && decide (f + sizes L ≤ q * x.page)) = true := by
        simp only [Bool.and_eq_true, decide_eq_true_eq]
        exact h2
      rw [this]; rfl
    · left
      cases hc : (decide (1 ≤ q) && decide (q * x.page < x.top) || decide (f < f + sizes L) && decide (q * x.page < f + sizes L) && decide (f < q * x.page + x.page)) with
      | false => rfl
      | true =>
        simp only [Bool.or_eq_true, Bool.and_eq_true, decide_eq_true_eq] at hc
        exact absurd hc h1
/-- Behind the choice of roots and run. -/
structure P26 (w wx : World) (x : LaidC) (v0 u : Vm) (hp q r g : Nat) (A : Option Addr) (c : Nat) (SV : Nat → Prop) (rs : List Int) : Prop where
  gr : Gr w wx
  hb : Rec wx hp 37 (heapL x q r (.slice A x.n c))
  wd : Wrds wx A c x.n u
  vm : VmAt wx SV q (layC x v0)
  rt : RtAt wx r g rs
  ln : rs.length = x.rs.length
end Go.Proofs.YtbmidhlilafgeaaGreatDoor
end
section
namespace Go.Proofs.YtbmidhlilafgeaaGreatDoor
open Go.RowKit Word

/-- A memory that holds the packed words. -/
structure Packed (u a : Vm) (rs : List Int) (L : List Ob) (f n : Nat) : Prop where
  mks : Marks u rs n L
  un : u.n = n
  ok : VmOk u
  f1 : 1 ≤ f
  top : f + sizes L ≤ n
  n2 : n ≤ 524288
  ge : ∀ o ∈ L, f ≤ o.1
  ld : ∀ i, i < sizes L → a.ldE ((f + i : Nat) : Int) = 0
  wd : ∀ i, i < sizes L → a.ldV ((f + i : Nat) : Int) = (rowP u L f L).getD i 0
section
variable {u a : Vm} {rs : List Int} {L : List Ob} {f n : Nat}
end
end Go.Proofs.YtbmidhlilafgeaaGreatDoor
end
section
namespace Go.Proofs.YtbmidhlilafgeaaGreatDoor
open Go.RowKit Word

/-- What a run leaves is packed. -/
theorem pk_packed {v v1 v2 u : Vm} {rs : List Int} {L : List Ob} {f t j : Nat} (d : PkDone v rs f t L v1 v2 j) (h : VmOk v) (hE : needE v f ((f + sizes L : Nat) : Int) = 0) (hn : f + sizes L ≤ v.n) (hM : Marks v rs v.n L) (hu : FullN v.n u) (huv : ∀ a : Nat, a < v.n → u.ldV a = v.ldV a) :
    Packed u (pkUm v v2 f (f + sizes L) j) rs L f v.n := by
  have hp := h.page
  have hw := ghost_wider hu rfl huv
  have hw1 := d.gr.wider h
  refine ⟨hw.marks hM, hu.n, hu.ok, d.cx.fr1, hn, h.n2, fun o ho => (d.cx.inn o ho).1, fun i hi => ?_, fun i hi => ?_⟩
  · refine (d.ldE h hE hn (by omega)).2 ⟨.inr ⟨by omega, Nat.div_le_div_right (by omega), Nat.div_le_div_right (by omega)⟩, fun hx => ?_⟩
    have h1 := (pgUp_le (nt := f + sizes L) (pg := v.pl.pg) hp.1).2 hx.1
    have := Nat.div_mul_le_self (f + i) v.pl.pg
    omega
  · rw [d.word h hn hi, rowP_wider hw hM huv (Nat.le_refl _) L f L (fun _ h => h), rowP_wider hw1 hM (fun a ha => d.gr.ldV_all h ha) (Nat.le_refl _) L f L (fun _ h => h)]
section
variable {u a : Vm} {rs : List Int} {L : List Ob} {f n : Nat}
end
end Go.Proofs.YtbmidhlilafgeaaGreatDoor
end
section
namespace Go.Proofs.YtbmidhlilafgeaaGreatDoor
open Go.RowKit Word

section
variable {w : World}
set_option maxRecDepth 100000 in
set_option maxHeartbeats 12800000 in
theorem plays26_walkA (hT : TabAt w) {A1 A2 A3 : Option Addr} {c1 c2 c3 : Nat} {x : LaidC} (hL : LaidCAt w A1 A2 A3 x) (fr tp root : Int) (hr0 : 0 ≤ root) :
    Gets Tryz.prog 8 #[.agg (laidV x A1 A2 A3 c1 c2 c3).toArray, .agg #[.int .i64 fr, .int .i64 tp], .int .i64 root] w (.bool true) := by
  have HT := hid hT
  have HGB := hid (((Gr.refl w).alloc (.cells (laidV x A1 A2 A3 c1 c2 c3).toArray 25)).alloc (.cells #[.int .i64 fr, .int .i64 tp] 57))
  have hrb := (Rec.new w 25 (laidV x A1 A2 A3 c1 c2 c3)).gr ((Gr.refl _).alloc (.cells #[.int .i64 fr, .int .i64 tp] 57))
  have hrun := new2 w (.cells (laidV x A1 A2 A3 c1 c2 c3).toArray 25) 57 [.int .i64 fr, .int .i64 tp]
  obtain ⟨W1, hW1⟩ : ∃ W1, W1 = (w.alloc (.cells (laidV x A1 A2 A3 c1 c2 c3).toArray 25)).alloc (.cells #[.int .i64 fr, .int .i64 tp] 57) := ⟨_, rfl⟩
  rw [← hW1] at hrb HGB
  rw [show (w.alloc (.cells (laidV x A1 A2 A3 c1 c2 c3).toArray 25)).alloc (.cells ([.int .i64 fr, .int .i64 tp] : List Value).toArray 57) = W1 from hW1.symm] at hrun
  have HLY := hid (lay24_walk (c1 := c1) (c2 := c2) (c3 := c3) (hL.gr HGB.out) (more := 0) (by omega))
  have HFAR := hid (fun W => far24 (.int .u8 x.pg) (.int .u8 x.bk) (.int .u8 x.st) (.int .u8 x.ah) A1 A2 A3 x.H.length x.P.length x.R.length c1 c2 c3 W)
  unfold laidV at hW1 hrb HLY ⊢
  have HRB := hid hrb
  have HRUNB := hid hrun
  have z0 := hrb.cell (j := 0) rfl
  have z1 := hrb.cell (j := 1) rfl
  have z2 := hrb.cell (j := 2) rfl
  have z3 := hrb.cell (j := 3) rfl
  have z4 := hrb.cell (j := 4) rfl
  have z5 := hrb.cell (j := 5) rfl
  have z6 := hrb.cell (j := 6) rfl
  have zl := hrb.lt
  obtain ⟨fb, hfb⟩ : ∃ b, b = farC x.H.length x.P.length x.R.length := ⟨_, rfl⟩
  rw [← hfb] at HFAR
  clear hT hL hrb hfb hrun
  obtain ⟨N1, hN1⟩ : ∃ N, N = x.H.length := ⟨_, rfl⟩
  obtain ⟨N2, hN2⟩ : ∃ N, N = x.P.length := ⟨_, rfl⟩
  obtain ⟨N3, hN3⟩ : ∃ N, N = x.R.length := ⟨_, rfl⟩
  rw [← hN1, ← hN2, ← hN3] at HLY HFAR HRB
  rw [← hN1, ← hN2, ← hN3]
  rw [← hN1] at z1 hW1
  rw [← hN2] at z2 hW1
  rw [← hN3] at z3 hW1
  clear hN1 hN2 hN3
  unfold Gets
  go_enter Tryz.func8, Tryz.ntmps8
  go_upto_region 1 with (fail)
  rw [show (w.alloc (.cells #[.int .u8 x.pg, .slice A1 N1 c1, .slice A2 N2 c2, .slice A3 N3 c3, .int .u8 x.bk, .int .u8 x.st, .int .u8 x.ah] 25)).alloc (.cells #[.int .i64 fr, .int .i64 tp] 57) = W1 from hW1.symm]
  clear hW1
  go_upto_region 2 with (go_at_call 13; refine HLY.out.mono ?_; rintro e w1 ⟨hp, q, r, g, A, c, v0, SV, rfl, hg1, hrn, hz0, hvm, hrt, hrec, hwr, hsv, hs1, hs2, hs3, hs4, hs5⟩; have HG := hid (HGB.out.trans hg1); have HV := hid hvm; have HRN := hid hrn; have HRT := hid hrt; have HRC := hid hrec; have HWR := hid hwr; have HZ0 := hid hz0; have HSV := hid (And.intro hsv (And.intro hs1 (And.intro hs2 (And.intro hs3 (And.intro hs4 hs5))))); have HB1 := hid (HRB.out.gr hg1); have HRB1 := hid (HRUNB.out.gr hg1); clear hg1 hrn hz0 hvm hrt hrec hwr hsv hs1 hs2 hs3 hs4 hs5)
  clear z0 z1 z2 z3 z4 z5 z6 zl
  have z0 := HB1.out.cell (j := 0) rfl
  have z1 := HB1.out.cell (j := 1) rfl
  have z2 := HB1.out.cell (j := 2) rfl
  have z3 := HB1.out.cell (j := 3) rfl
  have z4 := HB1.out.cell (j := 4) rfl
  have z5 := HB1.out.cell (j := 5) rfl
  have z6 := HB1.out.cell (j := 6) rfl
  have zl := HB1.out.lt
  cases fb with
  | true =>
    go_wp2_with (first
      | (go_at_call 14; refine (HFAR.out _).mono ?_; rintro e w2 ⟨rfl, hg2⟩; have HG := hid (HG.out.trans hg2); have HB1 := hid (HB1.out.gr hg2); have z0 := HB1.out.cell (j := 0) rfl; have z1 := HB1.out.cell (j := 1) rfl; have z2 := HB1.out.cell (j := 2) rfl; have z3 := HB1.out.cell (j := 3) rfl; have z4 := HB1.out.cell (j := 4) rfl; have z5 := HB1.out.cell (j := 5) rfl; have z6 := HB1.out.cell (j := 6) rfl; have zl := HB1.out.lt; clear hg2)
      | (go_at_call 27; refine (lives26 (HG.out.tab HT.out.lt HT.out)).mono ?_; rintro e w4 ⟨rfl, hg4⟩; have HG := hid (HG.out.trans hg4); clear hg4))
    go_ret
    exact ⟨rfl, HG.out⟩
  | false =>
    go_upto_region 4 with (go_at_call 14; refine (HFAR.out _).mono ?_; rintro e w2 ⟨rfl, hg2⟩; have HG := hid (HG.out.trans hg2); have HG12 := hid hg2; have HRB2 := hid (HRB1.out.gr hg2); clear hg2)
    clear z0 z1 z2 z3 z4 z5 z6 zl
    have hst := Stays.layC HRN.out.ok x
    have hs := HRN.out.stays hst
    have hLI := laid_in (x := x) HRN.out.ok HRN.out.map
    obtain ⟨L, hM⟩ := hLI.ex HRN.out.map
    obtain ⟨u, hu, huv⟩ := ghost (n := x.n) (f := fun a => (layC x v0).ldV a) (by have := x.page_pos; unfold LaidC.n; omega) (by have := x.page_pos; unfold LaidC.n; omega) (fun a => hs.ok.ldV_lt _)
    have hwu : Wider (layC x v0) u := ghost_wider hu hs.n huv
    have HMU := hid (hwu.marks hM)
    have HM := hid hM
    have HU := hid hu
    have HUV := hid huv
    have hmk := hLI.marks HRN.out.map hM
    have HSZ : Hid (sizes L ≤ 512) := ⟨hmk.2.1⟩
    have hn11 : x.n ≤ 1100 := by have := x.page_pos; unfold LaidC.n; omega
    have HWR2 : Hid (Wrds w2 A c x.n u) := ⟨by have := HWR.out.gr HG12.out; unfold Wrds at this ⊢; rwa [wrds_congr huv]⟩
    have HC2 := hid (HRC.out.gr HG12.out)
    unfold heapL at HC2
    have HV2 := hid (HV.out.gr HG12.out)
    have HR2 := hid (HRT.out.gr HG12.out)
    have HZA : Hid (∀ a : Nat, v0.ldV a = 0) := ⟨fun a => by
      rcases Nat.lt_or_ge a x.n with h | h
      · exact HZ0.out a h
      · unfold Vm.ldV
        rw [if_neg]
        unfold Vm.ldE
        rw [if_neg (by rw [HRN.out.n]; omega)]
        decide⟩
    have HP2 : Hid (P26 w w2 x v0 u hp q r g A c SV x.rs) := ⟨⟨HG.out, HRC.out.gr HG12.out, HWR2.out, HV2.out, HR2.out, rfl⟩⟩
    have HFZ : Hid (∀ W W', P26 w W x v0 u hp q r g A c SV x.rs → ∀ rs', rs'.length = x.rs.length → Touch (fun k => k = g) W W' → RtAt W' r g rs' → P26 w W' x v0 u hp q r g A c SV rs') := ⟨fun W W' h rs' hl t hr' => by
      refine ⟨((h.gr.touch _).trans t |>.mono (T := fun _ => False) (fun i hi h' => ?_)).gr, h.hb.touch t (fun h' => ?_), own_touch h.wd t (fun b hb h' => ?_), h.vm.touch t (fun b hb _ h' => ?_), hr', hl⟩
      · have h1 : i = g := h'
        have := HSV.out.2.2.2.2.1.2.2
        have := HGB.out.size
        omega
      · exact own_ne HRT.out.row HRC.out (by decide) rfl rfl h'.symm
      · exact words_ne HWR2.out HR2.out hb h'
      · exact HSV.out.2.2.2.1 (h' ▸ hb)⟩
    have hst1 : x.rs.length ≠ 0 := fun e => HRT.out.ne (List.eq_nil_of_length_eq_zero e)
    clear hst hs hLI hM hu huv hwu hmk
    have d0 : decide (0 ≤ root) = true := decide_eq_true hr0
    have d1 : decide (root < 0) = false := decide_eq_false (by omega)
    have HR0 := hid hr0
    have HST1 := hid hst1
    have y1 := HC2.out.cell (j := 1) rfl
    have HRNE : Hid (w.heap.size + 1 ≠ g) := ⟨by
      have := HSV.out.2.2.2.2.1.2.2
      have h2 := HRUNB.out.lt
      omega⟩
    clear hst1
    go_upto_region 6 with (go_at_call 29; refine (rt_set HR2.out (i := 0) (Nat.pos_of_ne_zero HST1.out) HR0.out).mono ?_; rintro e w3 ⟨rfl, ht3, hr3⟩; have HT3 := hid ht3; have HR3 := hid hr3; clear ht3 hr3)
    have HPc := hid (HFZ.out _ _ HP2.out _ List.length_set HT3.out HR3.out)
    have HRBc := hid (HRB2.out.touch HT3.out HRNE.out)
    have q0 := HRBc.out.cell (j := 0) rfl
    have q1 := HRBc.out.cell (j := 1) rfl
    clear y1
    obtain ⟨Sx, hSx⟩ : ∃ Sx : World → Prop, Sx = fun W' => W'.cell? ⟨w.heap.size + 1, 0, none⟩ = some (.int .i64 fr) ∧ W'.cell? ⟨w.heap.size + 1, 1, none⟩ = some (.int .i64 tp) := ⟨_, rfl⟩
    have x1 : ∀ p : Held Sx, p.w.cell? ⟨w.heap.size + 1, 0, none⟩ = some (.int .i64 fr) := fun p => by have h := Held.get hSx p; exact h.1
    have x2 : ∀ p : Held Sx, p.w.cell? ⟨w.heap.size + 1, 1, none⟩ = some (.int .i64 tp) := fun p => by have h := Held.get hSx p; exact h.2
    have HS : Hid (∀ W', W'.cell? ⟨w.heap.size + 1, 0, none⟩ = some (.int .i64 fr) ∧ W'.cell? ⟨w.heap.size + 1, 1, none⟩ = some (.int .i64 tp) → Sx W') := ⟨fun W' h => by rw [hSx]; exact h⟩
    have hS0 := HS.out (w3.drew) (⟨q0, q1⟩)
    have inst : Inhabited (Held Sx) := ⟨⟨_, hS0⟩⟩
    clear hSx
    refine wp_region_mixS Sx 6 [] [0, 1, 2, 3, 4, 5] (by kernel_rfl) (by kernel_rfl) hS0 ?_
    refine segs_end ?_
    try simp only [opsAt, List.getElem?_cons_zero, List.getElem?_cons_succ]
    repeat (go_big_quiet_step (fail))
    refine wpQuiet_nil ?_
    refine NoPanic.normal ?_
    clear x1 x2 hS0 inst
    clear HS Sx
    clear q0 q1 HRBc HRNE HST1 HR0
    go_upto_region 9 with (fail)
    obtain ⟨w3', hw3⟩ : ∃ w3', w3' = w3.drew := ⟨_, rfl⟩
    have HP : Hid (P26 w w3' x v0 u hp q r g A c SV (x.rs.set 0 root)) := ⟨by rw [hw3]; exact ⟨HPc.out.gr.drew, HPc.out.hb.gr (Gr.refl _).drew, HPc.out.wd.gr (Gr.refl _).drew, HPc.out.vm.gr (Gr.refl _).drew, HPc.out.rt.gr (Gr.refl _).drew, HPc.out.ln⟩⟩
    have HZ23 : Hid (w2.heap.size ≤ w3'.heap.size) := ⟨by rw [hw3]; exact HT3.out.size⟩
    rw [← hw3]
    clear hw3 HPc HT3 HR3 hr0 d0 d1
    obtain ⟨rs, hrs⟩ : ∃ rs, rs = x.rs.set 0 root := ⟨_, rfl⟩
    rw [← hrs] at HP
    obtain ⟨F, hF⟩ : ∃ F, F = fr := ⟨_, rfl⟩
    obtain ⟨T, hT⟩ : ∃ T, T = tp := ⟨_, rfl⟩
    rw [← hF, ← hT]
    clear hrs hF hT HFZ HP2
    have hb3 := HP.out.hb
    unfold heapL at hb3
    have HC3 := hid hb3
    have HALL := hid (fun (W : World) (g' : Gr w3' W) => rt_all (HP.out.rt.gr g'))
    have HUS := hid (fun (W : World) (g' : Gr w3' W) => vm_used (HP.out.vm.gr g'))
    obtain ⟨us, hus⟩ : ∃ us, us = (layC x v0).pl.used := ⟨_, rfl⟩
    have HUE := hid hus
    rw [← hus] at HUS
    have hrl3 : rs.length ≤ 64 := HP.out.rt.le
    have HLR3 := hid hrl3
    clear hb3 hus
    obtain ⟨Sx, hSx⟩ : ∃ Sx : World → Prop, Sx = fun W' => Gr w3' W' := ⟨_, rfl⟩
    have x0 : ∀ p : Held Sx, p.w.cell? ⟨hp, 0, none⟩ = some (.pointer (some ⟨q, 0, none⟩)) := fun p => by have h := Held.get hSx p; exact (HC3.out.gr h).cell (j := 0) rfl
    have x1 : ∀ p : Held Sx, p.w.cell? ⟨hp, 1, none⟩ = some (.pointer (some ⟨r, 0, none⟩)) := fun p => by have h := Held.get hSx p; exact (HC3.out.gr h).cell (j := 1) rfl
    have HS : Hid (∀ W', Gr w3' W' → Sx W') := ⟨fun W' h => by rw [hSx]; exact h⟩
    have hS0 := HS.out _ ((Gr.refl w3').drew)
    have inst : Inhabited (Held Sx) := ⟨⟨_, hS0⟩⟩
    clear hSx
    refine wp_region_mixS Sx 12 [([0, 1, 2, 3, 5, 6, 7, 8], 4), ([], 9)] [10, 11] (by kernel_rfl) (by kernel_rfl) hS0 ?_
    refine segs_step ?_
    try simp only [opsAt, List.getElem?_cons_zero, List.getElem?_cons_succ]
    repeat (go_big_quiet_step (fail))
    refine wpQuiet_nil ?_
    go_wp2_with ((go_at_call 16; refine (HALL.out _ (Gr.refl w3').drew).mono ?_; rintro e w4 ⟨gA, cA, rfl, hg4, hgl4, ho4⟩; have HG4 := hid ((Gr.refl w3').drew.trans hg4); have HWS := hid ho4; have HGA : Hid (w3'.heap.size ≤ gA) := ⟨hgl4⟩; clear hg4 hgl4 ho4))
    refine ⟨.inr (Held.of (HS.out _ (HG4.out))), ?_⟩
    refine segs_step ?_
    try simp only [opsAt, List.getElem?_cons_zero, List.getElem?_cons_succ]
    repeat (go_big_quiet_step (fail))
    refine wpQuiet_nil ?_
    go_wp2_with ((go_at_call 20; refine (HUS.out _ HG4.out).mono ?_; rintro e w5 ⟨rfl, rfl⟩))
    refine ⟨.inr (Held.of (HS.out _ (HG4.out))), ?_⟩
    refine segs_end ?_
    try simp only [opsAt, List.getElem?_cons_zero, List.getElem?_cons_succ]
    repeat (go_big_quiet_step (fail))
    refine wpQuiet_nil ?_
    refine NoPanic.normal ?_
    clear x0 x1 hS0 inst
    clear HS Sx
    go_upto_region 10 with (fail)
    have HT46 : Hid (∀ W W', Gr w4 W → Touch (fun b => b = g ∨ SV b) W W' → Rec W' hp 37 (heapL x q r (.slice A x.n c)) ∧ Wrds W' A c x.n u ∧ W'.ownsRow 0 3 1 (.slice (some ⟨gA, 0, none⟩) rs.length cA) rs.length (zs rs) ∧ Gr w W') := ⟨fun W W' hW t => by
      have hz2 := HG12.out.size
      have hzg := HGB.out.size
      have hz3 : w2.heap.size ≤ w3'.heap.size := HZ23.out
      refine ⟨((HP.out.hb.gr HG4.out).gr hW).touch t (fun h => ?_), own_touch ((HP.out.wd.gr HG4.out).gr hW) t (fun b hb h => ?_), own_touch (own_gr HWS.out hW) t (fun b hb h => ?_), ?_⟩
      · rcases h with h | h
        · exact own_ne HRT.out.row HRC.out (by decide) rfl rfl h.symm
        · exact HSV.out.2.1 h
      · rcases h with h | h
        · exact words_ne HWR2.out HR2.out hb h
        · exact (HSV.out.2.2.2.2.2 b hb).2 h
      · have h1 : b = gA := (Option.some.inj hb).symm
        have h2 := HGA.out
        have h3 : w3'.drew.heap.size = w3'.heap.size := rfl
        rcases h with h | h
        · have := HRT.out.lt.2; omega
        · have := (HSV.out.1 b h).2; omega
      · have t1 : Touch (fun b => b = g ∨ SV b) w W' := ((HP.out.gr.trans (HG4.out.trans hW)).touch _).trans t
        refine (t1.mono (T := fun _ => False) (fun i hi h => ?_)).gr
        rcases h with h | h
        · have := HSV.out.2.2.2.2.1.2.2; omega
        · have := (HSV.out.1 i h).1; omega⟩
    have hs := HRN.out.stays (Stays.layC HRN.out.ok x)
    have HCHK := hid (fun (W : World) (hW : Gr w4 W) => ref26_check (cr := cA) HU.out ((HP.out.wd.gr HG4.out).gr hW) (own_ints (own_gr HWS.out hW) rfl) HLR3.out hn11 F T (x.cf.st : Nat))
    have HRUN := hid (fun (W : World) (hW : Gr w4 W) => pk24_run HRN.out ((HP.out.vm.gr HG4.out).gr hW) ((HP.out.rt.gr HG4.out).gr hW) HT.out ((HP.out.gr.trans HG4.out).trans hW) (fun i hi => by have := (HSV.out.1 i hi).1; have := HGB.out.size; omega) HSV.out.2.2.1 HSV.out.2.2.2.1 F T (x.cf.st : Nat))
    have HC4 := hid (HC3.out.gr HG4.out)
    obtain ⟨R, hR⟩ : ∃ R, R = rs.length := ⟨_, rfl⟩
    have HRE := hid hR
    have hR64 : R ≤ 64 := by rw [hR]; exact HLR3.out
    have hws := HWS.out
    rw [← hR] at HCHK hws HT46
    rw [← hR]
    have HWS2 := hid hws
    clear hR hws
    by_cases hok : pkArg x.n F T (x.cf.st : Nat) = true ∧ ∃ L, PkIn u rs F T L
    · as_aux_lemma =>
      obtain ⟨hag, K, hIu⟩ := hok
      have hIv := (pkIn_iff HRN.out HZA.out HU.out HUV.out).1 hIu
      obtain ⟨g1, g2, g3, g4, g5⟩ := pkArg_true.1 hag
      obtain ⟨f, hf⟩ : ∃ f : Nat, F = f := ⟨F.toNat, by omega⟩
      obtain ⟨t, ht⟩ : ∃ t : Nat, T = t := ⟨T.toNat, by omega⟩
      subst hf
      subst ht
      obtain ⟨hnd, hft⟩ := need26 HRN.out (by omega) HZA.out (by omega) (by omega) (by omega) hIv
      have hagv : pkArg (layC x v0).n f t (x.cf.st : Nat) = true := by rw [hs.n]; exact hag
      have HCK := hid (fun (W : World) (hW : Gr w4 W) => (HCHK.out W hW).mono (fun e w' h => chk26_ok h hag hIu))
      have HRN1 := hid (fun (W : World) (hW : Gr w4 W) => (HRUN.out W hW).mono (fun e w' h => run26_in h hagv hIv hnd))
      have HMK : Hid (Marks u rs x.n K) := ⟨by have := hIu.1; rwa [HU.out.n] at this⟩
      have HND := hid (And.intro hnd hIv)
      obtain ⟨nt, hnt⟩ : ∃ nt, nt = f + sizes K := ⟨_, rfl⟩
      have HNT := hid hnt
      obtain ⟨N, hN⟩ : ∃ N, N = K.length := ⟨_, rfl⟩
      have HNL := hid hN
      have hKl : N ≤ x.n := by rw [hN]; exact HMK.out.mkd.good.len
      rw [← hnt] at HRN1 hft
      rw [← hN] at HCK
      have HF1 : Hid (1 ≤ f ∧ f ≤ t ∧ t ≤ x.n) := ⟨by omega⟩
      have hft2 : f ≤ nt := by omega
      clear hIu hIv hagv hag hnd hnt hN HCHK HRUN hs g1 g2 g3 g4 g5
      obtain ⟨Sx, hSx⟩ : ∃ Sx : World → Prop, Sx = fun W' => Gr w4 W' := ⟨_, rfl⟩
      have x7 : ∀ p : Held Sx, p.w.cell? ⟨hp, 7, none⟩ = some (.int .i64 x.cf.st) := fun p => by have h := Held.get hSx p; exact (HC4.out.gr h).cell (j := 7) rfl
      have x9 : ∀ p : Held Sx, p.w.cell? ⟨hp, 9, none⟩ = some (.slice A x.n c) := fun p => by have h := Held.get hSx p; exact (HC4.out.gr h).cell (j := 9) rfl
      have HS : Hid (∀ W', Gr w4 W' → Sx W') := ⟨fun W' h => by rw [hSx]; exact h⟩
      have hS0 := HS.out _ ((Gr.refl w4).drew)
      have inst : Inhabited (Held Sx) := ⟨⟨_, hS0⟩⟩
      clear hSx
      refine wp_region_mixS Sx 18 [([0, 1, 2, 3, 4, 5, 6, 7, 8, 9, 10, 11], 12)] [13, 14, 15, 16, 17] (by kernel_rfl) (by kernel_rfl) hS0 ?_
      refine segs_step ?_
      try simp only [opsAt, List.getElem?_cons_zero, List.getElem?_cons_succ]
      repeat (go_big_quiet_step (fail))
      refine wpQuiet_nil ?_
      go_wp2_with ((go_at_call 30; refine (HCK.out _ (Gr.refl w4).drew).mono ?_; rintro e w5 ⟨OA, oc, rfl, hg5, ho5, hn5⟩; have HG5 := hid ((Gr.refl w4).drew.trans hg5); have HO5 := hid ho5; have HNW := hid hn5; clear hg5 ho5 hn5))
      refine ⟨.inr (Held.of (HS.out _ (HG5.out))), ?_⟩
      refine segs_end ?_
      try simp only [opsAt, List.getElem?_cons_zero, List.getElem?_cons_succ]
      repeat (go_big_quiet_step (fail))
      refine wpQuiet_nil ?_
      refine NoPanic.normal ?_
      clear x7 x9 hS0 inst
      clear HS Sx
      have HC5 := hid (HC4.out.gr HG5.out)
      go_upto_region 11 with (fail)
      obtain ⟨Sx, hSx⟩ : ∃ Sx : World → Prop, Sx = fun W' => Rec W' hp 37 [.pointer (some ⟨q, 0, none⟩), .pointer (some ⟨r, 0, none⟩), .int .i64 x.cf.fr, .int .i64 x.cf.tp, .int .i64 x.cf.to, .int .i64 x.cf.lm, .int .i64 x.cf.bk, .int .i64 x.cf.st, .int .i64 x.cf.ah, .slice A x.n c, .int .i64 (x.page : Nat)] := ⟨_, rfl⟩
      have x0 : ∀ p : Held Sx, p.w.cell? ⟨hp, 0, none⟩ = some (.pointer (some ⟨q, 0, none⟩)) := fun p => by have h := Held.get hSx p; exact h.cell (j := 0) rfl
      have x1 : ∀ p : Held Sx, p.w.cell? ⟨hp, 1, none⟩ = some (.pointer (some ⟨r, 0, none⟩)) := fun p => by have h := Held.get hSx p; exact h.cell (j := 1) rfl
      have x7 : ∀ p : Held Sx, p.w.cell? ⟨hp, 7, none⟩ = some (.int .i64 x.cf.st) := fun p => by have h := Held.get hSx p; exact h.cell (j := 7) rfl
      have HS : Hid (∀ W', Rec W' hp 37 [.pointer (some ⟨q, 0, none⟩), .pointer (some ⟨r, 0, none⟩), .int .i64 x.cf.fr, .int .i64 x.cf.tp, .int .i64 x.cf.to, .int .i64 x.cf.lm, .int .i64 x.cf.bk, .int .i64 x.cf.st, .int .i64 x.cf.ah, .slice A x.n c, .int .i64 (x.page : Nat)] → Sx W') := ⟨fun W' h => by rw [hSx]; exact h⟩
      have hS0 := HS.out _ (HC5.out.gr (Gr.refl w5).drew)
      have inst : Inhabited (Held Sx) := ⟨⟨_, hS0⟩⟩
      clear hSx
      refine wp_region_mixS Sx 21 [([0, 1, 2, 3, 4, 5, 6, 7, 8, 9, 10, 11, 12, 13, 14], 15)] [16, 17, 18, 19, 20] (by kernel_rfl) (by kernel_rfl) hS0 ?_
      refine segs_step ?_
      try simp only [opsAt, List.getElem?_cons_zero, List.getElem?_cons_succ]
      repeat (go_big_quiet_step (fail))
      refine wpQuiet_nil ?_
      go_wp2_with ((go_at_call 28; refine (HRN1.out _ HG5.out.drew).mono ?_; rintro e w6 ⟨rfl, ht6, v1, v2, j, hD, hv6, hr6⟩; have HP6 := hid (HT46.out _ _ HG5.out.drew ht6); have HT6 := hid ht6; have HV6 := hid hv6; have HR6 := hid hr6; have HD6 := hid hD; clear ht6 hv6 hr6 hD))
      refine ⟨.inr (Held.of (HS.out _ (HP6.out.1))), ?_⟩
      refine segs_end ?_
      try simp only [opsAt, List.getElem?_cons_zero, List.getElem?_cons_succ]
      repeat (go_big_quiet_step (fail))
      refine wpQuiet_nil ?_
      refine NoPanic.normal ?_
      clear x0 x1 x7 hS0 inst
      clear HS Sx
      have HC6 := hid HP6.out.1
      unfold heapL at HC6
      have hs := HRN.out.stays (Stays.layC HRN.out.ok x)
      have hftv : f + sizes K ≤ (layC x v0).n := by rw [hs.n, ← HNT.out]; have := HF1.out; omega
      have hpk := pk_packed HD6.out hs.ok HND.out.1 hftv HND.out.2.1 (by rw [hs.n]; exact HU.out) (fun a ha => HUV.out a (by rw [← hs.n]; exact ha))
      rw [hs.n] at hpk
      have hmp : ∀ qq, qq < x.n / x.page → (frE (pkUm (layC x v0) v2 f (f + sizes K) j).pt (qq : Nat) == 0) = (mapB qq x.page x.top f nt && !(goneB qq x.page f t nt)) := fun qq hqq => by
        rw [HNT.out]
        exact pk_mapped hs HD6.out HND.out.1 (by rw [hs.n] at hftv; exact hftv) hqq
      have hbase := HD6.out.base
      obtain ⟨vA, hvA⟩ : ∃ vA, vA = pkUm (layC x v0) v2 f (f + sizes K) j := ⟨_, rfl⟩
      rw [← hvA] at hpk hmp hbase
      have hv6 := HV6.out
      rw [HNT.out, ← hvA] at hv6
      have HVA := hid hv6
      have HNA : Hid (vA.n = x.n) := ⟨hbase.1.trans hs.n⟩
      have HPK := hid hpk
      have HMP := hid hmp
      have HO6 : Hid (ObjsAt w6 OA K) := ⟨(HO5.out.gr (Gr.refl w5).drew).touch HT6.out (fun a ha h => by
        have h1 := HNW.out a ha
        have h2 := HGA.out
        have h3 : w3'.drew.heap.size = w3'.heap.size := rfl
        have h4 : w4.drew.heap.size = w4.heap.size := rfl
        have h5 := HG4.out.size
        have h6 := HZ23.out
        have h7 := HG12.out.size
        rcases h with h | h
        · have := HRT.out.lt.2; omega
        · have := (HSV.out.1 _ h).2; omega)⟩
      clear hs hftv hpk hmp hbase hvA hv6 HV6 HT46
      have HLD : Hid (∀ W, Gr w6 W → Calls Tryz.prog 19 #[.pointer (some ⟨q, 0, none⟩)] W fun e w' => ∃ (B : Option Addr) (cB : Nat), e = .returned (.slice B x.n cB) ∧ Gr W w' ∧ Wrds w' B cB x.n vA) := ⟨fun W hg => by
        have h := loaded25 (HVA.out.gr hg) (by rw [HNA.out]; exact hn11)
        rw [HNA.out] at h
        refine h.mono ?_
        rintro e w' ⟨B, cB, rfl, hg', ho⟩
        exact ⟨B, cB, rfl, hg', own_zero ho⟩⟩
      have HWDS := hid (fun (W : World) (hW : Gr w6 W) => ref26_words (cr := oc) HU.out (HP6.out.2.1.gr hW) (HO6.out.gr hW) HMK.out hn11 f (by have := HF1.out; omega))
      obtain ⟨RW, hRW⟩ : ∃ RW, RW = rowP u K f K := ⟨_, rfl⟩
      have hrl : RW.length = sizes K := by rw [hRW, rowP_len]
      have hwd := HPK.out.wd
      rw [← hRW] at HWDS hwd
      obtain ⟨sz, hsz⟩ : ∃ sz, sz = RW.length := ⟨_, rfl⟩
      rw [← hsz] at HWDS
      have HWV : Hid (∀ i, i < sz → vA.ldV ((f + i : Nat) : Int) = RW.getD i 0) := ⟨fun i hi => hwd i (by omega)⟩
      have HSZ := hid hsz
      have hnts : nt = f + sz := by rw [HNT.out]; omega
      rw [← HNL.out] at HWDS
      have y0 := HC6.out.cell (j := 0) rfl
      have d9 : ((nt : Int) != (f : Int) + (sz : Int)) = false := by rw [hnts]; simp
      have d8 : ¬ ((nt : Int) ≠ (f : Int) + (sz : Int)) := by omega
      have HNTS := hid hnts
      have hntx : nt ≤ x.n := by have := HF1.out; omega
      clear hRW hrl hwd hsz hnts
      go_upto_region 23 with (go_at_call 19; refine (HLD.out _ (Gr.refl w6)).mono ?_; rintro e w7 ⟨B, cB, rfl, hg7, ho7⟩; have HG7 := hid hg7; have HB7 := hid ho7; have HC7 := hid (HC6.out.gr hg7); clear hg7 ho7)
      clear y0
      have y9 := HC7.out.cell (j := 9) rfl
      go_upto_region 26 with (go_at_call 31; refine (HWDS.out _ HG7.out).mono ?_; rintro e w8 ⟨WA, wc, rfl, hg8, ho8⟩; have HG8 := hid (HG7.out.trans hg8); have HW8 := hid ho8; have HB8 := hid (HB7.out.gr hg8); clear hg8 ho8)
      clear y9
      go_wp2_with (fail)
      go_loopw [171] (fun s171 wx => ∃ i : Nat, i ≤ sz ∧ wx = w8 ∧ s171 = .int .i64 i) (fun s171 _ => sz - (intOf s171).toNat)
      case atStart => exact ⟨0, Nat.zero_le _, rfl, rfl⟩
      case round =>
        obtain ⟨i, hi, hww, rfl⟩ := hrel
        have hww := hww.symm
        subst hww
        by_cases hlt : i < sz
        · have hfi : f + i < x.n := by have := HNTS.out; omega
          obtain ⟨gB, cB', eB, -, -, -, hgB⟩ := own_form HB8.out (by omega)
          simp only [Value.slice.injEq] at eB
          obtain ⟨rfl, -, rfl⟩ := eB
          obtain ⟨gw, cw, ew, -, -, -, hgw⟩ := own_form HW8.out (by omega)
          simp only [Value.slice.injEq] at ew
          obtain ⟨rfl, -, rfl⟩ := ew
          have hiR : i < RW.length := by rw [← HSZ.out]; exact hlt
          have k1 := own_cell HB8.out (wrds_at vA hfi)
          have k2 := own_cell HW8.out (us_at hiR)
          have he : vA.ldV ((f + i : Nat) : Int) = RW[i] := by rw [HWV.out i hlt, List.getD_eq_getElem?_getD, List.getElem?_eq_getElem hiR]; rfl
          rw [he] at k1
          obtain ⟨y, hy⟩ : ∃ y, y = RW[i] := ⟨_, rfl⟩
          rw [← hy] at k1 k2
          have hiI : (i : Int) < (sz : Int) := by omega
          have haI : (f : Int) + (i : Int) < (x.n : Int) := by omega
          have ha0 : (0 : Int) ≤ (f : Int) + (i : Int) := by omega
          have haN : ((f : Int) + (i : Int)).toNat = f + i := by omega
          have HLT := hid hlt
          clear hy he hiR hlt hgB hgw
          go_wp2
          go_round
          case rel => exact ⟨i + 1, HLT.out, trivial, by go_num⟩
          case measure => have := HLT.out; simp [intOf]; omega
        · have hiI : ¬ (i : Int) < (sz : Int) := by omega
          have HC8 := hid (HC6.out.gr HG8.out)
          have y1 := HC8.out.cell (j := 1) rfl
          have hal := rt_all (HR6.out.gr HG8.out)
          obtain ⟨out, hout⟩ : ∃ out, out = rs.map (toV K f) := ⟨_, rfl⟩
          rw [← hout] at hal
          have HOUT := hid hout
          have hol : out.length = R := by rw [hout, List.length_map, ← HRE.out]
          rw [hol] at hal
          have HAL := hid hal
          clear hlt hout hal d8 d9
          go_upto_region 33 with (go_at_call 16; refine (HAL.out).mono ?_; rintro e w9 ⟨g9, c9, rfl, hg9, -, ho9⟩; have HG9 := hid (HG8.out.trans hg9); have HO9 := hid ho9; clear hg9 ho9)
          clear y1
          have HTO := hid (fun (W : World) (hW : Gr w6 W) (a : Int) => ref22_to (c := oc) (HO6.out.gr hW) HMK.out.mkd.good (by omega) f (by have := HF1.out; omega) a)
          rw [← HNL.out] at HTO
          unfold Gets at HTO
          go_loopw [191] (fun s191 wx => ∃ i : Nat, i ≤ R ∧ Hid (Gr w9 wx) ∧ s191 = .int .i64 i) (fun s191 _ => R - (intOf s191).toNat)
          case atStart => exact ⟨0, Nat.zero_le _, ⟨Gr.refl _⟩, rfl⟩
          case round =>
            obtain ⟨i, hi, HGx, rfl⟩ := hrel
            by_cases hlt : i < R
            · have hil : i < rs.length := by have := HRE.out; omega
              have hol2 : i < out.length := by omega
              have k1 := own_cell (own_gr HO9.out HGx.out) (zs_at hol2)
              have k2 := own_cell (own_gr HP6.out.2.2.1 (HG9.out.trans HGx.out)) (zs_at hil)
              have he : out[i] = toV K f rs[i] := by
                have e : out[i]? = some (toV K f rs[i]) := by rw [HOUT.out, List.getElem?_map, List.getElem?_eq_getElem hil]; rfl
                exact Option.some.inj ((List.getElem?_eq_getElem hol2).symm.trans e)
              have HTX := hid (HTO.out _ (HG9.out.trans HGx.out) rs[i])
              rw [← he] at HTX
              obtain ⟨a, ha⟩ : ∃ a, a = rs[i] := ⟨_, rfl⟩
              obtain ⟨b, hb⟩ : ∃ b, b = out[i] := ⟨_, rfl⟩
              rw [← ha] at k2 HTX
              rw [← hb] at k1 HTX
              obtain ⟨te, hte⟩ : ∃ te, te = toE K a := ⟨_, rfl⟩
              rw [← hte] at HTX
              have hiI : (i : Int) < (R : Int) := by omega
              have HLT := hid hlt
              clear ha hb he hil hol2 hlt hte
              go_wp2_with (go_at_call 32; refine (HTX.out).mono ?_; rintro e w10 ⟨rfl, hg10⟩; have HG10 := hid hg10; clear hg10)
              go_round
              case rel => exact ⟨i + 1, HLT.out, ⟨HGx.out.trans HG10.out⟩, by go_num⟩
              case measure => have := HLT.out; simp [intOf]; omega
            · have hiI : ¬ (i : Int) < (R : Int) := by omega
              clear hlt
              have HC9 := hid (HC6.out.gr (HG9.out.trans HGx.out))
              have HWRD := hid (fun (W : World) (hW : Gr w6 W) => vm_words (HVA.out.gr hW))
              rw [HNA.out] at HWRD
              have HGX := hid (HG9.out.trans HGx.out)
              have hpgp := x.page_pos
              have hnp1 : x.n / x.page ≤ 1100 := by have := Nat.div_le_self x.n x.page; omega
              obtain ⟨np, hnp⟩ : ∃ np, np = x.n / x.page := ⟨_, rfl⟩
              have HNP := hid hnp
              have e1 : ((x.n : Int).tdiv (x.page : Int)) = (np : Int) := by rw [hnp]; rfl
              have e2 : ((x.n : Int) / (x.page : Int)) = (np : Int) := by rw [hnp]; rfl
              have hpg0 : (x.page : Int) ≠ 0 := by omega
              rw [← hnp] at hnp1
              clear hnp
              go_upto_region 39 with (fail)
              obtain ⟨Sx, hSx⟩ : ∃ Sx : World → Prop, Sx = fun W' => Gr wr W' := ⟨_, rfl⟩
              have x0 : ∀ p : Held Sx, p.w.cell? ⟨hp, 0, none⟩ = some (.pointer (some ⟨q, 0, none⟩)) := fun p => by have h := Held.get hSx p; exact (HC9.out.gr h).cell (j := 0) rfl
              have x10 : ∀ p : Held Sx, p.w.cell? ⟨hp, 10, none⟩ = some (.int .i64 (x.page : Nat)) := fun p => by have h := Held.get hSx p; exact (HC9.out.gr h).cell (j := 10) rfl
              have HS : Hid (∀ W', Gr wr W' → Sx W') := ⟨fun W' h => by rw [hSx]; exact h⟩
              have hS0 := HS.out _ ((Gr.refl wr).drew)
              have inst : Inhabited (Held Sx) := ⟨⟨_, hS0⟩⟩
              clear hSx
              refine wp_region_mixS Sx 11 [([0, 1, 2, 3, 5, 6, 7, 8, 10], 4)] [9] (by kernel_rfl) (by kernel_rfl) hS0 ?_
              refine segs_step ?_
              try simp only [opsAt, List.getElem?_cons_zero, List.getElem?_cons_succ]
              repeat (go_big_quiet_step (fail))
              refine wpQuiet_nil ?_
              go_wp2_with ((go_at_call 33; refine (HWRD.out _ HGX.out.drew).mono ?_; rintro e w10 ⟨rfl, rfl⟩))
              refine ⟨.inr (Held.of (HS.out _ ((Gr.refl wr).drew))), ?_⟩
              refine segs_end ?_
              try simp only [opsAt, List.getElem?_cons_zero, List.getElem?_cons_succ]
              repeat (go_big_quiet_step (fail))
              refine wpQuiet_nil ?_
              refine NoPanic.normal ?_
              clear x0 x10 hS0 inst
              clear HS Sx
              clear e1 e2
              obtain ⟨pg, hpg⟩ : ∃ pg, pg = x.page := ⟨_, rfl⟩
              obtain ⟨tp', htp⟩ : ∃ tp', tp' = x.top := ⟨_, rfl⟩
              have hfr := HF1.out
              have hb9 := HC9.out.gr (Gr.refl wr).drew
              have hb9 : Rec wr.drew hp 37 [.pointer (some ⟨q, 0, none⟩), .pointer (some ⟨r, 0, none⟩), .int .i64 x.cf.fr, .int .i64 tp', .int .i64 x.cf.to, .int .i64 x.cf.lm, .int .i64 x.cf.bk, .int .i64 x.cf.st, .int .i64 x.cf.ah, .slice A x.n c, .int .i64 pg] := by rw [htp, hpg]; exact hb9
              have HH9 := hid hb9
              have hmp := HMP.out
              rw [← HNP.out, ← hpg, ← htp] at hmp
              have HMP2 := hid hmp
              have htpb : tp' ≤ 544 := by rw [htp]; have := x.top_le; omega
              rw [← hpg] at hpgp hpg0
              obtain ⟨fq, hfq⟩ : ∃ fq, fq = f / pg := ⟨_, rfl⟩
              have HFQ := hid hfq
              have e3 : ((f : Int).tdiv (pg : Int)) = (fq : Int) := by rw [hfq]; rfl
              have e4 : ((f : Int) / (pg : Int)) = (fq : Int) := by rw [hfq]; rfl
              have hfqb : fq ≤ 1100 := by rw [hfq]; have := Nat.div_le_self f pg; omega
              have HG9d := hid (HGX.out.drew)
              have hnpn : np * pg ≤ 1100 := by rw [HNP.out, hpg]; have := Nat.div_mul_le_self x.n x.page; omega
              clear hb9 hmp hfq hpg htp
              go_wp2_with (fail)
              obtain ⟨w11, hw11⟩ : ∃ w11, w11 = wr.drew := ⟨_, rfl⟩
              rw [← hw11] at HH9 HG9d
              rw [← hw11]
              clear hw11 HC9 HGX HGx
              go_loopw [220] (fun s220 wx => ∃ i : Nat, i ≤ np ∧ Hid (Gr w11 wx) ∧ s220 = .int .i64 i) (fun s220 _ => np - (intOf s220).toNat)
              case atStart => exact ⟨0, Nat.zero_le _, ⟨Gr.refl _⟩, rfl⟩
              case round =>
                obtain ⟨i, hi, HGx, rfl⟩ := hrel
                by_cases hlt : i < np
                · have HM0 := hid (HMP2.out i hlt)
                  obtain ⟨pp, hpp⟩ : ∃ pp, pp = i * pg := ⟨_, rfl⟩
                  have hppb : pp + pg ≤ 1100 := by
                    have := Nat.mul_le_mul_right pg (show i + 1 ≤ np by omega)
                    rw [Nat.add_mul, Nat.one_mul, ← hpp] at this
                    omega
                  have hmul : (i : Int) * (pg : Int) = (pp : Int) := by rw [hpp]; push_cast; rfl
                  have hmul1 : ((i : Int) + 1) * (pg : Int) = (pp : Int) + (pg : Int) := by rw [Int.add_mul, Int.one_mul, hmul]
                  unfold mapB goneB at HM0
                  rw [← hpp, ← HFQ.out] at HM0
                  obtain ⟨a1, ha1⟩ : ∃ b, b = decide (1 ≤ i) := ⟨_, rfl⟩
                  obtain ⟨a2, ha2⟩ : ∃ b, b = decide (pp < tp') := ⟨_, rfl⟩
                  obtain ⟨b1, hb1⟩ : ∃ b, b = decide (f < nt) := ⟨_, rfl⟩
                  obtain ⟨b2, hb2⟩ : ∃ b, b = decide (pp < nt) := ⟨_, rfl⟩
                  obtain ⟨b3, hb3⟩ : ∃ b, b = decide (f < pp + pg) := ⟨_, rfl⟩
                  obtain ⟨c1', hc1⟩ : ∃ b, b = decide (fq ≤ i) := ⟨_, rfl⟩
                  obtain ⟨c2', hc2⟩ : ∃ b, b = decide (pp < t) := ⟨_, rfl⟩
                  obtain ⟨c3', hc3⟩ : ∃ b, b = decide (nt ≤ pp) := ⟨_, rfl⟩
                  rw [← ha1, ← ha2, ← hb1, ← hb2, ← hb3, ← hc1, ← hc2, ← hc3] at HM0
                  have m1 : decide ((1 : Int) ≤ (i : Int)) = a1 := by rw [ha1]; exact decide_eq_decide.2 (by omega)
                  have m2 : decide ((pp : Int) < (tp' : Int)) = a2 := by rw [ha2]; exact decide_eq_decide.2 (by omega)
                  have m3 : decide ((f : Int) < (nt : Int)) = b1 := by rw [hb1]; exact decide_eq_decide.2 (by omega)
                  have m4 : decide ((pp : Int) < (nt : Int)) = b2 := by rw [hb2]; exact decide_eq_decide.2 (by omega)
                  have m5 : decide ((f : Int) < (pp : Int) + (pg : Int)) = b3 := by rw [hb3]; exact decide_eq_decide.2 (by omega)
                  have m6 : decide ((fq : Int) ≤ (i : Int)) = c1' := by rw [hc1]; exact decide_eq_decide.2 (by omega)
                  have m7 : decide ((pp : Int) < (t : Int)) = c2' := by rw [hc2]; exact decide_eq_decide.2 (by omega)
                  have m8 : decide ((nt : Int) ≤ (pp : Int)) = c3' := by rw [hc3]; exact decide_eq_decide.2 (by omega)
                  have HLT := hid hlt
                  have hiI : (i : Int) < (np : Int) := by omega
                  have HMQ := hid (fun (W : World) (hW : Gr w6 W) => vm_mapped (HVA.out.gr hW) (i : Nat))
                  obtain ⟨mb, hmb⟩ : ∃ mb, mb = (frE vA.pt (i : Nat) == 0) := ⟨_, rfl⟩
                  rw [← hmb] at HM0 HMQ
                  have ib : i ≤ 1100 := by omega
                  have n1 := ha1.symm
                  have n2 := ha2.symm
                  have n3 := hb1.symm
                  have n4 := hb2.symm
                  have n5 := hb3.symm
                  have n6 := hc1.symm
                  have n7 := hc2.symm
                  have n8 := hc3.symm
                  have HC := hid (HH9.out.gr HGx.out)
                  clear hmb hlt hpp ha1 ha2 hb1 hb2 hb3 hc1 hc2 hc3
                  go_upto_region 42 with (fail)
                  go_cut [26] (fun s26 wx => wx = wr.drew ∧ s26 = .bool ((a1 && a2) || (b1 && b2 && b3)))
                  case first =>
                    as_aux_lemma =>
                    clear m6 m7 m8 n6 n7 n8
                    cases a1
                    · clear m2 n2
                      cases b1
                      · clear m4 m5 n4 n5
                        obtain ⟨Sx, hSx⟩ : ∃ Sx : World → Prop, Sx = fun W' => Gr wr W' := ⟨_, rfl⟩
                        have x3 : ∀ p : Held Sx, p.w.cell? ⟨hp, 3, none⟩ = some (.int .i64 tp') := fun p => by have h := Held.get hSx p; exact (HC.out.gr h).cell (j := 3) rfl
                        have x10 : ∀ p : Held Sx, p.w.cell? ⟨hp, 10, none⟩ = some (.int .i64 pg) := fun p => by have h := Held.get hSx p; exact (HC.out.gr h).cell (j := 10) rfl
                        have HS : Hid (∀ W', Gr wr W' → Sx W') := ⟨fun W' h => by rw [hSx]; exact h⟩
                        have hS0 := HS.out _ ((Gr.refl wr).drew)
                        have inst : Inhabited (Held Sx) := ⟨⟨_, hS0⟩⟩
                        clear hSx
                        refine wp_region_mixS Sx 43 [] [0, 1, 2, 3, 4, 5, 6, 7, 8, 9, 10, 11, 12, 13, 14, 15, 16, 17, 18, 19, 20, 21, 22, 23, 24, 25, 26, 27, 28, 29, 30, 31, 32, 33, 34, 35, 36, 37, 38, 39, 40, 41, 42] (by kernel_rfl) (by kernel_rfl) hS0 ?_
                        refine segs_end ?_
                        try simp only [opsAt, List.getElem?_cons_zero, List.getElem?_cons_succ]
                        repeat (go_big_quiet_step (fail))
                        refine wpQuiet_nil ?_
                        refine NoPanic.normal ?_
                        clear x3 x10 hS0 inst
                        clear HS Sx
                        go_wp2
                        go_meet
                        exact ⟨rfl, rfl⟩
                      · cases b2
                        · clear m5 n5
                          obtain ⟨Sx, hSx⟩ : ∃ Sx : World → Prop, Sx = fun W' => Gr wr W' := ⟨_, rfl⟩
                          have x3 : ∀ p : Held Sx, p.w.cell? ⟨hp, 3, none⟩ = some (.int .i64 tp') := fun p => by have h := Held.get hSx p; exact (HC.out.gr h).cell (j := 3) rfl
                          have x10 : ∀ p : Held Sx, p.w.cell? ⟨hp, 10, none⟩ = some (.int .i64 pg) := fun p => by have h := Held.get hSx p; exact (HC.out.gr h).cell (j := 10) rfl
                          have HS : Hid (∀ W', Gr wr W' → Sx W') := ⟨fun W' h => by rw [hSx]; exact h⟩
                          have hS0 := HS.out _ ((Gr.refl wr).drew)
                          have inst : Inhabited (Held Sx) := ⟨⟨_, hS0⟩⟩
                          clear hSx
                          refine wp_region_mixS Sx 43 [] [0, 1, 2, 3, 4, 5, 6, 7, 8, 9, 10, 11, 12, 13, 14, 15, 16, 17, 18, 19, 20, 21, 22, 23, 24, 25, 26, 27, 28, 29, 30, 31, 32, 33, 34, 35, 36, 37, 38, 39, 40, 41, 42] (by kernel_rfl) (by kernel_rfl) hS0 ?_
                          refine segs_end ?_
                          try simp only [opsAt, List.getElem?_cons_zero, List.getElem?_cons_succ]
                          repeat (go_big_quiet_step (fail))
                          refine wpQuiet_nil ?_
                          refine NoPanic.normal ?_
                          clear x3 x10 hS0 inst
                          clear HS Sx
                          go_wp2
                          go_meet
                          exact ⟨rfl, rfl⟩
                        · cases b3
                          · skip
                            obtain ⟨Sx, hSx⟩ : ∃ Sx : World → Prop, Sx = fun W' => Gr wr W' := ⟨_, rfl⟩
                            have x3 : ∀ p : Held Sx, p.w.cell? ⟨hp, 3, none⟩ = some (.int .i64 tp') := fun p => by have h := Held.get hSx p; exact (HC.out.gr h).cell (j := 3) rfl
                            have x10 : ∀ p : Held Sx, p.w.cell? ⟨hp, 10, none⟩ = some (.int .i64 pg) := fun p => by have h := Held.get hSx p; exact (HC.out.gr h).cell (j := 10) rfl
                            have HS : Hid (∀ W', Gr wr W' → Sx W') := ⟨fun W' h => by rw [hSx]; exact h⟩
                            have hS0 := HS.out _ ((Gr.refl wr).drew)
                            have inst : Inhabited (Held Sx) := ⟨⟨_, hS0⟩⟩
                            clear hSx
                            refine wp_region_mixS Sx 43 [] [0, 1, 2, 3, 4, 5, 6, 7, 8, 9, 10, 11, 12, 13, 14, 15, 16, 17, 18, 19, 20, 21, 22, 23, 24, 25, 26, 27, 28, 29, 30, 31, 32, 33, 34, 35, 36, 37, 38, 39, 40, 41, 42] (by kernel_rfl) (by kernel_rfl) hS0 ?_
                            refine segs_end ?_
                            try simp only [opsAt, List.getElem?_cons_zero, List.getElem?_cons_succ]
                            repeat (go_big_quiet_step (fail))
                            refine wpQuiet_nil ?_
                            refine NoPanic.normal ?_
                            clear x3 x10 hS0 inst
                            clear HS Sx
                            go_wp2
                            go_meet
                            exact ⟨rfl, rfl⟩
                          · skip
                            obtain ⟨Sx, hSx⟩ : ∃ Sx : World → Prop, Sx = fun W' => Gr wr W' := ⟨_, rfl⟩
                            have x3 : ∀ p : Held Sx, p.w.cell? ⟨hp, 3, none⟩ = some (.int .i64 tp') := fun p => by have h := Held.get hSx p; exact (HC.out.gr h).cell (j := 3) rfl
                            have x10 : ∀ p : Held Sx, p.w.cell? ⟨hp, 10, none⟩ = some (.int .i64 pg) := fun p => by have h := Held.get hSx p; exact (HC.out.gr h).cell (j := 10) rfl
                            have HS : Hid (∀ W', Gr wr W' → Sx W') := ⟨fun W' h => by rw [hSx]; exact h⟩
                            have hS0 := HS.out _ ((Gr.refl wr).drew)
                            have inst : Inhabited (Held Sx) := ⟨⟨_, hS0⟩⟩
                            clear hSx
                            refine wp_region_mixS Sx 43 [] [0, 1, 2, 3, 4, 5, 6, 7, 8, 9, 10, 11, 12, 13, 14, 15, 16, 17, 18, 19, 20, 21, 22, 23, 24, 25, 26, 27, 28, 29, 30, 31, 32, 33, 34, 35, 36, 37, 38, 39, 40, 41, 42] (by kernel_rfl) (by kernel_rfl) hS0 ?_
                            refine segs_end ?_
                            try simp only [opsAt, List.getElem?_cons_zero, List.getElem?_cons_succ]
                            repeat (go_big_quiet_step (fail))
                            refine wpQuiet_nil ?_
                            refine NoPanic.normal ?_
                            clear x3 x10 hS0 inst
                            clear HS Sx
                            go_wp2
                            go_meet
                            exact ⟨rfl, rfl⟩
                    · cases a2
                      · skip
                        cases b1
                        · clear m4 m5 n4 n5
                          obtain ⟨Sx, hSx⟩ : ∃ Sx : World → Prop, Sx = fun W' => Gr wr W' := ⟨_, rfl⟩
                          have x3 : ∀ p : Held Sx, p.w.cell? ⟨hp, 3, none⟩ = some (.int .i64 tp') := fun p => by have h := Held.get hSx p; exact (HC.out.gr h).cell (j := 3) rfl
                          have x10 : ∀ p : Held Sx, p.w.cell? ⟨hp, 10, none⟩ = some (.int .i64 pg) := fun p => by have h := Held.get hSx p; exact (HC.out.gr h).cell (j := 10) rfl
                          have HS : Hid (∀ W', Gr wr W' → Sx W') := ⟨fun W' h => by rw [hSx]; exact h⟩
                          have hS0 := HS.out _ ((Gr.refl wr).drew)
                          have inst : Inhabited (Held Sx) := ⟨⟨_, hS0⟩⟩
                          clear hSx
                          refine wp_region_mixS Sx 43 [] [0, 1, 2, 3, 4, 5, 6, 7, 8, 9, 10, 11, 12, 13, 14, 15, 16, 17, 18, 19, 20, 21, 22, 23, 24, 25, 26, 27, 28, 29, 30, 31, 32, 33, 34, 35, 36, 37, 38, 39, 40, 41, 42] (by kernel_rfl) (by kernel_rfl) hS0 ?_
                          refine segs_end ?_
                          try simp only [opsAt, List.getElem?_cons_zero, List.getElem?_cons_succ]
                          repeat (go_big_quiet_step (fail))
                          refine wpQuiet_nil ?_
                          refine NoPanic.normal ?_
                          clear x3 x10 hS0 inst
                          clear HS Sx
                          go_wp2
                          go_meet
                          exact ⟨rfl, rfl⟩
                        · cases b2
                          · clear m5 n5
                            obtain ⟨Sx, hSx⟩ : ∃ Sx : World → Prop, Sx = fun W' => Gr wr W' := ⟨_, rfl⟩
                            have x3 : ∀ p : Held Sx, p.w.cell? ⟨hp, 3, none⟩ = some (.int .i64 tp') := fun p => by have h := Held.get hSx p; exact (HC.out.gr h).cell (j := 3) rfl
                            have x10 : ∀ p : Held Sx, p.w.cell? ⟨hp, 10, none⟩ = some (.int .i64 pg) := fun p => by have h := Held.get hSx p; exact (HC.out.gr h).cell (j := 10) rfl
                            have HS : Hid (∀ W', Gr wr W' → Sx W') := ⟨fun W' h => by rw [hSx]; exact h⟩
                            have hS0 := HS.out _ ((Gr.refl wr).drew)
                            have inst : Inhabited (Held Sx) := ⟨⟨_, hS0⟩⟩
                            clear hSx
                            refine wp_region_mixS Sx 43 [] [0, 1, 2, 3, 4, 5, 6, 7, 8, 9, 10, 11, 12, 13, 14, 15, 16, 17, 18, 19, 20, 21, 22, 23, 24, 25, 26, 27, 28, 29, 30, 31, 32, 33, 34, 35, 36, 37, 38, 39, 40, 41, 42] (by kernel_rfl) (by kernel_rfl) hS0 ?_
                            refine segs_end ?_
                            try simp only [opsAt, List.getElem?_cons_zero, List.getElem?_cons_succ]
                            repeat (go_big_quiet_step (fail))
                            refine wpQuiet_nil ?_
                            refine NoPanic.normal ?_
                            clear x3 x10 hS0 inst
                            clear HS Sx
                            go_wp2
                            go_meet
                            exact ⟨rfl, rfl⟩
                          · cases b3
                            · skip
                              obtain ⟨Sx, hSx⟩ : ∃ Sx : World → Prop, Sx = fun W' => Gr wr W' := ⟨_, rfl⟩
                              have x3 : ∀ p : Held Sx, p.w.cell? ⟨hp, 3, none⟩ = some (.int .i64 tp') := fun p => by have h := Held.get hSx p; exact (HC.out.gr h).cell (j := 3) rfl
                              have x10 : ∀ p : Held Sx, p.w.cell? ⟨hp, 10, none⟩ = some (.int .i64 pg) := fun p => by have h := Held.get hSx p; exact (HC.out.gr h).cell (j := 10) rfl
                              have HS : Hid (∀ W', Gr wr W' → Sx W') := ⟨fun W' h => by rw [hSx]; exact h⟩
                              have hS0 := HS.out _ ((Gr.refl wr).drew)
                              have inst : Inhabited (Held Sx) := ⟨⟨_, hS0⟩⟩
                              clear hSx
                              refine wp_region_mixS Sx 43 [] [0, 1, 2, 3, 4, 5, 6, 7, 8, 9, 10, 11, 12, 13, 14, 15, 16, 17, 18, 19, 20, 21, 22, 23, 24, 25, 26, 27, 28, 29, 30, 31, 32, 33, 34, 35, 36, 37, 38, 39, 40, 41, 42] (by kernel_rfl) (by kernel_rfl) hS0 ?_
                              refine segs_end ?_
                              try simp only [opsAt, List.getElem?_cons_zero, List.getElem?_cons_succ]
                              repeat (go_big_quiet_step (fail))
                              refine wpQuiet_nil ?_
                              refine NoPanic.normal ?_
                              clear x3 x10 hS0 inst
                              clear HS Sx
                              go_wp2
                              go_meet
                              exact ⟨rfl, rfl⟩
                            · skip
                              obtain ⟨Sx, hSx⟩ : ∃ Sx : World → Prop, Sx = fun W' => Gr wr W' := ⟨_, rfl⟩
                              have x3 : ∀ p : Held Sx, p.w.cell? ⟨hp, 3, none⟩ = some (.int .i64 tp') := fun p => by have h := Held.get hSx p; exact (HC.out.gr h).cell (j := 3) rfl
                              have x10 : ∀ p : Held Sx, p.w.cell? ⟨hp, 10, none⟩ = some (.int .i64 pg) := fun p => by have h := Held.get hSx p; exact (HC.out.gr h).cell (j := 10) rfl
                              have HS : Hid (∀ W', Gr wr W' → Sx W') := ⟨fun W' h => by rw [hSx]; exact h⟩
                              have hS0 := HS.out _ ((Gr.refl wr).drew)
                              have inst : Inhabited (Held Sx) := ⟨⟨_, hS0⟩⟩
                              clear hSx
                              refine wp_region_mixS Sx 43 [] [0, 1, 2, 3, 4, 5, 6, 7, 8, 9, 10, 11, 12, 13, 14, 15, 16, 17, 18, 19, 20, 21, 22, 23, 24, 25, 26, 27, 28, 29, 30, 31, 32, 33, 34, 35, 36, 37, 38, 39, 40, 41, 42] (by kernel_rfl) (by kernel_rfl) hS0 ?_
                              refine segs_end ?_
                              try simp only [opsAt, List.getElem?_cons_zero, List.getElem?_cons_succ]
                              repeat (go_big_quiet_step (fail))
                              refine wpQuiet_nil ?_
                              refine NoPanic.normal ?_
                              clear x3 x10 hS0 inst
                              clear HS Sx
                              go_wp2
                              go_meet
                              exact ⟨rfl, rfl⟩
                      · clear m3 m4 m5 n3 n4 n5
                        obtain ⟨Sx, hSx⟩ : ∃ Sx : World → Prop, Sx = fun W' => Gr wr W' := ⟨_, rfl⟩
                        have x3 : ∀ p : Held Sx, p.w.cell? ⟨hp, 3, none⟩ = some (.int .i64 tp') := fun p => by have h := Held.get hSx p; exact (HC.out.gr h).cell (j := 3) rfl
                        have x10 : ∀ p : Held Sx, p.w.cell? ⟨hp, 10, none⟩ = some (.int .i64 pg) := fun p => by have h := Held.get hSx p; exact (HC.out.gr h).cell (j := 10) rfl
                        have HS : Hid (∀ W', Gr wr W' → Sx W') := ⟨fun W' h => by rw [hSx]; exact h⟩
                        have hS0 := HS.out _ ((Gr.refl wr).drew)
                        have inst : Inhabited (Held Sx) := ⟨⟨_, hS0⟩⟩
                        clear hSx
                        refine wp_region_mixS Sx 43 [] [0, 1, 2, 3, 4, 5, 6, 7, 8, 9, 10, 11, 12, 13, 14, 15, 16, 17, 18, 19, 20, 21, 22, 23, 24, 25, 26, 27, 28, 29, 30, 31, 32, 33, 34, 35, 36, 37, 38, 39, 40, 41, 42] (by kernel_rfl) (by kernel_rfl) hS0 ?_
                        refine segs_end ?_
                        try simp only [opsAt, List.getElem?_cons_zero, List.getElem?_cons_succ]
                        repeat (go_big_quiet_step (fail))
                        refine wpQuiet_nil ?_
                        refine NoPanic.normal ?_
                        clear x3 x10 hS0 inst
                        clear HS Sx
                        go_wp2
                        go_meet
                        exact ⟨rfl, rfl⟩
                  case rest =>
                    as_aux_lemma =>
                    obtain ⟨hwc, hw26⟩ := hcut
                    subst hwc
                    subst hw26
                    clear m1 m2 m3 m4 m5 n1 n2 n3 n4 n5
                    obtain ⟨mm, hmm⟩ : ∃ mm, mm = ((a1 && a2) || (b1 && b2 && b3)) := ⟨_, rfl⟩
                    rw [← hmm] at HM0
                    rw [← hmm]
                    clear hmm
                    have k10 := (HC.out.gr (Gr.refl wr).drew).cell (j := 10) rfl
                    go_upto_region 43 with (fail)
                    go_cut [27] (fun s27 wx => wx = wr.drew ∧ s27 = .bool (c1' && c2' && c3'))
                    case first =>
                      cases c1'
                      · clear m7 m8 n7 n8
                        go_wp2
                        go_meet
                        exact ⟨rfl, rfl⟩
                      · cases c2'
                        · clear m8 n8
                          go_wp2
                          go_meet
                          exact ⟨rfl, rfl⟩
                        · cases c3'
                          · skip
                            go_wp2
                            go_meet
                            exact ⟨rfl, rfl⟩
                          · skip
                            go_wp2
                            go_meet
                            exact ⟨rfl, rfl⟩
                    case rest =>
                      obtain ⟨hwc, hw27⟩ := hcut
                      subst hwc
                      subst hw27
                      clear m6 m7 m8 n6 n7 n8 k10
                      obtain ⟨gg, hgg⟩ : ∃ gg, gg = (c1' && c2' && c3') := ⟨_, rfl⟩
                      rw [← hgg] at HM0
                      rw [← hgg]
                      clear hgg
                      have k0 := (HC.out.gr (Gr.refl wr).drew).cell (j := 0) rfl
                      have HMX := hid (HMQ.out _ (HG9d.out.trans (HGx.out.drew)))
                      have hm0 := HM0.out
                      subst hm0
                      have hi1 : (i : Int) + 1 ≤ 1101 := by omega
                      cases mm <;> cases gg <;> (
                        go_wp2_with (go_at_call 34; refine (HMX.out).mono ?_; rintro e w12 ⟨rfl, hg12⟩; have HG12c := hid hg12; clear hg12)
                        go_round
                        case rel => exact ⟨i + 1, HLT.out, ⟨HGx.out.drew.trans HG12c.out⟩, by go_num⟩
                        case measure => have := HLT.out; simp [intOf]; omega)
                · have hiI : ¬ (i : Int) < (np : Int) := by omega
                  clear hlt
                  have HGE : Hid (Gr w wr) := ⟨HP6.out.2.2.2.trans (HG9d.out.trans HGx.out)⟩
                  go_wp2_with (go_at_call 27; refine (lives26 (HGE.out.tab HT.out.lt HT.out)).mono ?_; rintro e w12 ⟨rfl, hg12⟩; have HG12' := hid hg12; clear hg12)
                  go_ret
                  exact ⟨rfl, HGE.out.trans HG12'.out⟩
    · as_aux_lemma =>
      have hbu : pkArg x.n F T (x.cf.st : Nat) = true → ∀ L, ¬ PkIn u rs F T L := fun h1 L h2 => hok ⟨h1, L, h2⟩
      have hbv : pkArg (layC x v0).n F T (x.cf.st : Nat) = true → ∀ L, ¬ PkIn (layC x v0) rs F T L := fun h1 L h2 => hbu (by rwa [hs.n] at h1) L ((pkIn_iff HRN.out HZA.out HU.out HUV.out).2 h2)
      obtain ⟨E, hE⟩ : ∃ E, E = errE (pkArg x.n F T (x.cf.st : Nat)) := ⟨_, rfl⟩
      have hE0 : E ≠ 0 := by rw [hE]; unfold errE; split <;> decide
      have HCK := hid (fun (W : World) (hW : Gr w4 W) => (HCHK.out W hW).mono (fun e w' h => chk26_err h hbu))
      have HRN1 := hid (fun (W : World) (hW : Gr w4 W) => (HRUN.out W hW).mono (fun e w' h => run26_err h hbv))
      rw [hs.n] at HRN1
      rw [← hE] at HCK HRN1
      have d0 : (E != 0) = true := by simpa using hE0
      clear hok hbu hbv hE HCHK HRUN hs
      obtain ⟨Sx, hSx⟩ : ∃ Sx : World → Prop, Sx = fun W' => Gr w4 W' := ⟨_, rfl⟩
      have x7 : ∀ p : Held Sx, p.w.cell? ⟨hp, 7, none⟩ = some (.int .i64 x.cf.st) := fun p => by have h := Held.get hSx p; exact (HC4.out.gr h).cell (j := 7) rfl
      have x9 : ∀ p : Held Sx, p.w.cell? ⟨hp, 9, none⟩ = some (.slice A x.n c) := fun p => by have h := Held.get hSx p; exact (HC4.out.gr h).cell (j := 9) rfl
      have HS : Hid (∀ W', Gr w4 W' → Sx W') := ⟨fun W' h => by rw [hSx]; exact h⟩
      have hS0 := HS.out _ ((Gr.refl w4).drew)
      have inst : Inhabited (Held Sx) := ⟨⟨_, hS0⟩⟩
      clear hSx
      refine wp_region_mixS Sx 18 [([0, 1, 2, 3, 4, 5, 6, 7, 8, 9, 10, 11], 12)] [13, 14, 15, 16, 17] (by kernel_rfl) (by kernel_rfl) hS0 ?_
      refine segs_step ?_
      try simp only [opsAt, List.getElem?_cons_zero, List.getElem?_cons_succ]
      repeat (go_big_quiet_step (fail))
      refine wpQuiet_nil ?_
      go_wp2_with ((go_at_call 30; refine (HCK.out _ (Gr.refl w4).drew).mono ?_; rintro e w5 ⟨rfl, hg5⟩; have HG5 := hid ((Gr.refl w4).drew.trans hg5); clear hg5))
      refine ⟨.inr (Held.of (HS.out _ (HG5.out))), ?_⟩
      refine segs_end ?_
      try simp only [opsAt, List.getElem?_cons_zero, List.getElem?_cons_succ]
      repeat (go_big_quiet_step (fail))
      refine wpQuiet_nil ?_
      refine NoPanic.normal ?_
      clear x7 x9 hS0 inst
      clear HS Sx
      have HC5 := hid (HC4.out.gr HG5.out)
      go_upto_region 11 with (fail)
      obtain ⟨Sx, hSx⟩ : ∃ Sx : World → Prop, Sx = fun W' => Rec W' hp 37 [.pointer (some ⟨q, 0, none⟩), .pointer (some ⟨r, 0, none⟩), .int .i64 x.cf.fr, .int .i64 x.cf.tp, .int .i64 x.cf.to, .int .i64 x.cf.lm, .int .i64 x.cf.bk, .int .i64 x.cf.st, .int .i64 x.cf.ah, .slice A x.n c, .int .i64 (x.page : Nat)] := ⟨_, rfl⟩
      have x0 : ∀ p : Held Sx, p.w.cell? ⟨hp, 0, none⟩ = some (.pointer (some ⟨q, 0, none⟩)) := fun p => by have h := Held.get hSx p; exact h.cell (j := 0) rfl
      have x1 : ∀ p : Held Sx, p.w.cell? ⟨hp, 1, none⟩ = some (.pointer (some ⟨r, 0, none⟩)) := fun p => by have h := Held.get hSx p; exact h.cell (j := 1) rfl
      have x7 : ∀ p : Held Sx, p.w.cell? ⟨hp, 7, none⟩ = some (.int .i64 x.cf.st) := fun p => by have h := Held.get hSx p; exact h.cell (j := 7) rfl
      have HS : Hid (∀ W', Rec W' hp 37 [.pointer (some ⟨q, 0, none⟩), .pointer (some ⟨r, 0, none⟩), .int .i64 x.cf.fr, .int .i64 x.cf.tp, .int .i64 x.cf.to, .int .i64 x.cf.lm, .int .i64 x.cf.bk, .int .i64 x.cf.st, .int .i64 x.cf.ah, .slice A x.n c, .int .i64 (x.page : Nat)] → Sx W') := ⟨fun W' h => by rw [hSx]; exact h⟩
      have hS0 := HS.out _ (HC5.out.gr (Gr.refl w5).drew)
      have inst : Inhabited (Held Sx) := ⟨⟨_, hS0⟩⟩
      clear hSx
      refine wp_region_mixS Sx 21 [([0, 1, 2, 3, 4, 5, 6, 7, 8, 9, 10, 11, 12, 13, 14], 15)] [16, 17, 18, 19, 20] (by kernel_rfl) (by kernel_rfl) hS0 ?_
      refine segs_step ?_
      try simp only [opsAt, List.getElem?_cons_zero, List.getElem?_cons_succ]
      repeat (go_big_quiet_step (fail))
      refine wpQuiet_nil ?_
      go_wp2_with ((go_at_call 28; refine (HRN1.out _ HG5.out.drew).mono ?_; rintro e w6 ⟨rfl, ht6, hv6, hr6⟩; have HP6 := hid (HT46.out _ _ HG5.out.drew ht6); have HV6 := hid hv6; have HR6 := hid hr6; clear ht6 hv6 hr6))
      refine ⟨.inr (Held.of (HS.out _ (HP6.out.1))), ?_⟩
      refine segs_end ?_
      try simp only [opsAt, List.getElem?_cons_zero, List.getElem?_cons_succ]
      repeat (go_big_quiet_step (fail))
      refine wpQuiet_nil ?_
      refine NoPanic.normal ?_
      clear x0 x1 x7 hS0 inst
      clear HS Sx
      have HC6 := hid HP6.out.1
      unfold heapL at HC6
      have HLD : Hid (∀ W, Gr w6 W → Calls Tryz.prog 19 #[.pointer (some ⟨q, 0, none⟩)] W fun e w' => ∃ (B : Option Addr) (cB : Nat), e = .returned (.slice B x.n cB) ∧ Gr W w' ∧ Wrds w' B cB x.n u) := ⟨fun W hg => by
        have hs := HRN.out.stays (Stays.layC HRN.out.ok x)
        have h := loaded25 (HV6.out.gr hg) (by rw [hs.n]; exact hn11)
        rw [hs.n] at h
        refine h.mono ?_
        rintro e w' ⟨B, cB, rfl, hg', ho⟩
        refine ⟨B, cB, rfl, hg', ?_⟩
        unfold Wrds
        rw [wrds_congr HUV.out]
        exact own_zero ho⟩
      have HUS6 := hid (fun (W : World) (g' : Gr w6 W) => vm_used (HV6.out.gr g'))
      rw [← HUE.out] at HUS6
      have y0 := HC6.out.cell (j := 0) rfl
      have hn1 : x.n ≠ 0 := by have := x.page_pos; unfold LaidC.n; omega
      go_upto_region 17 with (go_at_call 19; refine (HLD.out _ (Gr.refl w6)).mono ?_; rintro e w7 ⟨B, cB, rfl, hg7, ho7⟩; have HG7 := hid hg7; have HB7 := hid ho7; have HC7 := hid (HC6.out.gr hg7); clear hg7 ho7)
      clear y0
      obtain ⟨nn, hnn⟩ : ∃ nn, nn = x.n := ⟨_, rfl⟩
      have hbB := HB7.out
      have hwd := HP6.out.2.1.gr HG7.out
      have hc7 := HC7.out
      unfold Wrds at hbB hwd
      rw [← hnn] at hn1 hbB hwd hn11 hc7
      obtain ⟨gB, cB', eB, -, -, -, hgB⟩ := own_form hbB hn1
      simp only [Value.slice.injEq] at eB
      obtain ⟨rfl, -, rfl⟩ := eB
      obtain ⟨gw, cw, ew, -, -, -, hgw⟩ := own_form hwd hn1
      simp only [Value.slice.injEq] at ew
      obtain ⟨rfl, -, rfl⟩ := ew
      have HBB := hid hbB
      have HWD := hid hwd
      have HCC := hid hc7
      have HEND : Hid (∀ W, Gr w7 W → Gr w W) := ⟨fun W h => HP6.out.2.2.2.trans (HG7.out.trans h)⟩
      clear hbB hwd hgB hgw hc7
      rw [← hnn]
      clear hnn hn1
      go_loopw [126] (fun s126 wx => ∃ i : Nat, i ≤ nn ∧ Hid (Gr w7 wx) ∧ s126 = .int .i64 i) (fun s126 _ => nn - (intOf s126).toNat)
      case atStart => exact ⟨0, Nat.zero_le _, ⟨Gr.refl _⟩, rfl⟩
      case round =>
        obtain ⟨i, hi, HGx, rfl⟩ := hrel
        by_cases hlt : i < nn
        · have k1 := own_cell (own_gr HBB.out HGx.out) (wrds_at u hlt)
          have k2 := own_cell (own_gr HWD.out HGx.out) (wrds_at u hlt)
          obtain ⟨y, hy⟩ : ∃ y, y = u.ldV (i : Int) := ⟨_, rfl⟩
          rw [← hy] at k1 k2
          have k9 := (HCC.out.gr HGx.out).cell (j := 9) rfl
          have hiI' : (i : Int) < (nn : Int) := by omega
          have HLT := hid hlt
          clear hy hlt
          go_upto_region 19 with (fail)
          obtain ⟨Sx, hSx⟩ : ∃ Sx : World → Prop, Sx = fun W' => W'.cell? ⟨gB, i, none⟩ = some (.int .u64 (y : Nat)) ∧ W'.cell? ⟨gw, i, none⟩ = some (.int .u64 (y : Nat)) ∧ W'.cell? ⟨hp, 9, none⟩ = some (.slice (some ⟨gw, 0, none⟩) nn c) := ⟨_, rfl⟩
          have x1 : ∀ p : Held Sx, p.w.cell? ⟨gB, i, none⟩ = some (.int .u64 (y : Nat)) := fun p => by have h := Held.get hSx p; exact h.1
          have x2 : ∀ p : Held Sx, p.w.cell? ⟨gw, i, none⟩ = some (.int .u64 (y : Nat)) := fun p => by have h := Held.get hSx p; exact h.2.1
          have x3 : ∀ p : Held Sx, p.w.cell? ⟨hp, 9, none⟩ = some (.slice (some ⟨gw, 0, none⟩) nn c) := fun p => by have h := Held.get hSx p; exact h.2.2
          have HS : Hid (∀ W', W'.cell? ⟨gB, i, none⟩ = some (.int .u64 (y : Nat)) ∧ W'.cell? ⟨gw, i, none⟩ = some (.int .u64 (y : Nat)) ∧ W'.cell? ⟨hp, 9, none⟩ = some (.slice (some ⟨gw, 0, none⟩) nn c) → Sx W') := ⟨fun W' h => by rw [hSx]; exact h⟩
          have hS0 := HS.out (wr.drew) (⟨k1, k2, k9⟩)
          have inst : Inhabited (Held Sx) := ⟨⟨_, hS0⟩⟩
          clear hSx
          refine wp_region_mixS Sx 12 [] [0, 1, 2, 3, 4, 5, 6, 7, 8, 9, 10, 11] (by kernel_rfl) (by kernel_rfl) hS0 ?_
          refine segs_end ?_
          try simp only [opsAt, List.getElem?_cons_zero, List.getElem?_cons_succ]
          repeat (go_big_quiet_step (fail))
          refine wpQuiet_nil ?_
          refine NoPanic.normal ?_
          clear x1 x2 x3 hS0 inst
          clear HS Sx
          go_wp2
          go_round
          case rel => exact ⟨i + 1, HLT.out, ⟨HGx.out.drew⟩, by go_num⟩
          case measure => have := HLT.out; simp [intOf]; omega
        · have hiI' : ¬ (i : Int) < (nn : Int) := by omega
          have k0 := (HCC.out.gr HGx.out).cell (j := 0) rfl
          have k0l := (HCC.out.gr HGx.out).lt
          have HGW := hid (HEND.out _ HGx.out)
          have HUSx := hid (HUS6.out _ (HG7.out.trans HGx.out))
          clear hlt
          go_wp2_with (first
            | (go_at_call 20; refine (HUSx.out).mono ?_; rintro e w9 ⟨rfl, rfl⟩)
            | (go_at_call 27; refine (lives26 (HGW.out.tab HT.out.lt HT.out)).mono ?_; rintro e w9 ⟨rfl, hg9⟩; have HG9 := hid hg9; clear hg9))
          go_ret
          exact ⟨rfl, HGW.out.trans HG9.out⟩
end
end Go.Proofs.YtbmidhlilafgeaaGreatDoor
end
