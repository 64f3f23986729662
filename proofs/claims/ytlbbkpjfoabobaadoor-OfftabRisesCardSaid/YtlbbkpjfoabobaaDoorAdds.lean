/- BitvecAdds: the walk. -/
import Derived.Test.YtlbbkpjfoabobaaDoorLive11
namespace Go.Proofs.YtlbbkpjfoabobaaDoor
open Go.RowKit Word

/-- An Act: kind, A, B. -/
structure ActD where
  kind : Nat
  a : Int
  b : Int
def ActD.ok (x : ActD) : Prop := x.kind ≤ 255 ∧ -9223372036854775808 ≤ x.a ∧ x.a ≤ 9223372036854775807 ∧ -9223372036854775808 ≤ x.b ∧ x.b ≤ 9223372036854775807
/-- A slice of Acts lies in w. -/
def ActsAt (w : World) (A : Option Addr) (l : List ActD) : Prop :=
  ∀ i (h : i < l.length), l[i].ok ∧ ∃ b o : Nat, A = some ⟨b, o, none⟩ ∧ b < w.heap.size ∧
    w.cell? ⟨b, o + i * 3, none⟩ = some (.int .u8 l[i].kind) ∧ w.cell? ⟨b, o + i * 3 + 1, none⟩ = some (.int .i64 l[i].a) ∧ w.cell? ⟨b, o + i * 3 + 2, none⟩ = some (.int .i64 l[i].b)

theorem run_minB2 (P : Program) (ts : Array TypeId) (t : TypeId) (k : IntKind) (x y : Int) (w : World) : (Builtin.min_ ts t #[.int k x, .int k y]).run P w = .ok (.int k (min x y)) w := by
  simp only [Builtin.min_, List.foldlM]; simp [run_min2]
theorem run_maxB2 (P : Program) (ts : Array TypeId) (t : TypeId) (k : IntKind) (x y : Int) (w : World) : (Builtin.max_ ts t #[.int k x, .int k y]).run P w = .ok (.int k (max x y)) w := by
  simp only [Builtin.max_, List.foldlM]; simp [run_max2]
theorem run_minB3 (P : Program) (ts : Array TypeId) (t : TypeId) (k : IntKind) (x y z : Int) (w : World) : (Builtin.min_ ts t #[.int k x, .int k y, .int k z]).run P w = .ok (.int k (min (min x y) z)) w := by
  simp only [Builtin.min_, List.foldlM]; simp [run_min2]
theorem run_maxB3 (P : Program) (ts : Array TypeId) (t : TypeId) (k : IntKind) (x y z : Int) (w : World) : (Builtin.max_ ts t #[.int k x, .int k y, .int k z]).run P w = .ok (.int k (max (max x y) z)) w := by
  simp only [Builtin.max_, List.foldlM]; simp [run_max2]
theorem countL_add (l : List Bool) {a b c : Int} (h1 : a ≤ b) (h2 : b ≤ c) : ((countL l a b : Nat) : Int) + (countL l b c : Nat) = (countL l a c : Nat) := by
  rw [countL_eq, countL_eq, countL_eq]
  have := cnt_or (f := fun i => decide (a ≤ (i : Nat) ∧ ((i : Nat) : Int) < b) && at_ l i) (g := fun i => decide (b ≤ (i : Nat) ∧ ((i : Nat) : Int) < c) && at_ l i) (fun i => by
    by_cases h : ((i : Nat) : Int) < b
    · rw [decide_eq_false (p := b ≤ (i : Nat) ∧ ((i : Nat) : Int) < c) (by omega)]; simp
    · rw [decide_eq_false (p := a ≤ (i : Nat) ∧ ((i : Nat) : Int) < b) (by omega)]; simp) l.length
  unfold cntI
  rw [← Int.natCast_add, ← this]
  congr 1
  refine cnt_congr (fun i _ => ?_)
  by_cases h : ((i : Nat) : Int) < b
  · rw [decide_eq_false (p := b ≤ (i : Nat) ∧ ((i : Nat) : Int) < c) (by omega), show decide (a ≤ (i : Nat) ∧ ((i : Nat) : Int) < b) = decide (a ≤ (i : Nat) ∧ ((i : Nat) : Int) < c) from decide_eq_decide.2 (by omega)]; simp
  · rw [decide_eq_false (p := a ≤ (i : Nat) ∧ ((i : Nat) : Int) < b) (by omega), show decide (b ≤ (i : Nat) ∧ ((i : Nat) : Int) < c) = decide (a ≤ (i : Nat) ∧ ((i : Nat) : Int) < c) from decide_eq_decide.2 (by omega)]; simp
theorem countL_all (l : List Bool) {b : Int} (h : l.length ≤ b) : countL l 0 b = cnt (at_ l) l.length := by
  rw [countL_eq]; exact cnt_congr (fun i hi => by rw [decide_eq_true (by omega)]; simp)
theorem countL_upto (l : List Bool) {r : Nat} (h : r ≤ l.length) : countL l 0 (r : Int) = cnt (at_ l) r := by
  rw [countL_eq]
  unfold cntI
  rw [cnt_ext h (fun i h1 _ => by rw [decide_eq_false (by omega)]; rfl)]
  exact cnt_congr (fun i hi => by rw [decide_eq_true (by omega)]; simp)
theorem pick_lt_all {l : List Bool} {q : Nat} (h : q < cnt (at_ l) l.length) : pickL l q < l.length ∧ at_ l (pickL l q) = true ∧ cnt (at_ l) (pickL l q) = q := pickF_lt h
theorem pick_all_none {l : List Bool} {q : Nat} (h : cnt (at_ l) l.length ≤ q) : pickL l q = l.length := pickF_none h
/-- Behind a call that may have changed bits of the vector, and nothing else that was there. -/
def VecEnd (w : World) (p b n : Nat) (e : Ending) (w' : World) : Prop := ∃ (v : Int) (m : List Bool), e = .returned (.int .i64 v) ∧ m.length = n ∧ Vec w' p b m ∧ Touch (fun i => i = b) w w'
theorem fill_some {w : World} {p b : Nat} {l : List Bool} (hV : Vec w p b l) (f t : Int) (hf64 : f ≤ 9223372036854775807) :
    Calls Tryd.prog 17 #[.pointer (some ⟨p, 0, none⟩), .int .i64 f, .int .i64 t] w (VecEnd w p b l.length) :=
  (fill_vec hV f t hf64).mono fun _ _ ⟨he, ht, hv⟩ => ⟨_, _, he, layL_length .., hv, ht⟩
theorem clear_some {w : World} {p b : Nat} {l : List Bool} (hV : Vec w p b l) (i : Int) :
    Calls Tryd.prog 18 #[.pointer (some ⟨p, 0, none⟩), .int .i64 i] w (VecEnd w p b l.length) := by
  by_cases h : 0 ≤ i ∧ i < l.length
  · obtain ⟨k, rfl⟩ : ∃ k : Nat, i = k := ⟨i.toNat, by omega⟩
    exact (clear_in hV k (by omega)).mono fun _ _ ⟨he, ht, hv⟩ => ⟨_, _, he, List.length_set .., hv, ht⟩
  · exact (clear_out hV i (by omega)).mono fun _ _ ⟨he, hw⟩ => ⟨_, _, he, rfl, hw ▸ hV, hw ▸ Touch.refl _ _⟩

set_option maxRecDepth 100000 in
set_option maxHeartbeats 1600000 in
theorem adds_walk {W : World} (hT : TabAt W) (n : Nat) (hn : n ≤ 65535) (A : Option Addr) (cap : Nat) (l : List ActD) (hA : ActsAt W A l) (hlen : l.length ≤ maxLen) (x y z : Int) (hxb : x ≤ 9223372036854775807 ∧ y ≤ 9223372036854775807 ∧ z ≤ 9223372036854775807) :
    Gets Tryd.prog 3 #[.int .u16 n, .slice A l.length cap, .agg #[.int .i64 x, .int .i64 y, .int .i64 z]] W (.bool true) := by
  unfold maxLen at hlen
  have HXB := hid hxb
  clear hxb
  unfold Gets
  by_cases h50 : l.length ≤ 50
  · have hd : decide ((50 : Int) < (l.length : Int)) = false := by simp; omega
    have hn' : (n : Int) ≤ 65535 := by omega
    have HT := hid hT
    have HA := hid hA
    clear hT hA hlen hn
    go_enter Tryd.func3, Tryd.ntmps3
    go_wp2_with (first
      | (go_at_call 16; refine (new_vec (n + 1) (by omega) (by omega) _).mono ?_; rintro e w1 ⟨p, b, rfl, hg1, hV1, hp, hb⟩))
    have hs : (W.alloc (.cells #[.int .i64 x, .int .i64 y, .int .i64 z] 24)).heap.size = W.heap.size + 1 := by simp
    obtain ⟨Wa, hWa⟩ : ∃ Wa, Wa = W.alloc (.cells #[.int .i64 x, .int .i64 y, .int .i64 z] 24) := ⟨_, rfl⟩
    have hga : Gr W Wa := by rw [hWa]; exact (Gr.refl W).alloc _
    have x0 : Wa.cell? ⟨W.heap.size, 0, none⟩ = some (.int .i64 x) := by rw [hWa]; exact World.cell?_alloc_new ..
    have x1 : Wa.cell? ⟨W.heap.size, 1, none⟩ = some (.int .i64 y) := by rw [hWa]; exact World.cell?_alloc_new ..
    have x2 : Wa.cell? ⟨W.heap.size, 2, none⟩ = some (.int .i64 z) := by rw [hWa]; exact World.cell?_alloc_new ..
    rw [← hWa] at hg1 hp hb hs
    clear hWa
    have HX := hid (And.intro x0 (And.intro x1 x2))
    have HGA := hid hga
    have HP := hid (And.intro hs (And.intro hp hb))
    have HG1 := hid hg1
    have HV1 := hid hV1
    clear x0 x1 x2 hga hg1 hV1 hs hp hb
    go_loopw [33] (fun i wr => ∃ k : Nat, k ≤ l.length ∧ (∃ m : List Bool, m.length = n + 1 ∧ Hid (Vec wr p b m)) ∧ Hid (Gr Wa wr) ∧ i = .int .i64 k) (fun i _ => l.length - (intOf i).toNat)
    case atStart => exact ⟨0, by omega, ⟨_, by simp, HV1⟩, HG1, rfl⟩
    case round =>
      obtain ⟨k, hk, ⟨m, hm, hV⟩, hG, rfl⟩ := hrel
      by_cases hlt : k < l.length
      · obtain ⟨hok, ab, ao, rfl, hab, c0, c1, c2⟩ := HA.out k hlt
        have hg' := HGA.out.trans hG.out
        have q0 := (hg'.cell hab _).trans c0
        have q1 := (hg'.cell hab _).trans c1
        have q2 := (hg'.cell hab _).trans c2
        have HOK := hid hok
        clear c0 c1 c2 hg' hok
        generalize l[k] = act at *
        obtain ⟨ka, aa, bb⟩ := act
        simp only [] at q0 q1 q2
        have HW := hid (hV.out.gr ((Gr.refl wr).alloc (.cells #[.int .u8 ka, .int .i64 aa, .int .i64 bb] 31)))
        have hbs := hV.out.hb
        go_wp2_with (first
          | (go_at_call 17; refine (fill_some HW.out _ _ HOK.out.2.2.1).mono ?_; rintro e w2 ⟨v2, m2, rfl, hl2, hV2, ht2⟩; have qa := (ht2.cell (b := wr.heap.size) (by simp) (by omega) 1).trans (World.cell?_alloc_new ..); have HV2 := hid hV2; have HT2 := hid ht2; have HL2 := hid hl2; clear hV2 ht2 hl2)
          | (go_at_call 18; refine (clear_some HV2.out _).mono ?_; rintro e w3 ⟨v3, m3, rfl, hl3, hV3, ht3⟩))
        go_roundw
        case rel =>
          refine ⟨k + 1, by omega, ⟨m3, by rw [hl3, HL2.out, hm], ⟨hV3⟩⟩, ⟨?_⟩, by go_num⟩
          have t := ((hG.out.alloc (.cells #[.int .u8 ka, .int .i64 aa, .int .i64 bb] 31)).touch (fun _ => False)).trans' HT2.out (fun i hi (h : i = b) => by have := HP.out; omega)
          exact (t.trans' ht3 (fun i hi (h : i = b) => by have := HP.out; omega)).gr
        case measure => simp [intOf]; omega
      · obtain ⟨x0, x1, x2⟩ := HX.out
        have hsz := HP.out.1
        have q0 := (hG.out.cell (b := W.heap.size) (by omega) _).trans x0
        have q1 := (hG.out.cell (b := W.heap.size) (by omega) _).trans x1
        have q2 := (hG.out.cell (b := W.heap.size) (by omega) _).trans x2
        clear x0 x1 x2 hsz
        have hmin := run_minB2 Tryd.prog
        have hmax := run_maxB2 Tryd.prog
        have hmin3 := run_minB3 Tryd.prog
        have hmax3 := run_maxB3 Tryd.prog
        go_upto_region 12 with (fail)
        go_quiet (fail)
        obtain ⟨a1, ha1⟩ : ∃ a, a = min x (min y z) := ⟨_, rfl⟩
        obtain ⟨b1, hb1⟩ : ∃ b, b = max (min x y) (min (max x y) z) := ⟨_, rfl⟩
        obtain ⟨c1, hc1⟩ : ∃ c, c = max x (max y z) := ⟨_, rfl⟩
        rw [← ha1, ← hb1, ← hc1]
        have hab : a1 ≤ b1 := by omega
        have hbc : b1 ≤ c1 := by omega
        have hbx : a1 ≤ 9223372036854775807 ∧ b1 ≤ 9223372036854775807 := by have := HXB.out; omega
        have hsum := countL_add m hab hbc
        have HB := hid hbx
        have hall : countL m 0 ((n : Int) + 1) = cnt (at_ m) m.length := countL_all m (by omega)
        obtain ⟨N, hN⟩ : ∃ N, N = countL m 0 ((n : Int) + 1) := ⟨_, rfl⟩
        have hNm : N = cnt (at_ m) m.length := hN.trans hall
        have hNn : N ≤ n + 1 := by rw [hNm, ← hm]; exact cnt_le _ _
        obtain ⟨ux, hux⟩ : ∃ u : Nat, IntKind.u64.wrap x = (u : Int) := ⟨(IntKind.u64.wrap x).toNat, by rw [IntKind.wrap_u64]; omega⟩
        obtain ⟨q, hq⟩ : ∃ q : Nat, q = ux % (N + 1) := ⟨_, rfl⟩
        have hqN : q ≤ N := by have := Nat.mod_lt ux (show 0 < N + 1 by omega); omega
        have hq1 : (ux : Int).tmod ((N : Int) + 1) = (q : Int) := by rw [hq]; rfl
        have hq2 : (ux : Int) % ((N : Int) + 1) = (q : Int) := by rw [hq]; rfl
        have hN' := hN.symm
        have HNm := hid hNm
        have HM := hid hm
        clear hall hN hNm hq hm
        have HVg := hid (fun w' (h : Gr wr w') => hV.out.gr h)
        have HTg := hid (fun w' (h : Gr wr w') => ((HGA.out.trans hG.out).trans h).tab HT.out.lt HT.out)
        have hgr := hid ((Gr.refl wr).drewN nq)
        have HGr := hid (HGA.out.trans hG.out)
        have QX := hid (fun w' (h : Gr wr w') => (h.cell (b := W.heap.size) (by have := hG.out.size; have := HP.out.1; omega) 0).trans q0)
        clear ha1 hb1 hc1 hab hbc hbx hmin hmax hmin3 hmax3 q0 q1 q2
        have hsumN : countL m a1 b1 + countL m b1 c1 = countL m a1 c1 := by omega
        have hml : m.length ≤ 65536 := by have := HM.out; omega
        have hcl1 : countL m a1 b1 ≤ 65536 := by have := cnt_le (inRun m a1 b1) m.length; unfold countL; omega
        have hcl2 : countL m b1 c1 ≤ 65536 := by have := cnt_le (inRun m b1 c1) m.length; unfold countL; omega
        rcases Nat.lt_or_ge q N with hqn | hqn
        · have HPL := hid (pick_lt_all (l := m) (q := q) (by rw [← HNm.out]; exact hqn))
          have hne : ((q : Int) == (N : Int)) = false := by simp; omega
          obtain ⟨r, hr⟩ : ∃ r, r = pickL m q := ⟨_, rfl⟩
          rw [← hr] at HPL
          have HR := hid hr
          have he1 : valN m.length r = (r : Int) := valN_yes HPL.out.1
          have he2 : decide (r < m.length) = true := by simp [HPL.out.1]
          have he3 : (decide (0 ≤ (r : Int)) && at_ m (r : Int).toNat) = true := by simp [HPL.out.2.1]
          have he4 : countL m 0 (r : Int) = q := by rw [countL_upto m (by have := HPL.out.1; omega)]; exact HPL.out.2.2
          have HE := hid (And.intro he1 (And.intro he2 (And.intro he3 he4)))
          have hrl : (r : Int) ≤ 65536 := by have := HPL.out.1; omega
          clear hr he1 he2 he3 he4
          go_wp2_with (first
            | (go_at_call 19; refine (count_vec (HVg.out _ hgr.out) _ _ (by have := HB.out; omega)).mono ?_; rintro e w2 ⟨rfl, hg2⟩; replace hgr := hid (hgr.out.trans hg2); clear hg2; have q0 := QX.out _ hgr.out; try rw [HE.out.2.2.2])
            | (go_at_call 20; refine (pick_vec (HVg.out _ hgr.out) q (by omega)).mono ?_; rintro e w2 ⟨rfl, rfl⟩; rw [← HR.out, HE.out.1, HE.out.2.1])
            | (go_at_call 21; refine (test_any (HVg.out _ hgr.out) _).mono ?_; rintro e w2 ⟨rfl, rfl⟩; rw [HE.out.2.2.1])
            | (go_at_call 15; refine (lives11 (HTg.out _ hgr.out)).mono ?_; rintro e w2 ⟨rfl, hg2⟩; replace hgr := hid (hgr.out.trans hg2); clear hg2))
          go_ret
          exact ⟨rfl, HGr.out.trans hgr.out⟩
        · obtain rfl : q = N := by omega
          have hpn := pick_all_none (l := m) (q := q) (by rw [← HNm.out]; exact Nat.le_refl _)
          have he1 : valN m.length (pickL m q) = 0 := valN_no (by omega)
          have he2 : decide (pickL m q < m.length) = false := by simp; omega
          have HE := hid (And.intro he1 he2)
          clear hpn he1 he2
          go_wp2_with (first
            | (go_at_call 19; refine (count_vec (HVg.out _ hgr.out) _ _ (by have := HB.out; omega)).mono ?_; rintro e w2 ⟨rfl, hg2⟩; replace hgr := hid (hgr.out.trans hg2); clear hg2; have q0 := QX.out _ hgr.out)
            | (go_at_call 20; refine (pick_vec (HVg.out _ hgr.out) q (by omega)).mono ?_; rintro e w2 ⟨rfl, rfl⟩; rw [HE.out.1, HE.out.2])
            | (go_at_call 15; refine (lives11 (HTg.out _ hgr.out)).mono ?_; rintro e w2 ⟨rfl, hg2⟩; replace hgr := hid (hgr.out.trans hg2); clear hg2))
          go_ret
          exact ⟨rfl, HGr.out.trans hgr.out⟩
  · have hd : decide ((50 : Int) < (l.length : Int)) = true := by simp; omega
    have HT := hid hT
    clear hT hA hlen hn
    go_enter Tryd.func3, Tryd.ntmps3
    go_wp2_with (go_at_call 15; refine (Gets.at (lives11 (((Gr.refl W).alloc _).tab HT.out.lt HT.out)) ((Gr.refl W).alloc _)).mono ?_; rintro e w2 ⟨rfl, hg⟩)
    go_ret
    exact ⟨rfl, hg⟩
end Go.Proofs.YtlbbkpjfoabobaaDoor
