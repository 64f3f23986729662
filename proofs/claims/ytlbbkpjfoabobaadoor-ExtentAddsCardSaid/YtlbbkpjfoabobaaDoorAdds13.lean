/- ExtentAdds: the walk. -/
import Derived.Test.YtlbbkpjfoabobaaDoorTold13
namespace Go.Proofs.YtlbbkpjfoabobaaDoor
open Go.RowKit Go.Shelf Word
attribute [local go_sem] Oper.semAt_some

theorem over_cut {o : Ob} {n : Nat} (h : o.1 + o.2 ≤ n) {k : Int} (h0 : 0 ≤ k) : over o 0 k + over o k n = over o 0 n := by unfold over; omega
theorem overs_cut {n : Nat} {L : List Ob} (hg : Good n L) {k : Int} (h0 : 0 ≤ k) : overs L 0 k + overs L k n = sizes L := by
  rw [← overs_all hg]
  unfold overs
  have key : ∀ M : List Ob, (∀ o ∈ M, o.1 + o.2 ≤ n) → (M.map fun o => over o 0 k).sum + (M.map fun o => over o k n).sum = (M.map fun o => over o 0 n).sum := by
    intro M
    induction M with
    | nil => intro _; rfl
    | cons o r ih =>
      intro h
      have h2 := over_cut (h o (by simp)) h0
      have h3 := ih (fun q hq => h q (by simp [hq]))
      simp only [List.map_cons, List.sum_cons]
      omega
  exact key L (fun o ho => (hg.sz o ho).2)
/-- Between two rounds over the objects. -/
structure AddI (W0 : World) (X : Nat) (L : List Ob) (j : Nat) (A : World) : Prop where
  t : Touch (fun i => i = X ∨ i = X + 1 ∨ i = X + 1 + 1 ∨ W0.heap.size ≤ i) W0 A
  jl : j ≤ L.length
  c0 : A.cell? ⟨X, 0, none⟩ = some (.int .i64 (sizes (L.take j) : Nat))
  c1 : ∃ last : Int, A.cell? ⟨X + 1, 0, none⟩ = some (.int .i64 last) ∧ -1 ≤ last ∧ last ≤ 1000 ∧ ∀ i (h : i < L.length), j ≤ i → last < L[i].1
  c2 : A.cell? ⟨X + 1 + 1, 0, none⟩ = some (.int .i64 j)
  f0 : A.frozen? ⟨X, 0, none⟩ = false
  f1 : A.frozen? ⟨X + 1, 0, none⟩ = false
  f2 : A.frozen? ⟨X + 1 + 1, 0, none⟩ = false
theorem cut_bd (a : Int) : 0 ≤ wrap64 ((IntKind.u64.wrap a).tmod 1001) ∧ wrap64 ((IntKind.u64.wrap a).tmod 1001) ≤ 1000 := by
  have h : 0 ≤ IntKind.u64.wrap a := by rw [IntKind.wrap_u64]; omega
  rw [Int.tmod_eq_emod_of_nonneg h]
  unfold wrap64
  omega
theorem Good.take {n : Nat} {L : List Ob} (h : Good n L) (j : Nat) : Good n (L.take j) := ⟨h.pw.sublist (List.take_sublist ..), fun o ho => h.sz o (List.mem_of_mem_take ho)⟩
theorem three_sets {w : World} {X : Nat} {v0 v1 v2 u0 u1 u2 : Value} (c0 : w.cell? ⟨X, 0, none⟩ = some u0) (c1 : w.cell? ⟨X + 1, 0, none⟩ = some u1) (c2 : w.cell? ⟨X + 1 + 1, 0, none⟩ = some u2)
    (f0 : w.frozen? ⟨X, 0, none⟩ = false) (f1 : w.frozen? ⟨X + 1, 0, none⟩ = false) (f2 : w.frozen? ⟨X + 1 + 1, 0, none⟩ = false) {A B C : World} (hA : A = w.setCell ⟨X, 0, none⟩ v0) (hB : B = A.setCell ⟨X + 1, 0, none⟩ v1) (hC : C = B.setCell ⟨X + 1 + 1, 0, none⟩ v2) :
    Touch (fun i => i = X ∨ i = X + 1 ∨ i = X + 1 + 1) w C ∧ (A.cell? ⟨X + 1, 0, none⟩ = some u1 ∧ A.frozen? ⟨X + 1, 0, none⟩ = false) ∧ (B.cell? ⟨X + 1 + 1, 0, none⟩ = some u2 ∧ B.frozen? ⟨X + 1 + 1, 0, none⟩ = false) ∧
      (C.cell? ⟨X, 0, none⟩ = some v0 ∧ C.cell? ⟨X + 1, 0, none⟩ = some v1 ∧ C.cell? ⟨X + 1 + 1, 0, none⟩ = some v2) ∧ C.frozen? ⟨X, 0, none⟩ = false ∧ C.frozen? ⟨X + 1, 0, none⟩ = false ∧ C.frozen? ⟨X + 1 + 1, 0, none⟩ = false := by
  have tA : Touch (fun i => i = X) w A := by rw [hA]; exact (Touch.refl (fun i => i = X) w).setCell (a := ⟨X, 0, none⟩) (fun _ => rfl) _
  have tB : Touch (fun i => i = X + 1) A B := by rw [hB]; exact (Touch.refl (fun i => i = X + 1) A).setCell (a := ⟨X + 1, 0, none⟩) (fun _ => rfl) _
  have tC : Touch (fun i => i = X + 1 + 1) B C := by rw [hC]; exact (Touch.refl (fun i => i = X + 1 + 1) B).setCell (a := ⟨X + 1 + 1, 0, none⟩) (fun _ => rfl) _
  have a0 : A.cell? ⟨X, 0, none⟩ = some v0 := by rw [hA]; exact World.cell?_setCell_same' w ⟨X, 0, none⟩ v0 (by rw [c0]; rfl)
  have a1 := (tA.cell (lt_cell c1) (by show ¬ X + 1 = X; omega) 0).trans c1
  have a2 := (tA.cell (lt_cell c2) (by show ¬ X + 1 + 1 = X; omega) 0).trans c2
  have g0 : A.frozen? ⟨X, 0, none⟩ = false := by rw [hA, World.frozen?_setCell]; exact f0
  have g1 := (tA.frozen (lt_cell c1) (by show ¬ X + 1 = X; omega) 0).trans f1
  have g2 := (tA.frozen (lt_cell c2) (by show ¬ X + 1 + 1 = X; omega) 0).trans f2
  have b0 := (tB.cell (lt_cell a0) (by show ¬ X = X + 1; omega) 0).trans a0
  have b1 : B.cell? ⟨X + 1, 0, none⟩ = some v1 := by rw [hB]; exact World.cell?_setCell_same' A ⟨X + 1, 0, none⟩ v1 (by rw [a1]; rfl)
  have b2 := (tB.cell (lt_cell a2) (by show ¬ X + 1 + 1 = X + 1; omega) 0).trans a2
  have h0 := (tB.frozen (lt_cell a0) (by show ¬ X = X + 1; omega) 0).trans g0
  have h1 : B.frozen? ⟨X + 1, 0, none⟩ = false := by rw [hB, World.frozen?_setCell]; exact g1
  have h2 := (tB.frozen (lt_cell a2) (by show ¬ X + 1 + 1 = X + 1; omega) 0).trans g2
  have d0 := (tC.cell (lt_cell b0) (by show ¬ X = X + 1 + 1; omega) 0).trans b0
  have d1 := (tC.cell (lt_cell b1) (by show ¬ X + 1 = X + 1 + 1; omega) 0).trans b1
  have d2 : C.cell? ⟨X + 1 + 1, 0, none⟩ = some v2 := by rw [hC]; exact World.cell?_setCell_same' B ⟨X + 1 + 1, 0, none⟩ v2 (by rw [b2]; rfl)
  have k0 := (tC.frozen (lt_cell b0) (by show ¬ X = X + 1 + 1; omega) 0).trans h0
  have k1 := (tC.frozen (lt_cell b1) (by show ¬ X + 1 = X + 1 + 1; omega) 0).trans h1
  have k2 : C.frozen? ⟨X + 1 + 1, 0, none⟩ = false := by rw [hC, World.frozen?_setCell]; exact h2
  exact ⟨((tA.mono (fun k _ h => .inl h)).trans (tB.mono (fun k _ h => .inr (.inl h)))).trans (tC.mono (fun k _ h => .inr (.inr h))), ⟨a1, g1⟩, ⟨b2, h2⟩, ⟨d0, d1, d2⟩, k0, k1, k2⟩
set_option maxRecDepth 100000 in
set_option maxHeartbeats 3200000 in
theorem adds13_in {W : World} (hT : TabAt W) (A0 : Option Addr) (cap : Nat) (l : List ActD) (hA : ActsAt W A0 l) (h80 : l.length ≤ 80) (cut : Int) (stop : Nat) (hs : stop ≤ 255) :
    Gets Tryd.prog 8 #[.slice A0 l.length cap, .int .i64 cut, .int .u8 stop] W (.bool true) := by
  have HT := hid hT
  have HA := hid hA
  have hTl := hT.lt
  have d2 : decide ((80 : Int) < (l.length : Int)) = false := by simp; omega
  clear hT hA
  unfold Gets
  refine (callsIn_wide (n := 5)).1 ?_
  refine callsIn_of_wp_marks Tryd.func8 rfl trivial ?_ rfl
  simp only [Tryd.ntmps8, List.size_toArray, List.length_cons, List.length_nil, Nat.reduceAdd, Nat.reduceSub, Array.replicate_succ, Array.replicate_zero, List.push_toArray, List.append_toArray, List.nil_append, List.cons_append]
  gi_wp2_with (first
    | (refine ⟨trivial, ?_⟩; gi_at_call 41; refine (callsIn_wide.2 (ext_new 1000 (by decide) (by decide) _)).mono ?_; rintro e w1 ⟨m, p1, b1, p2, b2, rfl, hg1, hE1, hx1, hx2, hx3, hx4, hx5⟩; have HG1 := hid hg1; have HE1 := hid hE1; have HX := hid (And.intro hx1 (And.intro hx2 (And.intro hx3 (And.intro hx4 hx5)))); clear hg1 hE1 hx1 hx2 hx3 hx4 hx5))
  obtain ⟨s, hsz⟩ : ∃ s, s = W.heap.size := ⟨_, rfl⟩
  obtain ⟨Wt, hWt⟩ : ∃ Wt, Wt = (W.alloc (.cells #[.int .u8 stop] 5)).alloc (.cells #[.bool false] 4) := ⟨_, rfl⟩
  have hgt : Gr W Wt := by rw [hWt]; exact ((Gr.refl W).alloc _).alloc _
  have hst : Wt.heap.size = s + 2 := by rw [hWt, hsz]; simp
  have tS : Boxed Wt s 5 (.int .u8 stop) := by rw [hWt, hsz]; exact (Boxed.new W _ _).alloc _
  have tR : Boxed Wt (s + 1) 4 (.bool false) := by
    rw [hWt, hsz]
    have := Boxed.new (W.alloc (.cells #[.int .u8 stop] 5)) 4 (.bool false)
    rwa [World.size_alloc] at this
  rw [← hWt] at HG1 HX
  obtain ⟨W2, hW2⟩ : ∃ W2, W2 = w1.alloc (.cells #[.pointer (some ⟨m, 0, none⟩)] 61) := ⟨_, rfl⟩
  have hg2 : Gr w1 W2 := by rw [hW2]; exact (Gr.refl w1).alloc _
  have hs2 : W2.heap.size = w1.heap.size + 1 := by rw [hW2]; simp
  have u7 : W2.cell? ⟨w1.heap.size, 0, none⟩ = some (.pointer (some ⟨m, 0, none⟩)) := by rw [hW2]; exact (Boxed.new w1 _ _).cell
  have HG2 := hid ((hgt.trans HG1.out).trans hg2)
  have HE2 := hid (HE1.out.gr hg2)
  have hs1 := HG1.out.size
  have HZ := hid (show s + 2 ≤ m ∧ s + 2 ≤ p1 ∧ s + 2 ≤ b1 ∧ s + 2 ≤ p2 ∧ s + 2 ≤ b2 ∧ m < w1.heap.size ∧ p1 < w1.heap.size ∧ b1 < w1.heap.size ∧ p2 < w1.heap.size ∧ b2 < w1.heap.size ∧ w1.heap.size + 1 = W2.heap.size ∧ s + 2 ≤ w1.heap.size from by
    have := HX.out; have := HE1.out.hm; have := HE1.out.v1.hp; have := HE1.out.v1.hb; have := HE1.out.v2.hp; have := HE1.out.v2.hb; omega)
  have HC2 := hid (show W2.cell? ⟨s, 0, none⟩ = some (.int .u8 stop) ∧ W2.cell? ⟨s + 1, 0, none⟩ = some (.bool false) ∧ W2.frozen? ⟨s + 1, 0, none⟩ = false ∧ W2.cell? ⟨w1.heap.size, 0, none⟩ = some (.pointer (some ⟨m, 0, none⟩)) from by
    have hh := HG1.out.trans hg2
    exact ⟨(hh.cell (by omega) _).trans tS.cell, (hh.cell (by omega) _).trans tR.cell, (hh.frozen (by omega) _).trans tR.frozen, u7⟩)
  have HSZ := hid hsz
  rw [← hW2, ← hsz]
  clear hgt hst tS tR hWt hW2 hg2 hs2 u7 hs1 hsz HX HG1 HE1
  gi_loopw [32] (fun i wr => ∃ (k : Nat) (L : List Ob), k ≤ l.length ∧ Hid (Ext wr m p1 b1 p2 b2 1000 L) ∧ Hid (Touch (mine m b1 b2) W2 wr) ∧ i = .int .i64 k) (fun i _ => l.length - (intOf i).toNat)
  case atStart => exact ⟨0, [], by omega, HE2, ⟨Touch.refl _ _⟩, rfl⟩
  case round =>
    rename World => wa
    obtain ⟨k, L, hk, hE, hTc, rfl⟩ := hrel
    have HG := hid ((HG2.out.touch (fun _ => False)).trans' hTc.out (fun i hi h => by have := HZ.out; have := HSZ.out; unfold mine at h; omega)).gr
    have c7 := (hTc.out.cell (b := w1.heap.size) (by have := HZ.out; omega) (by have := HZ.out; unfold mine; omega) 0).trans HC2.out.2.2.2
    by_cases hlt : k < l.length
    · obtain ⟨hok, ab, ao, rfl, hab, c0, c1, c2⟩ := HA.out k hlt
      have q0 := (HG.out.cell hab _).trans c0
      have q1 := (HG.out.cell hab _).trans c1
      have q2 := (HG.out.cell hab _).trans c2
      clear c0 c1 c2 hok
      generalize l[k] = act at *
      obtain ⟨ka, aa, bb⟩ := act
      simp only [] at q0 q1 q2
      have HGA := hid ((Gr.refl wa).alloc (.cells #[.int .u8 ka, .int .i64 aa, .int .i64 bb] 64))
      have HTA := hid ((HG.out.trans HGA.out).tab HT.out.lt HT.out)
      have c7' := (HGA.out.cell (lt_cell c7) 0).trans c7
      gi_wp2_with (first
        | (refine ⟨trivial, ?_⟩; gi_at_call 42; refine (callsIn_wide.2 (ext_add (hE.out.gr HGA.out) HTA.out _ _)).mono ?_; rintro e w3 ⟨rfl, ht3, hE3⟩; have HE3 := hid hE3; have HT3 := hid ht3; clear ht3 hE3))
      go_roundw
      case rel => exact ⟨k + 1, _, by omega, HE3, ⟨(hTc.out.trans (HGA.out.touch _)).trans HT3.out⟩, by go_num⟩
      case measure => simp [intOf]; omega
    · have HGA := hid ((((Gr.refl wa).alloc (.cells #[.int .i64 0] 3)).alloc (.cells #[.int .i64 (-1)] 3)).alloc (.cells #[.int .i64 0] 3))
      have c7' := (HGA.out.cell (lt_cell c7) 0).trans c7
      gi_wp2_with (first
        | (refine ⟨trivial, ?_⟩; gi_at_call 43; refine (callsIn_wide.2 (all_call (some ⟨m, 0, none⟩))).mono ?_; rintro e w4 ⟨rfl, rfl⟩))
      obtain ⟨ck, hck⟩ : ∃ c, c = wrap64 ((IntKind.u64.wrap cut).tmod 1001) := ⟨_, rfl⟩
      have hcb := cut_bd cut
      rw [← hck] at hcb
      obtain ⟨hc0, hc1⟩ := hcb
      rw [← hck]
      clear hck
      obtain ⟨X, hX⟩ : ∃ X, X = wa.heap.size := ⟨_, rfl⟩
      obtain ⟨W0, hW0⟩ : ∃ W0, W0 = ((((wa.alloc (.cells #[.int .i64 0] 3)).alloc (.cells #[.int .i64 (-1)] 3)).alloc (.cells #[.int .i64 0] 3)).alloc (.cells #[.pointer (some ⟨m, 0, none⟩)] 61)) := ⟨_, rfl⟩
      have hg0 : Gr wa W0 := by rw [hW0]; exact HGA.out.alloc _
      have hs0 : W0.heap.size = X + 4 := by rw [hW0, hX]; simp
      have e0 : Boxed W0 X 3 (.int .i64 0) := by rw [hW0, hX]; exact (((Boxed.new wa _ _).alloc _).alloc _).alloc _
      have e1 : Boxed W0 (X + 1) 3 (.int .i64 (-1)) := by
        rw [hW0, hX]
        have := Boxed.new (wa.alloc (.cells #[.int .i64 0] 3)) 3 (.int .i64 (-1))
        rw [World.size_alloc] at this
        exact (this.alloc _).alloc _
      have e2 : Boxed W0 (X + 1 + 1) 3 (.int .i64 0) := by
        rw [hW0, hX]
        have := Boxed.new ((wa.alloc (.cells #[.int .i64 0] 3)).alloc (.cells #[.int .i64 (-1)] 3)) 3 (.int .i64 0)
        rw [World.size_alloc, World.size_alloc] at this
        exact this.alloc _
      have e3 : W0.cell? ⟨X + 1 + 1 + 1, 0, none⟩ = some (.pointer (some ⟨m, 0, none⟩)) := by
        rw [hW0, hX]
        have := Boxed.new (((wa.alloc (.cells #[.int .i64 0] 3)).alloc (.cells #[.int .i64 (-1)] 3)).alloc (.cells #[.int .i64 0] 3)) 61 (.pointer (some ⟨m, 0, none⟩))
        rw [World.size_alloc, World.size_alloc, World.size_alloc] at this
        exact this.cell
      have hwl := hTc.out.size
      have HL := hid (show W2.heap.size ≤ X ∧ W0.heap.size = X + 4 from ⟨by omega, hs0⟩)
      have HE0 := hid (hE.out.gr hg0)
      have HG0 := hid (HG.out.trans hg0)
      have HC0 := hid (show W0.cell? ⟨s, 0, none⟩ = some (.int .u8 stop) ∧ W0.cell? ⟨s + 1, 0, none⟩ = some (.bool false) ∧ W0.frozen? ⟨s + 1, 0, none⟩ = false ∧ W0.cell? ⟨w1.heap.size, 0, none⟩ = some (.pointer (some ⟨m, 0, none⟩)) from by
        have z := HZ.out
        have tc := fun {k : Nat} (hk : k < W2.heap.size) (h1 : ¬ mine m b1 b2 k) (o : Nat) => (hg0.cell (b := k) (by omega) o).trans (hTc.out.cell (b := k) hk h1 o)
        have tf := fun {k : Nat} (hk : k < W2.heap.size) (h1 : ¬ mine m b1 b2 k) (o : Nat) => (hg0.frozen (b := k) (by omega) o).trans (hTc.out.frozen (b := k) hk h1 o)
        exact ⟨(tc (by omega) (by unfold mine; omega) 0).trans HC2.out.1, (tc (by omega) (by unfold mine; omega) 0).trans HC2.out.2.1, (tf (by omega) (by unfold mine; omega) 0).trans HC2.out.2.2.1, (tc (by omega) (by unfold mine; omega) 0).trans HC2.out.2.2.2⟩)
      have HE3 := hid e3
      have h00 : AddI W0 X L 0 W0 := ⟨Touch.refl _ _, Nat.zero_le _, e0.cell, ⟨-1, e1.cell, by omega, by omega, fun i h _ => by omega⟩, e2.cell, e0.frozen, e1.frozen, e2.frozen⟩
      have HI0 := hid h00
      have hgood := HE0.out.good
      rw [← hW0, ← hX]
      clear hX hW0 hg0 hs0 e0 e1 e2 e3 h00 c7 c7' HGA hwl hE hTc HE2
      have tI : ∀ j A B, AddI W0 X L j A → Touch (fun i => W0.heap.size ≤ i) A B → AddI W0 X L j B := fun j A B h t => by
        have ht := h.t.size
        have hl := HL.out
        exact ⟨h.t.trans (t.mono (fun i _ h => .inr (.inr (.inr h)))), h.jl, (t.cell (by omega) (by omega) 0).trans h.c0, by
          obtain ⟨last, h1, h2⟩ := h.c1
          exact ⟨last, (t.cell (by omega) (by omega) 0).trans h1, h2⟩, (t.cell (by omega) (by omega) 0).trans h.c2, (t.frozen (by omega) (by omega) 0).trans h.f0, (t.frozen (by omega) (by omega) 0).trans h.f1, (t.frozen (by omega) (by omega) 0).trans h.f2⟩
      refine range_lawT (s0 := 0) rfl (by omega) (gf := 91) (lb := #[.pointer (some ⟨X + 1 + 1 + 1, 0, none⟩)]) rfl trivial (enters_of Tryd.func91 (by kernel_rfl) rfl)
        (all_seq _ (X + 1 + 1 + 1) m p1 b1 p2 b2 1000 L _) (fun _ => rfl)
        (AddI W0 X L)
        (fun c A => c = .ret ∧ Touch (fun i => i = s + 1 ∨ i = X ∨ i = X + 1 ∨ i = X + 1 + 1 ∨ W0.heap.size ≤ i) W0 A ∧ A.cell? ⟨s + 1, 0, none⟩ = some (.bool true))
        tI
        (fun c A B h t => by
          have ht := h.2.1.size
          have z := HZ.out
          have hl := HL.out
          exact ⟨h.1, h.2.1.trans (t.mono (fun i _ h => .inr (.inr (.inr (.inr h))))), (t.cell (by omega) (by omega) 0).trans h.2.2⟩)
        (fun j A h => by
          have z := HZ.out
          have hl := HL.out
          exact ⟨HE0.out.touch h.t (by omega) (by omega) (by omega) (by omega) (by omega), (HG0.out.tab HT.out.lt HT.out).touch' h.t (by omega), (h.t.cell (by omega) (by omega) 0).trans HE3.out, h.jl⟩)
        HI0.out ?round ?done ?stop
      case round =>
        intro lp j x W3 hsz3 hI3 hgv
        dsimp only [encO]
        gi_wp2
        refine ⟨Gr.refl _, fun W4 ht4 hI4 => ?_⟩
        have hjl : j < L.length := by
          rcases Nat.lt_or_ge j L.length with h | h
          · exact h
          · unfold AllGives at hgv; rw [List.getElem?_eq_none h] at hgv; cases hgv
        obtain rfl : x = L[j] := by unfold AllGives at hgv; rw [List.getElem?_eq_getElem hjl] at hgv; exact (Option.some.inj hgv).symm
        have hsz' := hgood.sz _ (List.getElem_mem hjl)
        have htk := sizes_take hjl
        have hal := sizes_le (hgood.take (j + 1))
        have hov := fun i (hi : i ≤ L[j].2) => overs_upto hgood hjl hi
        have hwt := fun i (hi : i < L[j].2) => wordO_take hjl hi
        obtain ⟨last, hl1, hl2, hl3, hl4⟩ := hI4.c1
        have hla := hl4 j hjl (Nat.le_refl _)
        have HNX : Hid (∀ i (h : i < L.length), j + 1 ≤ i → ((L[j].1 : Int) + (L[j].2 : Int) - 1) < (L[i].1 : Nat)) := ⟨fun i h hi => by
          have := hgood.at hjl h hi; omega⟩
        have c0 := hI4.c0
        have c2 := hI4.c2
        have f0 := hI4.f0
        have f1 := hI4.f1
        have f2 := hI4.f2
        have hjl' := hgood.len
        obtain ⟨sj, hsj⟩ : ∃ s, s = L[j].1 := ⟨_, rfl⟩
        obtain ⟨zj, hzj⟩ : ∃ s, s = L[j].2 := ⟨_, rfl⟩
        obtain ⟨al, hal0⟩ : ∃ a, a = sizes (L.take j) := ⟨_, rfl⟩
        rw [← hsj] at hla
        rw [← hsj, ← hzj] at hsz' hwt HNX ⊢
        rw [← hsj, ← hzj, ← hal0] at hov
        rw [← hal0] at c0 hwt htk
        rw [← hzj] at htk
        rw [htk] at hal
        have HTK := hid htk
        have HOV := hid hov
        have HWT := hid hwt
        have HTT := hid hI4.t
        have hz := HZ.out
        have hl := HL.out
        have hs4 := hI4.t.size
        have HE4 := hid (HE0.out.touch hI4.t (by omega) (by omega) (by omega) (by omega) (by omega))
        have HT4 := hid (((HG0.out.tab HT.out.lt HT.out)).touch' hI4.t (by have := HT.out.lt; have := HSZ.out; omega))
        have c7 := (hI4.t.cell (b := w1.heap.size) (by omega) (by omega) 0).trans HC0.out.2.2.2
        have cst := (hI4.t.cell (b := s) (by omega) (by omega) 0).trans HC0.out.1
        have cR := (hI4.t.cell (b := s + 1) (by omega) (by omega) 0).trans HC0.out.2.1
        have fR := (hI4.t.frozen (b := s + 1) (by omega) (by omega) 0).trans HC0.out.2.2.1
        have HC4 := hid (And.intro c0 (And.intro c2 (And.intro f0 (And.intro f1 (And.intro f2 (And.intro cst (And.intro cR (And.intro fR (And.intro c7 hl1)))))))))
        have d5 : decide ((sj : Int) ≤ last) = false := by simp; omega
        have d6 : decide ((zj : Int) < 1) = false := by simp; omega
        have d7 : decide ((1000 : Int) < (sj : Int) + (zj : Int)) = false := by simp; omega
        have hb1 : (sj : Int) + (zj : Int) ≤ 1000 ∧ 0 ≤ (sj : Int) + (zj : Int) := by omega
        clear hov hwt htk hsj hzj hal0 hl4 hI4 hI3 ht4 hsz3 hgv f0 f1 f2 cst cR fR c2
        gi_wp2
        gi_loopw [71] (fun i wr => ∃ r : Nat, r ≤ zj ∧ Hid (Gr W4 wr) ∧ i = .int .i64 r) (fun i _ => zj - (intOf i).toNat)
        case atStart => exact ⟨0, Nat.zero_le _, ⟨Gr.refl _⟩, rfl⟩
        case round =>
          rename World => wr
          obtain ⟨r, hr, hgr, rfl⟩ := hrel
          have hsr := hgr.out.size
          by_cases hrz : r < zj
          · have c7r := (hgr.out.cell (lt_cell c7) 0).trans c7
            have c0r := (hgr.out.cell (lt_cell c0) 0).trans c0
            have E1 : Hid (wordV L ((al : Int) + (r : Int)) = (sj : Int) + (r : Int) ∧ wordY L ((al : Int) + (r : Int)) = true) := ⟨by
              have := HWT.out r hrz
              have e : ((al : Int) + (r : Int)).toNat = al + r := by omega
              unfold wordV wordY
              rw [if_neg (by omega), e, this, decide_eq_true (by omega)]
              exact ⟨by simp, rfl⟩⟩
            have E2 : Hid (overs L 0 ((sj : Int) + (r : Int)) = (al : Int) + (r : Int)) := ⟨HOV.out r (by omega)⟩
            have HTR := hid (hgr.out.tab HT4.out.lt HT4.out)
            gi_upto_region 22 with (refine ⟨trivial, ?_⟩; gi_at_call 44; refine (CallsIn.inRound lp (callsIn_wide.2 (ext_word (HE4.out.gr hgr.out) HTR.out _ (by omega)))).mono ?_; rintro e w5 ⟨rfl, hg5⟩; rw [E1.out.1, E1.out.2]; have HG5 := hid (hgr.out.trans hg5); have c75 := (hg5.cell (lt_cell c7r) 0).trans c7r; have c05 := (hg5.cell (lt_cell c0r) 0).trans c0r; clear hg5)
            obtain ⟨Sx, hSx⟩ : ∃ S : World → Prop, S = fun A => A.cell? ⟨w1.heap.size, 0, none⟩ = some (.pointer (some ⟨m, 0, none⟩)) ∧ A.cell? ⟨X, 0, none⟩ = some (.int .i64 (al : Nat)) := ⟨_, rfl⟩
            have x1 : ∀ p : Held Sx, p.w.cell? ⟨w1.heap.size, 0, none⟩ = some (.pointer (some ⟨m, 0, none⟩)) := fun p => (Held.get hSx p).1
            have x2 : ∀ p : Held Sx, p.w.cell? ⟨X, 0, none⟩ = some (.int .i64 (al : Nat)) := fun p => (Held.get hSx p).2
            have hS0 : Sx w5.drew := by rw [hSx]; exact ⟨c75, c05⟩
            have HTR5 := hid ((HG5.out.drew).tab HT4.out.lt HT4.out)
            have HER5 := hid (HE4.out.gr HG5.out.drew)
            clear hSx
            have inst : Inhabited (Held Sx) := ⟨⟨_, hS0⟩⟩
            refine wpIn_region_mixS Sx 18 [([0, 1, 2, 3, 4, 5, 6, 7, 8, 9, 10, 11, 13, 14, 15], 12)] [16, 17] (fun _ => trivial) (by kernel_rfl) (by kernel_rfl) hS0 ?_
            refine segsIn_step ?_
            simp only [opsAt, List.getElem?_cons_zero, List.getElem?_cons_succ]
            repeat (go_big_quiet_step (fail))
            refine wpQuiet_nil ?_
            gi_wp2_with (refine ⟨trivial, ?_⟩; gi_at_call 45; refine (CallsIn.inRound lp (callsIn_wide.2 (ext_live HER5.out HTR5.out 0 _ (by decide) (by omega)))).mono ?_; rintro e w6 ⟨rfl, rfl⟩; rw [E2.out])
            refine ⟨.inr (Held.of hS0), ?_⟩
            refine segsIn_end ?_
            simp only [opsAt, List.getElem?_cons_zero, List.getElem?_cons_succ]
            repeat (go_big_quiet_step (fail))
            refine wpQuiet_nil ?_
            refine NoPanic.normal ?_
            clear x1 x2 hS0 inst
            clear Sx
            gi_wp2
            go_roundw
            case rel => exact ⟨r + 1, by omega, ⟨HG5.out.drew⟩, by go_num⟩
            case measure => simp [intOf]; omega
          · obtain rfl : r = zj := by omega
            have hg := hgr.out
            have k0 := (hg.cell (b := X) (lt_cell HC4.out.1) 0).trans HC4.out.1
            have k2 := (hg.cell (b := X + 1 + 1) (lt_cell HC4.out.2.1) 0).trans HC4.out.2.1
            have kf0 := (hg.frozen (b := X) (lt_cell HC4.out.1) 0).trans HC4.out.2.2.1
            have k1 := (hg.cell (b := X + 1) (lt_cell HC4.out.2.2.2.2.2.2.2.2.2) 0).trans HC4.out.2.2.2.2.2.2.2.2.2
            have kf1 := (hg.frozen (b := X + 1) (lt_cell HC4.out.2.2.2.2.2.2.2.2.2) 0).trans HC4.out.2.2.2.1
            have kf2 := (hg.frozen (b := X + 1 + 1) (lt_cell HC4.out.2.1) 0).trans HC4.out.2.2.2.2.1
            have kst := (hg.cell (b := s) (lt_cell HC4.out.2.2.2.2.2.1) 0).trans HC4.out.2.2.2.2.2.1
            have kR := (hg.cell (b := s + 1) (lt_cell HC4.out.2.2.2.2.2.2.1) 0).trans HC4.out.2.2.2.2.2.2.1
            have kfR := (hg.frozen (b := s + 1) (lt_cell HC4.out.2.2.2.2.2.2.1) 0).trans HC4.out.2.2.2.2.2.2.2.1
            obtain ⟨tt, ⟨a1, af1⟩, ⟨y2, yf2⟩, ⟨e0, e1, e2⟩, ef0, ef1, ef2⟩ := three_sets (X := X) (v0 := .int .i64 ((al : Int) + (r : Int))) (v1 := .int .i64 ((sj : Int) + (r : Int) - 1)) (v2 := .int .i64 ((j : Int) + 1)) k0 k1 k2 kf0 kf1 kf2 rfl rfl rfl
            have hwr := hg.size
            have est := (tt.cell (b := s) (lt_cell kst) (by omega) 0).trans kst
            have eR := (tt.cell (b := s + 1) (lt_cell kR) (by omega) 0).trans kR
            have eRf := (tt.frozen (b := s + 1) (lt_cell kR) (by omega) 0).trans kfR
            have HTC := hid ((hg.tab HT4.out.lt HT4.out).touch' tt (by omega))
            have TW := hid ((HTT.out.trans (hg.touch _)).trans (tt.mono (T := fun i => i = X ∨ i = X + 1 ∨ i = X + 1 + 1 ∨ W0.heap.size ≤ i) (fun i _ h => by omega)))
            have TB := hid ((hg.touch (fun k => k < W0.heap.size)).trans (tt.mono (T := fun k => k < W0.heap.size) (fun i _ h => by omega)))
            have HEE := hid (And.intro e0 (And.intro e1 (And.intro e2 (And.intro ef0 (And.intro ef1 ef2)))))
            clear hg tt e0 e1 ef0 ef1 ef2
            by_cases hst : j + 1 = stop
            · have d8 : (((j : Int) + 1) == (stop : Int)) = true := by simp; omega
              clear hst
              gi_wp2_with (refine ⟨trivial, ?_⟩; gi_at_call 40; refine (CallsIn.inRound lp (callsIn_wide.2 (lives13 HTC.out))).mono ?_; rintro e w8 ⟨rfl, hg8⟩; have HG8 := hid hg8; have r8 := (hg8.cell (b := s + 1) (lt_cell eR) 0).trans eR; have rf8 := (hg8.frozen (b := s + 1) (lt_cell eR) 0).trans eRf; clear hg8)
              have t89 : Touch (fun i => i = s + 1) w8 (w8.setCell ⟨s + 1, 0, none⟩ (.bool true)) := (Touch.refl (fun i => i = s + 1) _).setCell (a := ⟨s + 1, 0, none⟩) (fun _ => rfl) _
              refine ⟨(TB.out.trans (HG8.out.touch _)).trans' t89 (fun i hi h => by show i < W0.heap.size; omega), rfl, ?_, World.cell?_setCell_same' w8 ⟨s + 1, 0, none⟩ (.bool true) (by rw [r8]; rfl)⟩
              exact ((TW.out.trans (HG8.out.touch _)).mono (fun k hk h => .inr h)).trans' t89 (fun i hi h => .inl h)
            · have d8 : (((j : Int) + 1) == (stop : Int)) = false := beq_eq_false_iff_ne.2 (by omega)
              clear hst
              gi_wp2
              exact ⟨TB.out, j + 1, rfl, TW.out, by omega, by rw [HTK.out]; push_cast; exact HEE.out.1, ⟨_, HEE.out.2.1, by omega, by omega, HNX.out⟩, by push_cast; exact HEE.out.2.2.1, HEE.out.2.2.2.1, HEE.out.2.2.2.2.1, HEE.out.2.2.2.2.2⟩
      case done =>
        rintro D j W3 hD rfl hI3 hK
        have c0 := hI3.c0
        rw [List.take_length] at c0
        obtain ⟨al, hal⟩ : ∃ a, a = sizes L := ⟨_, rfl⟩
        have hcut : overs L 0 ck + overs L ck 1000 = sizes L := overs_cut hgood hc0
        have hall : overs L 0 1000 = sizes L := overs_all hgood
        have hb1 := overs_bd hgood (by decide) L.length 0 ck
        have hb2 := overs_bd hgood (by decide) L.length ck 1000
        rw [List.take_length] at hb1 hb2
        have hle := sizes_le hgood
        have hlen := hgood.len
        rw [← hal] at c0 hcut hall hle
        obtain ⟨o1, ho1⟩ : ∃ o, o = overs L 0 ck := ⟨_, rfl⟩
        obtain ⟨o2, ho2⟩ : ∃ o, o = overs L ck 1000 := ⟨_, rfl⟩
        rw [← ho1] at hcut hb1
        rw [← ho2] at hcut hb2
        have E1 := hid ho1.symm
        have E2 := hid ho2.symm
        have E3 := hid hall
        have d8 : ((o1 + o2) == (al : Int)) = true := by simp; omega
        have c2 := hI3.c2
        have hz := HZ.out
        have hl := HL.out
        have hs3 := hI3.t.size
        have c7 := (hI3.t.cell (b := w1.heap.size) (by omega) (by omega) 0).trans HC0.out.2.2.2
        have cR := (hI3.t.cell (b := s + 1) (by omega) (by omega) 0).trans HC0.out.2.1
        have fR := (hI3.t.frozen (b := s + 1) (by omega) (by omega) 0).trans HC0.out.2.2.1
        have HE5 := hid ((HE0.out.touch hI3.t (by omega) (by omega) (by omega) (by omega) (by omega)).gr (Gr.refl W3).drew)
        have HT5 := hid ((Gr.refl W3).drew.tab ((HG0.out.tab HT.out.lt HT.out).touch' hI3.t (by have := HT.out.lt; have := HSZ.out; omega)).lt ((HG0.out.tab HT.out.lt HT.out).touch' hI3.t (by have := HT.out.lt; have := HSZ.out; omega)))
        have HTT := hid hI3.t
        have HK := hid hK
        have HD := hid hD
        have HCC := hid (And.intro c7 (And.intro c0 (And.intro c2 (And.intro cR fR))))
        obtain ⟨Sx, hSx⟩ : ∃ S : World → Prop, S = fun A => A.cell? ⟨w1.heap.size, 0, none⟩ = some (.pointer (some ⟨m, 0, none⟩)) ∧ A.cell? ⟨X, 0, none⟩ = some (.int .i64 (al : Nat)) ∧ A.cell? ⟨X + 1 + 1, 0, none⟩ = some (.int .i64 (L.length : Nat)) := ⟨_, rfl⟩
        have x1 : ∀ p : Held Sx, p.w.cell? ⟨w1.heap.size, 0, none⟩ = some (.pointer (some ⟨m, 0, none⟩)) := fun p => (Held.get hSx p).1
        have x2 : ∀ p : Held Sx, p.w.cell? ⟨X, 0, none⟩ = some (.int .i64 (al : Nat)) := fun p => (Held.get hSx p).2.1
        have x3 : ∀ p : Held Sx, p.w.cell? ⟨X + 1 + 1, 0, none⟩ = some (.int .i64 (L.length : Nat)) := fun p => (Held.get hSx p).2.2
        have hS0 : Sx W3.drew := by rw [hSx]; exact ⟨c7, c0, c2⟩
        have HSx := hid hSx
        clear hSx hcut hall hal ho1 ho2 hI3 hK hD c7 c0 c2 cR fR
        have inst : Inhabited (Held Sx) := ⟨⟨_, hS0⟩⟩
        gi_upto_region 29 with (fail)
        refine wpIn_region_mixS Sx 24 [([0, 1], 2), ([3, 4, 5, 6, 8, 9, 12], 7), ([], 10), ([11, 13, 14, 15, 16, 18], 17), ([19, 20, 21], 22), ([23], 24)] [] wide_fn (by kernel_rfl) (by kernel_rfl) hS0 ?_
        refine segsIn_step ?_
        simp only [opsAt, List.getElem?_cons_zero, List.getElem?_cons_succ]
        repeat (go_big_quiet_step (fail))
        refine wpQuiet_nil ?_
        gi_wp2_with (refine ⟨trivial, ?_⟩; gi_at_call 46; refine (callsIn_wide.2 (ext_objects HE5.out)).mono ?_; rintro e w6 ⟨rfl, rfl⟩)
        refine ⟨.inr (Held.of hS0), ?_⟩
        refine segsIn_step ?_
        simp only [opsAt, List.getElem?_cons_zero, List.getElem?_cons_succ]
        repeat (go_big_quiet_step (fail))
        refine wpQuiet_nil ?_
        gi_wp2_with (refine ⟨trivial, ?_⟩; gi_at_call 45; refine (callsIn_wide.2 (ext_live HE5.out HT5.out 0 ck (by decide) (by omega))).mono ?_; rintro e w6 ⟨rfl, rfl⟩; rw [E1.out])
        refine ⟨.inr (Held.of hS0), ?_⟩
        refine segsIn_step ?_
        simp only [opsAt, List.getElem?_cons_zero, List.getElem?_cons_succ]
        refine wpQuiet_nil ?_
        gi_wp2_with (refine ⟨trivial, ?_⟩; gi_at_call 45; refine (callsIn_wide.2 (ext_live HE5.out HT5.out ck 1000 (by omega) (by decide))).mono ?_; rintro e w6 ⟨rfl, rfl⟩; rw [E2.out])
        refine ⟨.inr (Held.of hS0), ?_⟩
        refine segsIn_step ?_
        simp only [opsAt, List.getElem?_cons_zero, List.getElem?_cons_succ]
        repeat (go_big_quiet_step (fail))
        refine wpQuiet_nil ?_
        gi_wp2_with (refine ⟨trivial, ?_⟩; gi_at_call 45; refine (callsIn_wide.2 (ext_live HE5.out HT5.out 0 1000 (by decide) (by decide))).mono ?_; rintro e w6 ⟨rfl, rfl⟩; rw [E3.out])
        refine ⟨.inr (Held.of hS0), ?_⟩
        refine segsIn_step ?_
        simp only [opsAt, List.getElem?_cons_zero, List.getElem?_cons_succ]
        repeat (go_big_quiet_step (fail))
        refine wpQuiet_nil ?_
        gi_wp2_with (refine ⟨trivial, ?_⟩; gi_at_call 40; refine (callsIn_wide.2 (lives13 HT5.out)).mono ?_; rintro e w8 ⟨rfl, hg8⟩; have HG8 := hid ((Gr.refl W3).drew.trans hg8); clear hg8)
        have r8 := (HG8.out.cell (b := s + 1) (lt_cell HCC.out.2.2.2.1) 0).trans HCC.out.2.2.2.1
        have rf8 := (HG8.out.frozen (b := s + 1) (lt_cell HCC.out.2.2.2.1) 0).trans HCC.out.2.2.2.2
        refine ⟨.inr (Held.of (by rw [HSx.out]; exact ⟨(HG8.out.cell (lt_cell HCC.out.1) 0).trans HCC.out.1, (HG8.out.cell (lt_cell HCC.out.2.1) 0).trans HCC.out.2.1, (HG8.out.cell (lt_cell HCC.out.2.2.1) 0).trans HCC.out.2.2.1⟩)), ?_⟩
        refine segsIn_step ?_
        simp only [opsAt, List.getElem?_cons_zero, List.getElem?_cons_succ]
        repeat (go_big_quiet_step (fail))
        refine wpQuiet_nil ?_
        gi_wp2
        refine ⟨.inl trivial, ?_⟩
        refine segsIn_end ?_
        simp only [opsAt]
        refine wpQuiet_nil ?_
        refine NoPanic.normal ?_
        clear x1 x2 x3 hS0 HSx inst
        clear Sx
        have hD8 : w8.heap[D]? = some (.deferred (some [])) := (HG8.out.block (Array.getElem?_eq_some_iff.1 HK.out).1).trans HK.out
        have hK8 : (w8.setCell ⟨s + 1, 0, none⟩ (.bool true)).heap[D]? = some (.deferred (some [])) := by
          rw [Below.heap_setCell _ _ _ _ (by have := HD.out; show D ≠ s + 1; omega)]; exact hD8
        gi_wp2
        refine ⟨by simp, .inl ⟨_, _, rfl, run_takeDeferred hK8, ?_⟩⟩
        have h1' := cell_kept (World.cell?_setCell_same' w8 ⟨s + 1, 0, none⟩ (.bool true) (by rw [r8]; rfl)) (grownBy_putObj' _ D (.deferred none)) (fun r e => by cases e; exact ⟨_, hK8, rfl⟩)
        refine ⟨.bool true, ?_, rfl, ?_⟩
        · simp [results, Tryd.f8, go_sem, h1']
        · have t89 : Touch (fun i => i = s + 1) w8 (w8.setCell ⟨s + 1, 0, none⟩ (.bool true)) := (Touch.refl (fun i => i = s + 1) _).setCell (a := ⟨s + 1, 0, none⟩) (fun _ => rfl) _
          exact (((((HG0.out.touch (fun _ => False)).trans' HTT.out (fun i hi h => by have hzz := HSZ.out; omega)).trans (HG8.out.touch _)).trans' t89 (fun i hi h => by have hzz := HSZ.out; omega)).trans' (touch_putObj _ D _ (Nat.le_refl D)) (fun i hi h => by have := HD.out; have := HG0.out.size; omega)).gr
      case stop =>
        rintro D c W3 hD ⟨rfl, ht, h1⟩ hK
        gi_wp2
        refine ⟨by simp, .inl ⟨_, _, rfl, run_takeDeferred hK, ?_⟩⟩
        have h1' := cell_kept h1 (grownBy_putObj' _ D (.deferred none)) (fun r e => by cases e; exact ⟨_, hK, rfl⟩)
        refine ⟨.bool true, ?_, rfl, ?_⟩
        · simp [results, Tryd.f8, go_sem, h1']
        · exact (((HG0.out.touch (fun _ => False)).trans' ht (fun i hi h => by have z := HZ.out; have hl := HL.out; have hz := HSZ.out; omega)).trans' (touch_putObj _ D _ (Nat.le_refl D)) (fun i hi h => by have := HG0.out.size; omega)).gr
end Go.Proofs.YtlbbkpjfoabobaaDoor
