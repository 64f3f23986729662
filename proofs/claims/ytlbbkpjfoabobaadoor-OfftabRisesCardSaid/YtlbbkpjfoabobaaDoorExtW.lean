/- extent's Word: a range over All. -/
import Derived.Test.YtlbbkpjfoabobaaDoorAll
namespace Go.Proofs.YtlbbkpjfoabobaaDoor
open Go.RowKit Go.Shelf Word
attribute [local go_sem] Oper.semAt_some

theorem all_call {w : World} (q : Option Addr) :
    Calls Tryd.prog 43 #[.pointer q] w fun e w' => e = .returned (.func (.func 91) #[] #[.pointer (some ⟨w.heap.size, 0, none⟩)]) ∧ w' = w.alloc (.cells #[.pointer q] 61) := by
  have hmf : ∀ (fn : Fn) (first cap : Array Value) (w : World), (Instr.makeFunc fn first cap).run Tryd.prog w = .ok (.func fn first cap) w := fun _ _ _ _ => rfl
  go_enter Tryd.func43, Tryd.ntmps43
  go_wp2
  go_ret
  exact ⟨rfl, rfl⟩
set_option maxRecDepth 100000 in
set_option maxHeartbeats 1600000 in
theorem all_seq_nil (n : Nat) (box : Nat) (w : World) :
    SeqT Fence.wide n Tryd.prog 91 #[.pointer (some ⟨box, 0, none⟩)] encO (fun (_ : Unit) W => W.cell? ⟨box, 0, none⟩ = some (.pointer none)) (fun _ _ => False) (fun _ _ _ => False) (fun _ => True) () w := by
  intro l J Jx W hg hJ hJx hI hY h0
  refine callsIn_wide.2 ((callsIn_wide (n := 5)).1 ?_)
  refine callsIn_of_wp_marks Tryd.func91 rfl trivial ?_ rfl
  have c0 := hI _ _ h0
  have hJ0 : J () (W.alloc (.cells #[.func (.yield l) #[] #[]] 76)) := hJ _ _ _ h0 (((Gr.refl W).alloc _).touch _)
  have HJ := hid hJ0
  have hb := lt_cell c0
  clear hI hY hJ0 h0
  simp only [Tryd.ntmps91, List.size_toArray, List.length_cons, List.length_nil, Nat.reduceAdd, Nat.reduceSub, Array.replicate_succ, Array.replicate_zero, List.push_toArray, List.append_toArray, List.nil_append, List.cons_append]
  gi_wp2_with (refine ⟨trivial, ?_⟩; gi_at_call 90; refine (callsIn_wide.2 (ext_none_nil _)).mono ?_; rintro e w1 ⟨rfl, rfl⟩)
  exact ⟨.tuple #[], results_none rfl _ _ _, ⟨_, rfl⟩, .inl ⟨(), trivial, HJ.out⟩⟩

/-- Between two rounds of Word. -/
structure WordI (W0 : World) (bk r1 r2 : Nat) (L : List Ob) (k : Nat) (j : Nat) (A : World) : Prop where
  t : Touch (fun i => i = bk ∨ i = r1 ∨ i = r2 ∨ W0.heap.size ≤ i) W0 A
  jl : j ≤ L.length
  kl : sizes (L.take j) ≤ k
  c : A.cell? ⟨bk, 0, none⟩ = some (.int .i64 ((k - sizes (L.take j) : Nat) : Int))
  f0 : A.frozen? ⟨bk, 0, none⟩ = false
  f1 : A.frozen? ⟨r1, 0, none⟩ = false
  f2 : A.frozen? ⟨r2, 0, none⟩ = false
  x1 : (A.cell? ⟨r1, 0, none⟩).isSome = true
  x2 : (A.cell? ⟨r2, 0, none⟩).isSome = true
theorem TabAt.touch' {S : Nat → Prop} {w W : World} (ht : TabAt w) (h : Touch S w W) (hS : ¬ S 0) : TabAt W := h.tab ht.lt hS ht
theorem box3 {w : World} (u v x : Value) (T1 T2 T3 : TypeId) : ∃ W2, W2 = ((w.alloc (.cells #[u] T1)).alloc (.cells #[v] T2)).alloc (.cells #[x] T3) ∧ Gr w W2 ∧ W2.heap.size = w.heap.size + 3 ∧
    Boxed W2 w.heap.size T1 u ∧ Boxed W2 (w.heap.size + 1) T2 v ∧ Boxed W2 (w.heap.size + 1 + 1) T3 x := by
  refine ⟨_, rfl, (((Gr.refl w).alloc _).alloc _).alloc _, by simp, ((Boxed.new w _ _).alloc _).alloc _, ?_, ?_⟩
  · have := Boxed.new (w.alloc (.cells #[u] T1)) T2 v
    rw [World.size_alloc] at this
    exact this.alloc _
  · have := Boxed.new ((w.alloc (.cells #[u] T1)).alloc (.cells #[v] T2)) T3 x
    rw [World.size_alloc, World.size_alloc] at this
    exact this
set_option maxRecDepth 100000 in
set_option maxHeartbeats 3200000 in
theorem ext_word_neg {w : World} (q : Option Addr) (k : Int) (hk : k < 0) : Gets Tryd.prog 44 #[.pointer q, .int .i64 k] w (.tuple #[.int .i64 0, .bool false]) := by
  have d0 : decide (k < 0) = true := by simp [hk]
  unfold Gets
  refine (callsIn_wide (n := 5)).1 ?_
  refine callsIn_of_wp_marks Tryd.func44 rfl trivial ?_ rfl
  simp only [Tryd.ntmps44, List.size_toArray, List.length_cons, List.length_nil, Nat.reduceAdd, Nat.reduceSub, Array.replicate_succ, Array.replicate_zero, List.push_toArray, List.append_toArray, List.nil_append, List.cons_append]
  obtain ⟨W2, hW2, hg2, -, -, hb2, hb3⟩ := box3 (w := w) (.int .i64 k) (.int .i64 0) (.bool false) 3 3 4
  gi_wp2
  rw [← hW2]
  have c1 := hb2.cell
  have c2 := hb3.cell
  clear hW2
  refine ⟨.tuple #[.int .i64 0, .bool false], ?_, rfl, hg2⟩
  simp [results, Tryd.f44, go_sem, c1, c2]
set_option maxRecDepth 100000 in
set_option maxHeartbeats 3200000 in
theorem ext_word_in {w : World} {m p1 b1 p2 b2 n : Nat} {L : List Ob} (hE : Ext w m p1 b1 p2 b2 n L) (hT : TabAt w) (k : Nat) (hk : (k : Int) ≤ 9223372036854775807) :
    Gets Tryd.prog 44 #[.pointer (some ⟨m, 0, none⟩), .int .i64 k] w (.tuple #[.int .i64 ((wordO L k).getD 0 : Nat), .bool (wordO L k).isSome]) := by
  have d0 : decide ((k : Int) < 0) = false := by simp
  have HE := hid hE
  have HT := hid hT
  clear hE hT
  unfold Gets
  refine (callsIn_wide (n := 5)).1 ?_
  refine callsIn_of_wp_marks Tryd.func44 rfl trivial ?_ rfl
  simp only [Tryd.ntmps44, List.size_toArray, List.length_cons, List.length_nil, Nat.reduceAdd, Nat.reduceSub, Array.replicate_succ, Array.replicate_zero, List.push_toArray, List.append_toArray, List.nil_append, List.cons_append]
  gi_wp2_with (refine ⟨trivial, ?_⟩; gi_at_call 43; refine (callsIn_wide.2 (all_call (some ⟨m, 0, none⟩))).mono ?_; rintro e w1 ⟨rfl, rfl⟩)
  obtain ⟨W2, hW2, hg2, hs2, hb1, hb2, hb3⟩ := box3 (w := w) (.int .i64 k) (.int .i64 0) (.bool false) 3 3 4
  rw [← hW2]
  obtain ⟨W0, hW0⟩ : ∃ W0, W0 = W2.alloc (.cells #[.pointer (some ⟨m, 0, none⟩)] 61) := ⟨_, rfl⟩
  have hg0 : Gr w W0 := by rw [hW0]; exact hg2.alloc _
  have hsz : W0.heap.size = w.heap.size + 4 := by rw [hW0]; simp; omega
  have k1 : Boxed W0 w.heap.size 3 (.int .i64 k) := by rw [hW0]; exact hb1.alloc _
  have k2 : Boxed W0 (w.heap.size + 1) 3 (.int .i64 0) := by rw [hW0]; exact hb2.alloc _
  have k3 : Boxed W0 (w.heap.size + 1 + 1) 4 (.bool false) := by rw [hW0]; exact hb3.alloc _
  have k4 : W0.cell? ⟨w.heap.size + 1 + 1 + 1, 0, none⟩ = some (.pointer (some ⟨m, 0, none⟩)) := by
    rw [hW0]
    have := (Boxed.new W2 61 (.pointer (some ⟨m, 0, none⟩))).cell
    rwa [show W2.heap.size = w.heap.size + 1 + 1 + 1 by omega] at this
  rw [← hW0]
  have hEw := HE.out
  have o1 := hEw.hm
  have o2 := hEw.v1.hp
  have o3 := hEw.v1.hb
  have o4 := hEw.v2.hp
  have o5 := hEw.v2.hb
  have o6 := HT.out.lt
  have hnb := hEw.nb
  have hgood := hEw.good
  clear hW2 hW0 hg2 hs2 hb1 hb2 hb3 hEw
  have hn0 : sizes (L.take 0) = 0 := rfl
  have tI : ∀ j A B, WordI W0 w.heap.size (w.heap.size + 1) (w.heap.size + 1 + 1) L k j A → Touch (fun i => W0.heap.size ≤ i) A B → WordI W0 w.heap.size (w.heap.size + 1) (w.heap.size + 1 + 1) L k j B := fun j A B h t =>
    have ht := h.t.size
    ⟨h.t.trans (t.mono (fun i _ h => .inr (.inr (.inr h)))), h.jl, h.kl, (t.cell (by omega) (by omega) 0).trans h.c, (t.frozen (by omega) (by omega) 0).trans h.f0, (t.frozen (by omega) (by omega) 0).trans h.f1, (t.frozen (by omega) (by omega) 0).trans h.f2,
      by rw [t.cell (by omega) (by omega)]; exact h.x1, by rw [t.cell (by omega) (by omega)]; exact h.x2⟩
  refine range_lawT (s0 := 0) rfl (by omega) (gf := 91) (lb := #[.pointer (some ⟨w.heap.size + 1 + 1 + 1, 0, none⟩)]) rfl trivial (enters_of Tryd.func91 (by kernel_rfl) rfl)
    (all_seq _ (w.heap.size + 1 + 1 + 1) m p1 b1 p2 b2 n L _) (fun _ => rfl)
    (WordI W0 w.heap.size (w.heap.size + 1) (w.heap.size + 1 + 1) L k)
    (fun c A => c = .ret ∧ Touch (fun i => i = w.heap.size ∨ i = w.heap.size + 1 ∨ i = w.heap.size + 1 + 1 ∨ W0.heap.size ≤ i) W0 A ∧ A.cell? ⟨w.heap.size + 1, 0, none⟩ = some (.int .i64 ((wordO L k).getD 0 : Nat)) ∧ A.cell? ⟨w.heap.size + 1 + 1, 0, none⟩ = some (.bool (wordO L k).isSome))
    tI
    (fun c A B h t => by
      have ht := h.2.1.size
      exact ⟨h.1, h.2.1.trans (t.mono (fun i _ h => .inr (.inr (.inr h)))), (t.cell (by omega) (by omega) 0).trans h.2.2.1, (t.cell (by omega) (by omega) 0).trans h.2.2.2⟩)
    (fun j A h => ⟨(HE.out.gr hg0).touch h.t (by omega) (by omega) (by omega) (by omega) (by omega), (hg0.tab o6 HT.out).touch' h.t (by omega), (h.t.cell (by omega) (by omega) 0).trans k4, h.jl⟩)
    ⟨Touch.refl _ _, Nat.zero_le _, Nat.zero_le _, k1.cell, k1.frozen, k2.frozen, k3.frozen, by rw [k2.cell]; rfl, by rw [k3.cell]; rfl⟩ ?round ?done ?stop
  case round =>
    intro lp j x W3 hsz3 hI3 hgv
    dsimp only [encO]
    gi_wp2
    refine ⟨Gr.refl _, fun W4 ht4 hI4 => ?_⟩
    have hjl : j < L.length := by
      rcases Nat.lt_or_ge j L.length with h | h
      · exact h
      · unfold AllGives at hgv; rw [List.getElem?_eq_none h] at hgv; cases hgv
    obtain rfl : x = L[j] := by unfold AllGives at hgv; rw [List.getElem?_eq_getElem hjl] at hgv; exact (Option.some.inj hgv).symm
    have hsz' := hgood.sz _ (List.getElem_mem hjl)
    have hc := hI4.c
    have f0 := hI4.f0
    have f1 := hI4.f1
    have f2 := hI4.f2
    have kl := hI4.kl
    have htk := sizes_take hjl
    have hwt := fun i (hi : i < L[j].2) => wordO_take hjl hi
    obtain ⟨sj, hsj⟩ : ∃ s, s = L[j].1 := ⟨_, rfl⟩
    obtain ⟨zj, hzj⟩ : ∃ s, s = L[j].2 := ⟨_, rfl⟩
    obtain ⟨r, hr⟩ : ∃ r, r = k - sizes (L.take j) := ⟨_, rfl⟩
    rw [← hr] at hc
    rw [← hsj, ← hzj] at hwt hsz' ⊢
    rw [← hzj] at htk
    have x1 := hI4.x1
    have x2 := hI4.x2
    have HI4 := hid hI4
    have ht4s := hI4.t.size
    have hrk : (r : Int) ≤ 9223372036854775807 := by omega
    by_cases hlt : r < zj
    · have hw : Hid (wordO L k = some (sj + r)) := ⟨by rw [← hwt r hlt]; congr 1; omega⟩
      have hrb : (sj : Int) + (r : Int) ≤ 1048576 := by omega
      clear hI4 hwt htk hsj hzj hr kl ht4 hI3
      obtain ⟨y1, hy1⟩ : ∃ y, W4.cell? ⟨w.heap.size + 1, 0, none⟩ = some y := Option.isSome_iff_exists.1 x1
      obtain ⟨y2, hy2⟩ : ∃ y, W4.cell? ⟨w.heap.size + 1 + 1, 0, none⟩ = some y := Option.isSome_iff_exists.1 x2
      clear x1 x2
      gi_wp2
      have tt : Touch (fun i => i = w.heap.size + 1 ∨ i = w.heap.size + 1 + 1) W4 ((W4.setCell ⟨w.heap.size + 1, 0, none⟩ (.int .i64 ((sj : Int) + (r : Int)))).setCell ⟨w.heap.size + 1 + 1, 0, none⟩ (.bool true)) :=
        ((Touch.refl _ W4).setCell (a := ⟨w.heap.size + 1, 0, none⟩) (fun _ => .inl rfl) _).setCell (a := ⟨w.heap.size + 1 + 1, 0, none⟩) (fun _ => .inr rfl) _
      refine ⟨tt.mono (fun i _ h => by omega), rfl, HI4.out.t.trans (tt.mono (fun i _ h => by rcases h with h | h; exact .inr (.inl h); exact .inr (.inr (.inl h)))), ?_, ?_⟩
      · rw [World.cell?_setCell_other (h := by intro e; injection e with e1 _; omega), hw.out]
        have := World.cell?_setCell_same' W4 ⟨w.heap.size + 1, 0, none⟩ (.int .i64 ((sj : Int) + (r : Int))) (by rw [hy1]; rfl)
        rw [this]; rfl
      · rw [hw.out]
        refine World.cell?_setCell_same' _ ⟨w.heap.size + 1 + 1, 0, none⟩ (.bool true) ?_
        rw [World.cell?_setCell_other (h := by intro e; injection e with e1 _; omega), hy2]; rfl
    · have hge : zj ≤ r := by omega
      have hr2 : Hid (((r : Int) - (zj : Int)) = ((k - sizes (L.take (j + 1)) : Nat) : Int)) := ⟨by rw [htk]; omega⟩
      have hkl2 : Hid (sizes (L.take (j + 1)) ≤ k) := ⟨by rw [htk]; omega⟩
      clear hI4 hwt htk hsj hzj hr kl ht4 hI3
      gi_wp2
      have tt : Touch (fun i => i = w.heap.size) W4 (W4.setCell ⟨w.heap.size, 0, none⟩ (.int .i64 ((r : Int) - (zj : Int)))) := (Touch.refl (fun i => i = w.heap.size) W4).setCell (a := ⟨w.heap.size, 0, none⟩) (fun _ => rfl) _
      refine ⟨tt.mono (fun i _ h => by omega), j + 1, rfl, ⟨HI4.out.t.trans (tt.mono (fun i _ h => .inl h)), by omega, hkl2.out, ?_, ?_, ?_, ?_, ?_, ?_⟩⟩
      · rw [← hr2.out]; exact World.cell?_setCell_same' W4 ⟨w.heap.size, 0, none⟩ _ (by rw [hc]; rfl)
      · rw [World.frozen?_setCell]; exact f0
      · rw [World.frozen?_setCell]; exact f1
      · rw [World.frozen?_setCell]; exact f2
      · rw [tt.cell (by omega) (by omega)]; exact x1
      · rw [tt.cell (by omega) (by omega)]; exact x2
  case done =>
    rintro D j W3 hD rfl hI3 hK
    have hno : wordO L k = none := wordO_none.2 (by have := hI3.kl; rwa [List.take_length] at this)
    have f1 := hI3.f1
    have f2 := hI3.f2
    obtain ⟨y1, hy1⟩ : ∃ y, W3.cell? ⟨w.heap.size + 1, 0, none⟩ = some y := Option.isSome_iff_exists.1 hI3.x1
    obtain ⟨y2, hy2⟩ : ∃ y, W3.cell? ⟨w.heap.size + 1 + 1, 0, none⟩ = some y := Option.isSome_iff_exists.1 hI3.x2
    have HNO := hid hno
    have HK := hid hK
    have HD := hid hD
    have HI3 := hid hI3
    have hs3 := hI3.t.size
    clear hno hK hD hI3
    gi_wp2
    have c1 : ((W3.setCell ⟨w.heap.size + 1, 0, none⟩ (.int .i64 0)).setCell ⟨w.heap.size + 1 + 1, 0, none⟩ (.bool false)).cell? ⟨w.heap.size + 1, 0, none⟩ = some (.int .i64 0) := by
      rw [World.cell?_setCell_other (h := by intro e; injection e with e1 _; omega)]
      exact World.cell?_setCell_same' W3 ⟨w.heap.size + 1, 0, none⟩ _ (by rw [hy1]; rfl)
    have c2 : ((W3.setCell ⟨w.heap.size + 1, 0, none⟩ (.int .i64 0)).setCell ⟨w.heap.size + 1 + 1, 0, none⟩ (.bool false)).cell? ⟨w.heap.size + 1 + 1, 0, none⟩ = some (.bool false) := by
      refine World.cell?_setCell_same' _ ⟨w.heap.size + 1 + 1, 0, none⟩ _ ?_
      rw [World.cell?_setCell_other (h := by intro e; injection e with e1 _; omega), hy2]; rfl
    have tt : Touch (fun i => i = w.heap.size + 1 ∨ i = w.heap.size + 1 + 1) W3 ((W3.setCell ⟨w.heap.size + 1, 0, none⟩ (.int .i64 0)).setCell ⟨w.heap.size + 1 + 1, 0, none⟩ (.bool false)) :=
      ((Touch.refl _ W3).setCell (a := ⟨w.heap.size + 1, 0, none⟩) (fun _ => .inl rfl) _).setCell (a := ⟨w.heap.size + 1 + 1, 0, none⟩) (fun _ => .inr rfl) _
    have hK' : ((W3.setCell ⟨w.heap.size + 1, 0, none⟩ (.int .i64 0)).setCell ⟨w.heap.size + 1 + 1, 0, none⟩ (.bool false)).heap[D]? = some (.deferred (some [])) :=
      (tt.block D (Array.getElem?_eq_some_iff.1 HK.out).1 (by have := HD.out; omega)).trans HK.out
    generalize (W3.setCell ⟨w.heap.size + 1, 0, none⟩ (.int .i64 0)).setCell ⟨w.heap.size + 1 + 1, 0, none⟩ (.bool false) = W5 at *
    refine ⟨by simp, .inl ⟨_, _, rfl, run_takeDeferred hK', ?_⟩⟩
    have h1' := cell_kept c1 (grownBy_putObj' _ D (.deferred none)) (fun r e => by cases e; exact ⟨_, hK', rfl⟩)
    have h2' := cell_kept c2 (grownBy_putObj' _ D (.deferred none)) (fun r e => by cases e; exact ⟨_, hK', rfl⟩)
    refine ⟨.tuple #[.int .i64 0, .bool false], ?_, by rw [HNO.out]; rfl, ?_⟩
    · simp [results, Tryd.f44, go_sem, h1', h2']
    · exact ((((hg0.touch (fun _ => False)).trans' HI3.out.t (fun i hi h => by omega)).trans' tt (fun i hi h => by omega)).trans' (touch_putObj _ D _ (Nat.le_refl D)) (fun i hi h => by have := HD.out; omega)).gr
  case stop =>
    rintro D c W3 hD ⟨rfl, ht, h1, h2⟩ hK
    gi_wp2
    refine ⟨by simp, .inl ⟨_, _, rfl, run_takeDeferred hK, ?_⟩⟩
    have h1' := cell_kept h1 (grownBy_putObj' _ D (.deferred none)) (fun r e => by cases e; exact ⟨_, hK, rfl⟩)
    have h2' := cell_kept h2 (grownBy_putObj' _ D (.deferred none)) (fun r e => by cases e; exact ⟨_, hK, rfl⟩)
    refine ⟨.tuple #[.int .i64 ((wordO L k).getD 0 : Nat), .bool (wordO L k).isSome], ?_, rfl, ?_⟩
    · simp [results, Tryd.f44, go_sem, h1', h2']
    · exact (((hg0.touch (fun _ => False)).trans' ht (fun i hi h => by omega)).trans' (touch_putObj _ D _ (Nat.le_refl D)) (fun i hi h => by omega)).gr
theorem ext_word {w : World} {m p1 b1 p2 b2 n : Nat} {L : List Ob} (hE : Ext w m p1 b1 p2 b2 n L) (hT : TabAt w) (k : Int) (hk : k ≤ 9223372036854775807) :
    Gets Tryd.prog 44 #[.pointer (some ⟨m, 0, none⟩), .int .i64 k] w (.tuple #[.int .i64 (wordV L k), .bool (wordY L k)]) := by
  by_cases h : k < 0
  · have e1 : wordV L k = 0 := by unfold wordV; rw [if_pos h]
    have e2 : wordY L k = false := by unfold wordY; rw [decide_eq_false (by omega)]; rfl
    rw [e1, e2]
    exact ext_word_neg _ k h
  · obtain ⟨q, rfl⟩ : ∃ q : Nat, k = q := ⟨k.toNat, by omega⟩
    have e1 : wordV L q = ((wordO L q).getD 0 : Nat) := by unfold wordV; rw [if_neg h, Int.toNat_natCast]
    have e2 : wordY L q = (wordO L q).isSome := by unfold wordY; rw [decide_eq_true (by omega), Int.toNat_natCast]; rfl
    rw [e1, e2]
    exact ext_word_in hE hT q hk
end Go.Proofs.YtlbbkpjfoabobaaDoor
