/- Package mark: starts. -/
import Derived.Test.YtlkifhoedfjlaaaGreatDoorMarkP
import Derived.Test.YtlkifhoedfjlaaaGreatDoorAllU
import Derived.Test.YtlkifhoedfjlaaaGreatDoorStk
import Derived.OwnWalkIn
namespace Go.Proofs.YtlkifhoedfjlaaaGreatDoor
open Go.RowKit Go.Shelf Word
attribute [local go_sem] Oper.semAt_some

def stsL (L : List Ob) (j : Nat) : List Value := zs ((L.take j).map fun o => (o.1 : Int))
theorem stsL_len {L : List Ob} {j : Nat} (h : j ≤ L.length) : (stsL L j).length = j := by unfold stsL zs; simp; omega
theorem stsL_succ {L : List Ob} {j : Nat} (h : j < L.length) : stsL L (j + 1) = stsL L j ++ [.int .i64 (L[j].1 : Nat)] := by
  unfold stsL zs
  rw [List.take_succ_eq_append_getElem h, List.map_append, List.map_append]
  rfl
theorem own_base {w : World} {b b' E size : Nat} {v : Value} {n : Nat} {xs : List Value} (h : w.ownsRow b E size v n xs) (hb : b' ≤ b) : w.ownsRow b' E size v n xs := by
  obtain ⟨h1, h2⟩ := h
  refine ⟨h1, h2.imp id ?_⟩
  rintro ⟨g, cap, cur, e1, e2, e3⟩
  exact ⟨g, cap, cur, e1, Nat.le_trans hb e2, e3⟩
/-- Between two rounds. -/
structure StI (W0 : World) (B : Nat) (L : List Ob) (j : Nat) (A : World) : Prop where
  t : Touch (fun i => i = B ∨ W0.heap.size ≤ i) W0 A
  jl : j ≤ L.length
  f0 : A.frozen? ⟨B, 0, none⟩ = false
  row : ∃ vL, A.cell? ⟨B, 0, none⟩ = some vL ∧ A.ownsRow (W0.heap.size + 6) 3 1 vL j (stsL L j)
def StartsEnd (w : World) (L : List Ob) (e : Ending) (w' : World) : Prop := ∃ vL, e = .returned vL ∧ Gr w w' ∧ w'.ownsRow w.heap.size 3 1 vL L.length (stsL L L.length)
set_option maxRecDepth 100000 in
set_option maxHeartbeats 3200000 in
theorem mk_starts {w : World} {k m p1 b1 p2 b2 n : Nat} {L : List Ob} (hE : Ext w m p1 b1 p2 b2 n L) (hT : TabAt w) (c1 : w.cell? ⟨k, 1, none⟩ = some (.pointer (some ⟨m, 0, none⟩))) :
    Calls Tryz.prog 63 #[.pointer (some ⟨k, 0, none⟩)] w (StartsEnd w L) := by
  have HE := hid hE
  have HT := hid hT
  have hkl := lt_cell c1
  clear hE hT
  refine (callsIn_wide (n := 5)).1 ?_
  refine callsIn_of_wp_marks Tryz.func63 rfl trivial ?_ rfl
  simp only [Tryz.ntmps63, List.size_toArray, List.length_cons, List.length_nil, Nat.reduceAdd, Nat.reduceSub, Array.replicate_succ, Array.replicate_zero, List.push_toArray, List.append_toArray, List.nil_append, List.cons_append]
  gi_wp2_with (refine ⟨trivial, ?_⟩; gi_at_call 37; refine (callsIn_wide.2 (all_call (some ⟨m, 0, none⟩))).mono ?_; rintro e w1 ⟨rfl, rfl⟩)
  obtain ⟨W2, hW2⟩ : ∃ W2, W2 = w.alloc (.cells #[.slice none 0 0] 23) := ⟨_, rfl⟩
  have hb1 : Boxed W2 w.heap.size 23 (.slice none 0 0) := by rw [hW2]; exact Boxed.new w _ _
  have hg2 : Gr w W2 := by rw [hW2]; exact (Gr.refl w).alloc _
  have hs2 : W2.heap.size = w.heap.size + 1 := by rw [hW2]; simp
  rw [← hW2]
  obtain ⟨W0, hW0⟩ : ∃ W0, W0 = W2.alloc (.cells #[.pointer (some ⟨m, 0, none⟩)] 34) := ⟨_, rfl⟩
  have hg0 : Gr w W0 := by rw [hW0]; exact hg2.alloc _
  have hsz : W0.heap.size = w.heap.size + 2 := by rw [hW0]; simp; omega
  have k1 : Boxed W0 w.heap.size 23 (.slice none 0 0) := by rw [hW0]; exact hb1.alloc _
  have k4 : W0.cell? ⟨w.heap.size + 1, 0, none⟩ = some (.pointer (some ⟨m, 0, none⟩)) := by
    rw [hW0]
    have := (Boxed.new W2 34 (.pointer (some ⟨m, 0, none⟩))).cell
    rwa [hs2] at this
  rw [← hW0]
  have hEw := HE.out
  have o1 := hEw.hm
  have o2 := hEw.v1.hp
  have o3 := hEw.v1.hb
  have o4 := hEw.v2.hp
  have o5 := hEw.v2.hb
  have o6 := HT.out.lt
  have hnb := hEw.nb
  have hgood := hEw.good
  have hlen := hgood.len
  clear hW2 hW0 hg2 hs2 hb1 hEw
  obtain ⟨ii, hii, hi0, hi1, hi2⟩ := info_parts infoIntV
  have tI : ∀ j A B, StI W0 w.heap.size L j A → Touch (fun i => W0.heap.size ≤ i ∧ i < W0.heap.size + 2 + 4) A B → StI W0 w.heap.size L j B := fun j A B h t => by
    have ht := h.t.size
    obtain ⟨vL, hc, ho⟩ := h.row
    exact ⟨h.t.trans (t.mono (fun i _ h => .inr h.1)), h.jl, (t.frozen (by omega) (by show ¬ (W0.heap.size ≤ w.heap.size ∧ _); omega) 0).trans h.f0, vL, (t.cell (by omega) (by show ¬ (W0.heap.size ≤ w.heap.size ∧ _); omega) 0).trans hc, own_touch ho t (fun g hg h => by have := (own_lt ho hg).1; omega)⟩
  refine range_lawU (K := 4) (s0 := 0) rfl (by omega) (gf := 69) (lb := #[.pointer (some ⟨w.heap.size + 1, 0, none⟩)]) rfl trivial (enters_of Tryz.func69 (by kernel_rfl) rfl)
    (all_seqU _ (w.heap.size + 1) m p1 b1 p2 b2 n L _) (fun _ => rfl)
    (StI W0 w.heap.size L) (fun _ _ => False) tI (fun _ _ _ h _ => h)
    (fun j A h => ⟨(HE.out.gr hg0).touch h.t (by omega) (by omega) (by omega) (by omega) (by omega), (hg0.tab o6 HT.out).touch' h.t (by omega), (h.t.cell (by omega) (by omega) 0).trans k4, h.jl⟩)
    ⟨Touch.refl _ _, Nat.zero_le _, k1.frozen, _, k1.cell, own_nil _ _ _ _⟩ ?round ?done ?stop
  case round =>
    intro lp j x W3 hsz3 hI3 hgv
    dsimp only [encO]
    gi_wp2
    refine ⟨Gr.refl _, fun W4 ht4 hI4 => ?_⟩
    have hjl : j < L.length := by
      rcases Nat.lt_or_ge j L.length with h | h
      · exact h
      · unfold AllGives at hgv; rw [List.getElem?_eq_none h] at hgv; cases hgv
    obtain rfl : x = L[j] := by unfold AllGives at hgv; rw [List.getElem?_eq_getElem hjl] at hgv; exact (Option.some.inj hgv).symm
    have hsu := stsL_succ hjl
    obtain ⟨y, hy⟩ : ∃ y, y = L[j].1 := ⟨_, rfl⟩
    rw [← hy] at hsu ⊢
    obtain ⟨vL, hc, ho⟩ := hI4.row
    have hf0 := hI4.f0
    have hsz4 : W0.heap.size + 6 ≤ W4.heap.size := by have := ht4.size; omega
    have HI4 := hid hI4
    have HO := hid ho
    have HSU := hid hsu
    clear hI3 hI4 hsu hy ho hgv ht4
    gi_wp2_with (gi_at_builtin; refine wpListIn_append_own _ rfl _ _ 23 rfl (W0.heap.size + 6) 3 ii _ 1 8 Tryz.underlying23 hii hi0 hi1 hi2 rfl (by decide) _ _ _ rfl (HO.out.alloc _) ⟨W4.heap.size, 0, none⟩ 1 1 [.int .i64 (y : Nat)] rfl rfl (cell_one_new _ _ _) (by simp [Value.oneCell']) (by unfold maxLen; omega) (by omega) (by simp; omega) ?_; intro v' w5 hown' hgrow _; obtain ⟨A5, c5, rfl, -, -⟩ := own_shape hown'; have t5 : Touch (fun i => W0.heap.size + 6 ≤ i) W4 w5 := ((((Gr.refl W4).alloc _).touch _)).trans (grown_touch hgrow _ (fun i e _ => (own_lt HO.out e).1)); have hc5 := (t5.cell (b := w.heap.size) (by omega) (by omega) 0).trans hc; have hf5 := (t5.frozen (b := w.heap.size) (by omega) (by omega) 0).trans hf0; have HO5 := hid hown'; have HT5 := hid t5; clear hown' hgrow t5)
    have tt : Touch (fun i => i = w.heap.size ∨ W0.heap.size + 6 ≤ i) W4 (w5.setCell ⟨w.heap.size, 0, none⟩ (.slice A5 (j + 1) c5)) := (HT5.out.mono (fun i _ h => .inr h)).setCell (a := ⟨w.heap.size, 0, none⟩) (fun _ => .inl rfl) _
    refine ⟨tt.mono (fun i _ h => by omega), j + 1, rfl, ⟨HI4.out.t.trans (tt.mono (fun i _ h => h.imp id (fun h => by omega))), hjl, by rw [World.frozen?_setCell]; exact hf5, _, World.cell?_setCell_same' w5 ⟨w.heap.size, 0, none⟩ _ (by rw [hc5]; rfl), ?_⟩⟩
    rw [HSU.out]
    exact own_set_other HO5.out _ (fun g hg => by have := (own_lt HO5.out hg).1; omega)
  case done =>
    rintro D j W3 hD rfl hI3 hK
    obtain ⟨vL, hc, ho⟩ := hI3.row
    have HO := hid ho
    have HK := hid hK
    have HD := hid hD
    have HI3 := hid hI3
    have hs3 := hI3.t.size
    clear ho hK hD hI3
    gi_wp2
    refine ⟨by simp, .inl ⟨_, _, rfl, run_takeDeferred HK.out, ?_⟩⟩
    refine ⟨_, results_tmp rfl _ _ _, vL, rfl, (((hg0.touch (fun _ => False)).trans' HI3.out.t (fun i hi h => by omega)).trans' (touch_put1 W3 D _) (fun i hi h => by have := HD.out; omega)).gr, ?_⟩
    exact own_base (own_touch HO.out (touch_put1 W3 D _) (fun g hg h => by have := (own_lt HO.out hg).1; have := HD.out; omega)) (by omega)
  case stop =>
    rintro D c W3 hD h hK
    exact h.elim
end Go.Proofs.YtlkifhoedfjlaaaGreatDoor
