/- Layer 18's Far; layer 19's May; layer 13's Sizes. Layer 20: told, a Map's objects against a row. -/
import Derived.Test.YtlkifhoedfjlaaaGreatDoorLay18
import Derived.Test.YtlkifhoedfjlaaaGreatDoorK8
import Derived.Test.YtlkifhoedfjlaaaGreatDoorAllU
import Derived.Test.YtlkifhoedfjlaaaGreatDoorK7
import Derived.OwnWalkIn
section
namespace Go.Proofs.YtlkifhoedfjlaaaGreatDoor
open Go.RowKit Word

def farB (n1 n2 n3 : Nat) : Bool := decide (300 < wrap64 (wrap64 ((n1 : Int) + n2) + n3))
set_option maxRecDepth 100000 in
set_option maxHeartbeats 800000 in
theorem far18 (A1 A2 A3 : Option Addr) (n1 n2 n3 c1 c2 c3 : Nat) (w : World) : Calls Tryz.prog 4 #[.agg #[.slice A1 n1 c1, .slice A2 n2 c2, .slice A3 n3 c3]] w fun e w' => e = .returned (.bool (farB n1 n2 n3)) ∧ Gr w w' := by
  have R := Rec.new w 25 [.slice A1 n1 c1, .slice A2 n2 c2, .slice A3 n3 c3]
  have y0 := R.cell (j := 0) rfl
  have y1 := R.cell (j := 1) rfl
  have y2 := R.cell (j := 2) rfl
  have yl := R.lt
  clear R
  go_enter Tryz.func4, Tryz.ntmps4
  go_wp2
  go_ret
  exact ⟨rfl, (Gr.refl w).alloc _⟩
set_option maxRecDepth 100000 in
set_option maxHeartbeats 800000 in
theorem may19 (r : Int) (w : World) : Calls Tryz.prog 10 #[.int .i64 r] w fun e w' => e = .returned (.bool (decide (1 ≤ r ∧ r ≤ 4096))) ∧ w = w' := by
  by_cases h1 : 1 ≤ r
  · by_cases h2 : r ≤ 4096
    · have d1 : decide (1 ≤ r) = true := decide_eq_true h1
      have d2 : decide (r ≤ 4096) = true := decide_eq_true h2
      go_enter Tryz.func10, Tryz.ntmps10
      go_wp2
      go_ret
      exact ⟨ret_bool (decide_eq_true ⟨h1, h2⟩).symm, rfl⟩
    · have d1 : decide (1 ≤ r) = true := decide_eq_true h1
      have d2 : decide (r ≤ 4096) = false := decide_eq_false h2
      go_enter Tryz.func10, Tryz.ntmps10
      go_wp2
      go_ret
      exact ⟨rfl, rfl⟩
  · have d1 : decide (1 ≤ r) = false := decide_eq_false h1
    go_enter Tryz.func10, Tryz.ntmps10
    go_wp2
    go_ret
    exact ⟨rfl, rfl⟩
theorem sizes13_take_le (L : List Ob) (j : Nat) : sizes (L.take j) ≤ sizes L := by
  induction L generalizing j with
  | nil => simp [sizes]
  | cons o r ih =>
    cases j with
    | zero => simp [sizes]
    | succ j => have := ih j; simp only [List.take_succ_cons, sizes]; omega
set_option maxRecDepth 100000 in
set_option maxHeartbeats 800000 in
theorem sizes13 {w : World} {A : Option Addr} {c : Nat} {L : List Ob} (hA : ObjsAt w A L) {n : Nat} (hg : Good n L) (hn : n ≤ 1048576) :
    Calls Tryz.prog 14 #[.slice A L.length c] w fun e w' => e = .returned (.int .i64 (sizes L : Nat)) ∧ w = w' := by
  have hlen := hg.len
  have hs := sizes_le hg
  have HA := hid hA
  have HM := hid (fun k => sizes13_take_le L k)
  have HT := hid (fun (k : Nat) (hk : k < L.length) => sizes_take hk)
  clear hA hg
  go_enter Tryz.func14, Tryz.ntmps14
  go_wp2
  go_loop [3, 4] (fun s i => ∃ k t : Nat, k ≤ L.length ∧ Hid (t = sizes (L.take k)) ∧ t ≤ 1048576 ∧ s = .int .i64 t ∧ i = .int .i64 k) (fun _ i => L.length - (intOf i).toNat)
  case atStart => exact ⟨0, 0, Nat.zero_le _, ⟨rfl⟩, by omega, rfl, rfl⟩
  case round =>
    obtain ⟨k, t, hk, ht, htb, rfl, rfl⟩ := hrel
    by_cases hlt : k < L.length
    · obtain ⟨g, rfl, hgl, q0, q1⟩ := HA.out k hlt
      have h1 := HT.out k hlt
      have h2 := HM.out (k + 1)
      rw [← ht.out] at h1
      rw [h1] at h2
      have E := hid h1
      generalize L[k].2 = z at *
      clear h1 q0 ht
      go_wp2
      go_round
      case rel => exact ⟨k + 1, t + z, by omega, ⟨E.out.symm⟩, by omega, by go_num, by go_num⟩
      case measure => simp [intOf]; omega
    · obtain rfl : k = L.length := by omega
      have E := hid (show t = sizes L from by rw [ht.out, List.take_length])
      clear ht
      go_wp2
      go_ret
      exact ⟨ret_int (by rw [E.out]), rfl⟩
end Go.Proofs.YtlkifhoedfjlaaaGreatDoor
end

section
namespace Go.Proofs.YtlkifhoedfjlaaaGreatDoor
open Go.RowKit Go.Shelf Word
attribute [local go_sem] Oper.semAt_some

/-- Between two rounds. -/
structure ToldI (W0 : World) (X : Nat) (L : List Ob) (j : Nat) (A : World) : Prop where
  t : Touch (fun i => i = X + 1 + 1 ∨ W0.heap.size ≤ i) W0 A
  jl : j ≤ L.length
  c : A.cell? ⟨X + 1 + 1, 0, none⟩ = some (.int .i64 j)
  f2 : A.frozen? ⟨X + 1 + 1, 0, none⟩ = false
set_option maxRecDepth 100000 in
set_option maxHeartbeats 3200000 in
theorem told20 {w : World} {m p1 b1 p2 b2 n cc : Nat} {L : List Ob} {OA : Option Addr} (hE : Ext w m p1 b1 p2 b2 n L) (hT : TabAt w) (hO : ObjsAt w OA L) :
    Gets Tryz.prog 13 #[.pointer (some ⟨m, 0, none⟩), .slice OA L.length cc] w (.bool true) := by
  have HE := hid hE
  have HT := hid hT
  have HO := hid hO
  clear hE hT hO
  unfold Gets
  refine (callsIn_wide (n := 5)).1 ?_
  refine callsIn_of_wp_marks Tryz.func13 rfl trivial ?_ rfl
  simp only [Tryz.ntmps13, List.size_toArray, List.length_cons, List.length_nil, Nat.reduceAdd, Nat.reduceSub, Array.replicate_succ, Array.replicate_zero, List.push_toArray, List.append_toArray, List.nil_append, List.cons_append]
  gi_wp2_with (refine ⟨trivial, ?_⟩; gi_at_call 37; refine (callsIn_wide.2 (all_call (some ⟨m, 0, none⟩))).mono ?_; rintro e w1 ⟨rfl, rfl⟩)
  obtain ⟨W2, hW2, hg2, hs2, hb1, hb2, hb3⟩ := box3 (w := w) (.slice OA L.length cc) (.bool false) (.int .i64 0) 44 4 3
  rw [← hW2]
  obtain ⟨W0, hW0⟩ : ∃ W0, W0 = W2.alloc (.cells #[.pointer (some ⟨m, 0, none⟩)] 34) := ⟨_, rfl⟩
  have hg0 : Gr w W0 := by rw [hW0]; exact hg2.alloc _
  have hsz : W0.heap.size = w.heap.size + 4 := by rw [hW0]; simp; omega
  have k1 : Boxed W0 w.heap.size 44 (.slice OA L.length cc) := by rw [hW0]; exact hb1.alloc _
  have k2 : Boxed W0 (w.heap.size + 1) 4 (.bool false) := by rw [hW0]; exact hb2.alloc _
  have k3 : Boxed W0 (w.heap.size + 1 + 1) 3 (.int .i64 0) := by rw [hW0]; exact hb3.alloc _
  have k4 : W0.cell? ⟨w.heap.size + 1 + 1 + 1, 0, none⟩ = some (.pointer (some ⟨m, 0, none⟩)) := by
    rw [hW0]
    have := (Boxed.new W2 34 (.pointer (some ⟨m, 0, none⟩))).cell
    rwa [show W2.heap.size = w.heap.size + 1 + 1 + 1 by omega] at this
  rw [← hW0]
  have hEw := HE.out
  have o1 := hEw.hm
  have o2 := hEw.v1.hp
  have o3 := hEw.v1.hb
  have o4 := hEw.v2.hp
  have o5 := hEw.v2.hb
  have o6 := HT.out.lt
  have hnb := hEw.nb
  have hgood := hEw.good
  have hlen := hgood.len
  clear hW2 hW0 hg2 hs2 hb1 hb2 hb3 hEw
  have kc1 := k1.cell
  have kc2 := k2.cell
  have kf2 := k2.frozen
  have tI : ∀ j A B, ToldI W0 w.heap.size L j A → Touch (fun i => W0.heap.size ≤ i ∧ i < W0.heap.size + 2 + 4) A B → ToldI W0 w.heap.size L j B := fun j A B h t => by
    have ht := h.t.size
    exact ⟨h.t.trans (t.mono (fun i _ h => .inr h.1)), h.jl, (t.cell (by omega) (by show ¬ (W0.heap.size ≤ w.heap.size + 1 + 1 ∧ _); omega) 0).trans h.c, (t.frozen (by omega) (by show ¬ (W0.heap.size ≤ w.heap.size + 1 + 1 ∧ _); omega) 0).trans h.f2⟩
  refine range_lawU (K := 4) (s0 := 0) rfl (by omega) (gf := 69) (lb := #[.pointer (some ⟨w.heap.size + 1 + 1 + 1, 0, none⟩)]) rfl trivial (enters_of Tryz.func69 (by kernel_rfl) rfl)
    (all_seqU _ (w.heap.size + 1 + 1 + 1) m p1 b1 p2 b2 n L _) (fun _ => rfl)
    (ToldI W0 w.heap.size L) (fun _ _ => False) tI (fun _ _ _ h _ => h)
    (fun j A h => ⟨(HE.out.gr hg0).touch h.t (by omega) (by omega) (by omega) (by omega) (by omega), (hg0.tab o6 HT.out).touch' h.t (by omega), (h.t.cell (by omega) (by omega) 0).trans k4, h.jl⟩)
    ⟨Touch.refl _ _, Nat.zero_le _, k3.cell, k3.frozen⟩ ?round ?done ?stop
  case round =>
    intro lp j x W3 hsz3 hI3 hgv
    dsimp only [encO]
    gi_wp2
    refine ⟨Gr.refl _, fun W4 ht4 hI4 => ?_⟩
    have hjl : j < L.length := by
      rcases Nat.lt_or_ge j L.length with h | h
      · exact h
      · unfold AllGives at hgv; rw [List.getElem?_eq_none h] at hgv; cases hgv
    obtain rfl : x = L[j] := by unfold AllGives at hgv; rw [List.getElem?_eq_getElem hjl] at hgv; exact (Option.some.inj hgv).symm
    obtain ⟨g, hOA, hgl, q1, q2⟩ := (HO.out.gr hg0) j hjl
    obtain ⟨s, hs⟩ : ∃ s, s = L[j].1 := ⟨_, rfl⟩
    obtain ⟨z, hz⟩ : ∃ z, z = L[j].2 := ⟨_, rfl⟩
    rw [← hs] at q1 ⊢
    rw [← hz] at q2 ⊢
    have hgw : g < w.heap.size := by
      obtain ⟨g', e, h', -⟩ := HO.out j hjl
      rw [hOA] at e
      cases e
      exact h'
    have q1 := (hI4.t.cell hgl (by omega) _).trans q1
    have q2 := (hI4.t.cell hgl (by omega) _).trans q2
    have c0 := (hI4.t.cell (b := w.heap.size) (by omega) (by omega) 0).trans kc1
    rw [hOA] at c0
    have c2 := hI4.c
    have f2 := hI4.f2
    have hjI : (j : Int) < (L.length : Int) := by omega
    have HI4 := hid hI4
    have hsz4 : W0.heap.size + 6 ≤ W4.heap.size := by have := ht4.size; omega
    clear hI3 hI4 hgv ht4 hs hz hOA
    gi_wp2
    have tt : Touch (fun i => i = w.heap.size + 1 + 1) W4 (W4.setCell ⟨w.heap.size + 1 + 1, 0, none⟩ (.int .i64 ((j : Int) + 1))) := (Touch.refl (fun i => i = w.heap.size + 1 + 1) W4).setCell (a := ⟨w.heap.size + 1 + 1, 0, none⟩) (fun _ => rfl) _
    refine ⟨tt.mono (fun i _ h => by omega), j + 1, rfl, ⟨HI4.out.t.trans (tt.mono (fun i _ h => .inl h)), hjl, ?_, ?_⟩⟩
    · exact World.cell?_setCell_same' W4 ⟨w.heap.size + 1 + 1, 0, none⟩ _ (by rw [c2]; rfl)
    · rw [World.frozen?_setCell]; exact f2
  case done =>
    rintro D j W3 hD rfl hI3 hK
    have c0 := (hI3.t.cell (b := w.heap.size) (by omega) (by omega) 0).trans kc1
    have c1 := (hI3.t.cell (b := w.heap.size + 1) (by omega) (by omega) 0).trans kc2
    have f1 := (hI3.t.frozen (b := w.heap.size + 1) (by omega) (by omega) 0).trans kf2
    have c2 := hI3.c
    have HEX := hid (((HE.out.gr hg0).touch hI3.t (by omega) (by omega) (by omega) (by omega) (by omega)).gr (Gr.refl W3).drew)
    have HK := hid hK
    have HD := hid hD
    have HI3 := hid hI3
    have hs3 := hI3.t.size
    clear hK hD hI3
    obtain ⟨Sx, hSx⟩ : ∃ S : World → Prop, S = fun A => A.cell? ⟨w.heap.size, 0, none⟩ = some (.slice OA L.length cc) ∧ A.cell? ⟨w.heap.size + 1 + 1, 0, none⟩ = some (.int .i64 (L.length : Nat)) := ⟨_, rfl⟩
    have x1 : ∀ p : Held Sx, p.w.cell? ⟨w.heap.size, 0, none⟩ = some (.slice OA L.length cc) := fun p => (Held.get hSx p).1
    have x2 : ∀ p : Held Sx, p.w.cell? ⟨w.heap.size + 1 + 1, 0, none⟩ = some (.int .i64 (L.length : Nat)) := fun p => (Held.get hSx p).2
    have hS0 : Sx W3.drew := by rw [hSx]; exact ⟨c0, c2⟩
    clear hSx
    have inst : Inhabited (Held Sx) := ⟨⟨_, hS0⟩⟩
    gi_wp2
    refine wpIn_region_mixS Sx 10 [([0, 1, 2, 3, 4, 5, 7], 6), ([8, 9], 10)] [] wide_fn (by kernel_rfl) (by kernel_rfl) hS0 ?_
    refine segsIn_step ?_
    simp only [opsAt, List.getElem?_cons_zero, List.getElem?_cons_succ]
    repeat (go_big_quiet_step (fail))
    refine wpQuiet_nil ?_
    gi_wp2_with (refine ⟨trivial, ?_⟩; gi_at_call 12; refine (callsIn_wide.2 (ext_objects HEX.out)).mono ?_; rintro e w6 ⟨rfl, rfl⟩)
    refine ⟨.inr (Held.of hS0), ?_⟩
    refine segsIn_step ?_
    simp only [opsAt, List.getElem?_cons_zero, List.getElem?_cons_succ]
    repeat (go_big_quiet_step (fail))
    refine wpQuiet_nil ?_
    gi_wp2
    refine ⟨.inl trivial, ?_⟩
    refine segsIn_end ?_
    refine wpQuiet_nil ?_
    refine NoPanic.normal ?_
    gi_wp2
    have tg : Touch (fun i => i = w.heap.size + 1) W3 (W3.setCell ⟨w.heap.size + 1, 0, none⟩ (.bool true)).drew := ((Touch.refl (fun i => i = w.heap.size + 1) W3).setCell (a := ⟨w.heap.size + 1, 0, none⟩) (fun _ => rfl) _).trans ((Gr.refl _).drew.touch _)
    have d1 : (W3.setCell ⟨w.heap.size + 1, 0, none⟩ (.bool true)).drew.cell? ⟨w.heap.size + 1, 0, none⟩ = some (.bool true) := World.cell?_setCell_same' W3 ⟨w.heap.size + 1, 0, none⟩ _ (by rw [c1]; rfl)
    have hK' : (W3.setCell ⟨w.heap.size + 1, 0, none⟩ (.bool true)).drew.heap[D]? = some (.deferred (some [])) :=
      (tg.block D (Array.getElem?_eq_some_iff.1 HK.out).1 (by have := HD.out; omega)).trans HK.out
    generalize (W3.setCell ⟨w.heap.size + 1, 0, none⟩ (.bool true)).drew = W5 at *
    refine ⟨by simp, .inl ⟨_, _, rfl, run_takeDeferred hK', ?_⟩⟩
    have h1' := cell_kept d1 (grownBy_putObj' _ D (.deferred none)) (fun r e => by cases e; exact ⟨_, hK', rfl⟩)
    refine ⟨.bool true, ?_, rfl, ?_⟩
    · simp [results, Tryz.f13, go_sem, h1']
    · exact ((((hg0.touch (fun _ => False)).trans' HI3.out.t (fun i hi h => by omega)).trans' tg (fun i hi h => by omega)).trans' (touch_putObj _ D _ (Nat.le_refl D)) (fun i hi h => by have := HD.out; omega)).gr
  case stop =>
    rintro D c W3 hD h hK
    exact h.elim
end Go.Proofs.YtlkifhoedfjlaaaGreatDoor
end
