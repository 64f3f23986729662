/- Layer 21: Off, OffT, OffN in one text (a claim has at most 60 files). -/
import Derived.Test.YtlkifhoedfjlaaaDoorK5
import Derived.Test.YtlkifhoedfjlaaaDoorK4
import Derived.Test.YtlkifhoedfjlaaaDoorK6
import Derived.Test.YtlkifhoedfjlaaaDoorK7
namespace Go.Proofs.YtlkifhoedfjlaaaDoor
open Word

def liveL (n : Nat) (L : List Ob) : List Bool := (List.range n).map (liveB L)
theorem liveL_len (n : Nat) (L : List Ob) : (liveL n L).length = n := by simp [liveL]
theorem at_live {n : Nat} {L : List Ob} (h : Good n L) (i : Nat) : at_ (liveL n L) i = liveB L i := by
  unfold liveL
  rw [at_map_range]
  by_cases hi : i < n
  · rw [decide_eq_true hi]; rfl
  · rw [decide_eq_false hi]
    cases hb : liveB L i with
    | false => rfl
    | true =>
      obtain ⟨o, ho, h1, h2⟩ := liveB_iff.1 hb
      have := h.sz o ho
      omega
theorem countL_live {n : Nat} {L : List Ob} (h : Good n L) (f t : Int) : ((countL (liveL n L) f t : Nat) : Int) = overs L f t := by
  rw [← liveN_eq h, countL_eq, liveL_len]
  congr 1
  exact cntI_congr (fun i _ => by rw [at_live h])
theorem cnt_live {n : Nat} {L : List Ob} (h : Good n L) (k : Nat) (hk : k ≤ n) : ((cnt (at_ (liveL n L)) k : Nat) : Int) = overs L 0 k := by
  rw [← countL_live h, countL_upto _ (by rw [liveL_len]; exact hk)]
theorem wordO_some {L : List Ob} : ∀ {q k : Nat}, wordO L q = some k → ∃ j, ∃ hj : j < L.length, ∃ i, i < L[j].2 ∧ q = sizes (L.take j) + i ∧ k = L[j].1 + i := by
  induction L with
  | nil => intro q k h; cases h
  | cons o r ih =>
    intro q k h
    unfold wordO at h
    by_cases hq : q < o.2
    · rw [if_pos hq] at h
      exact ⟨0, by simp, q, hq, by simp [sizes], (Option.some.inj h).symm⟩
    · rw [if_neg hq] at h
      obtain ⟨j, hj, i, h1, h2, h3⟩ := ih h
      exact ⟨j + 1, by simp; exact hj, i, h1, by simp [sizes]; omega, h3⟩
theorem liveB_mid {L : List Ob} {j : Nat} (hj : j < L.length) {i : Nat} (hi : i < L[j].2) : liveB L (L[j].1 + i) = true := liveB_iff.2 ⟨_, List.getElem_mem hj, by omega, by omega⟩
theorem pick_live {n : Nat} {L : List Ob} (h : Good n L) (q : Nat) : (∀ k, wordO L q = some k → pickL (liveL n L) q = k ∧ k < n) ∧ (wordO L q = none → pickL (liveL n L) q = n) := by
  refine ⟨fun k hk => ?_, fun hn => ?_⟩
  · obtain ⟨j, hj, i, h1, rfl, rfl⟩ := wordO_some hk
    have hs := h.sz _ (List.getElem_mem hj)
    have hc := cnt_live h (L[j].1 + i) (by omega)
    have ho := overs_upto h hj (i := i) (by omega)
    obtain ⟨e1, e2⟩ := pickL_at (l := liveL n L) (k := L[j].1 + i) (q := sizes (L.take j) + i) (by rw [at_live h]; exact liveB_mid hj h1) (by push_cast at hc; omega)
    exact ⟨e1, by omega⟩
  · have hle := wordO_none.1 hn
    have hc := cnt_live h n (Nat.le_refl n)
    rw [overs_all h] at hc
    have := pickF_none (f := at_ (liveL n L)) (n := n) (k := q) (by omega)
    unfold pickL
    rw [liveL_len]
    exact this
theorem pickV_live {n : Nat} {L : List Ob} (h : Good n L) (k : Int) : pickV (liveL n L) k = wordV L k ∧ pickB (liveL n L) k = wordY L k := by
  unfold pickV pickB wordV wordY
  by_cases hk : k < 0
  · rw [if_pos hk, if_pos hk, decide_eq_false (by omega)]; exact ⟨rfl, rfl⟩
  · rw [if_neg hk, if_neg hk, decide_eq_true (by omega), liveL_len]
    obtain ⟨h1, h2⟩ := pick_live h k.toNat
    cases hw : wordO L k.toNat with
    | none => rw [h2 hw, valN_no (by omega)]; exact ⟨rfl, by simp⟩
    | some x => obtain ⟨e1, e2⟩ := h1 x hw; rw [e1, valN_yes e2]; exact ⟨rfl, by simp [e2]⟩
/-- One more object laid. -/
theorem live_take {n : Nat} {L : List Ob} {j : Nat} (hj : j < L.length) : liveL n (L.take (j + 1)) = layL (liveL n (L.take j)) (L[j].1 : Nat) ((L[j].1 : Int) + (L[j].2 : Int)) true := by
  refine ext_at (by rw [layL_length, liveL_len, liveL_len]) (fun i hi => ?_)
  rw [liveL_len] at hi
  rw [layL_at _ _ _ _ _ (by rw [liveL_len]; exact hi)]
  unfold liveL
  rw [at_map_range, at_map_range, decide_eq_true hi]
  unfold liveB
  rw [List.take_succ_eq_append_getElem hj, List.any_append]
  by_cases hin : (L[j].1 : Int) ≤ i ∧ (i : Int) < (L[j].1 : Int) + (L[j].2 : Int)
  · rw [if_pos hin]
    have : L[j].1 ≤ i ∧ i < L[j].1 + L[j].2 := by omega
    simp [this]
  · rw [if_neg hin]
    have : ¬ (L[j].1 ≤ i ∧ i < L[j].1 + L[j].2) := by omega
    simp [this]
theorem live_none (n : Nat) : liveL n [] = List.replicate n false := by
  unfold liveL
  exact ext_at (by simp) (fun i hi => by rw [at_map_range]; simp [at_, List.getD_eq_getElem?_getD, List.getElem?_replicate, liveB]; split <;> rfl)
end Go.Proofs.YtlkifhoedfjlaaaDoor

namespace Go.Proofs.YtlkifhoedfjlaaaDoor
open Go.RowKit Word

/-- A table t lies in w, all of it from block F on: of the words of the objects L, blocks of B. -/
def OffT (w : World) (F t n B : Nat) (L : List Ob) : Prop :=
  Good n L ∧ t < w.heap.size ∧ F ≤ t ∧ ∃ v vb x p b a, w.cell? ⟨t, 0, none⟩ = some (.pointer (some ⟨v, 0, none⟩)) ∧ w.cell? ⟨t, 1, none⟩ = some (.pointer (some ⟨x, 0, none⟩)) ∧ Vec w v vb (liveL n L) ∧ Idx w x p b a (liveL n L) B ∧
    F ≤ v ∧ F ≤ vb ∧ F ≤ x ∧ F ≤ p ∧ F ≤ b ∧ F ≤ a
theorem OffT.touch {S : Nat → Prop} {w w' : World} {F t n B : Nat} {L : List Ob} (h : OffT w F t n B L) (ht : Touch S w w') (hS : ∀ k, F ≤ k → k < w.heap.size → ¬ S k) : OffT w' F t n B L := by
  obtain ⟨hg, h1, h2, v, vb, x, p, b, a, c0, c1, hV, hX, k1, k2, k3, k4, k5, k6⟩ := h
  exact ⟨hg, Nat.lt_of_lt_of_le h1 ht.size, h2, v, vb, x, p, b, a, (ht.cell h1 (hS t h2 h1) 0).trans c0, (ht.cell h1 (hS t h2 h1) 1).trans c1, hV.touch ht (hS v k1 hV.hp) (hS vb k2 hV.hb), hX.touch ht (hS x k3 hX.hx) (hS p k4 hX.vec.hp) (hS b k5 hX.vec.hb) (hS a k6 hX.ha), k1, k2, k3, k4, k5, k6⟩
theorem OffT.gr {w w' : World} {F t n B : Nat} {L : List Ob} (h : OffT w F t n B L) (g : Gr w w') : OffT w' F t n B L := h.touch (g.touch (fun _ => False)) (fun _ _ _ h => h)
section
variable {w : World} {F t n B : Nat} {L : List Ob}
theorem off_word (hO : OffT w F t n B L) (hT : TabAt w) (k : Int) :
    Gets Tryd.prog 14 #[.pointer (some ⟨t, 0, none⟩), .int .i64 k] w (.tuple #[.int .i64 (wordV L k), .bool (wordY L k)]) := by
  obtain ⟨hg, h1, h2, v, vb, x, p, b, a, c0, c1, hV, hX, -⟩ := hO
  rw [← (pickV_live hg k).1, ← (pickV_live hg k).2]
  have HX := hid hX
  have HT := hid hT
  clear hX hT hV
  unfold Gets
  go_enter Tryd.func14, Tryd.ntmps14
  go_wp2_with (go_at_call 58; refine (rank_pick HX.out HT.out k).mono ?_; rintro e w1 ⟨rfl, hg1⟩)
  go_ret2
  exact ⟨rfl, hg1⟩
theorem off_word_nil (k : Int) : Gets Tryd.prog 14 #[.pointer none, .int .i64 k] w (.tuple #[.int .i64 0, .bool false]) := by
  unfold Gets
  go_enter Tryd.func14, Tryd.ntmps14
  go_wp2
  go_ret2
  exact ⟨rfl, Gr.refl _⟩
theorem off_blocks (hO : OffT w F t n B L) : Calls Tryd.prog 16 #[.pointer (some ⟨t, 0, none⟩)] w fun e w' => e = .returned (.int .i64 (nbl n B : Nat)) ∧ w = w' := by
  obtain ⟨hg, h1, h2, v, vb, x, p, b, a, c0, c1, hV, hX, -⟩ := hO
  have HX := hid hX
  have HL := hid (liveL_len n L)
  clear hX hV
  go_enter Tryd.func16, Tryd.ntmps16
  go_wp2_with (go_at_call 60; refine (rank_blocks HX.out).mono ?_; rintro e w1 ⟨rfl, rfl⟩; rw [HL.out])
  go_ret
  exact ⟨rfl, rfl⟩
theorem off_blocks_nil (w : World) : Calls Tryd.prog 16 #[.pointer none] w fun e w' => e = .returned (.int .i64 0) ∧ w = w' := by
  go_enter Tryd.func16, Tryd.ntmps16
  go_wp2
  go_ret
  exact ⟨rfl, rfl⟩
theorem off_live_nil (w : World) : Calls Tryd.prog 17 #[.pointer none] w fun e w' => e = .returned (.int .i64 0) ∧ w = w' := by
  go_enter Tryd.func17, Tryd.ntmps17
  go_wp2
  go_ret
  exact ⟨rfl, rfl⟩
theorem off_before_nil (k : Int) (w : World) : Calls Tryd.prog 15 #[.pointer none, .int .i64 k] w fun e w' => e = .returned (.int .i64 0) ∧ w = w' := by
  go_enter Tryd.func15, Tryd.ntmps15
  go_wp2
  go_ret
  exact ⟨rfl, rfl⟩
theorem off_ahead_nil (k : Int) (w : World) : Calls Tryd.prog 13 #[.pointer none, .int .i64 k] w fun e w' => e = .returned (.tuple #[.int .i64 0, .int .i64 9]) ∧ w = w' := by
  go_enter Tryd.func13, Tryd.ntmps13
  go_wp2
  go_ret2
  exact ⟨rfl, rfl⟩
theorem off_is_nil (k : Int) (w : World) : Calls Tryd.prog 18 #[.pointer none, .int .i64 k] w fun e w' => e = .returned (.bool false) ∧ w = w' := by
  go_enter Tryd.func18, Tryd.ntmps18
  go_wp2
  go_ret
  exact ⟨rfl, rfl⟩
theorem off_before (hO : OffT w F t n B L) (i : Int) : Gets Tryd.prog 15 #[.pointer (some ⟨t, 0, none⟩), .int .i64 i] w (.int .i64 (overs L 0 i)) := by
  obtain ⟨hg, h1, h2, v, vb, x, p, b, a, c0, c1, hV, hX, -⟩ := hO
  rw [← countL_live hg]
  have HX := hid hX
  clear hX hV
  unfold Gets
  go_enter Tryd.func15, Tryd.ntmps15
  go_wp2_with (go_at_call 59; refine (rank_before HX.out i).mono ?_; rintro e w1 ⟨rfl, hg1⟩)
  go_ret
  exact ⟨rfl, hg1⟩
theorem off_ahead (hO : OffT w F t n B L) (i : Int) : Calls Tryd.prog 13 #[.pointer (some ⟨t, 0, none⟩), .int .i64 i] w fun e w' => e = .returned (.tuple #[.int .i64 (aheadV (liveL n L) B i), .int .i64 (aheadE n B i)]) ∧ w = w' := by
  obtain ⟨hg, h1, h2, v, vb, x, p, b, a, c0, c1, hV, hX, -⟩ := hO
  have HX := hid hX
  have HL := hid (liveL_len n L)
  clear hX hV
  go_enter Tryd.func13, Tryd.ntmps13
  go_wp2_with (go_at_call 57; refine (rank_ahead HX.out i).mono ?_; rintro e w1 ⟨rfl, rfl⟩; rw [HL.out])
  go_ret2
  exact ⟨rfl, rfl⟩
theorem off_is (hO : OffT w F t n B L) (i : Int) : Calls Tryd.prog 18 #[.pointer (some ⟨t, 0, none⟩), .int .i64 i] w fun e w' => e = .returned (.bool (decide (0 ≤ i) && liveB L i.toNat)) ∧ w = w' := by
  obtain ⟨hg, h1, h2, v, vb, x, p, b, a, c0, c1, hV, hX, -⟩ := hO
  rw [← at_live hg]
  have HV := hid hV
  clear hX hV
  go_enter Tryd.func18, Tryd.ntmps18
  go_wp2_with (go_at_call 62; refine (test_any HV.out i).mono ?_; rintro e w1 ⟨rfl, rfl⟩)
  go_ret
  exact ⟨rfl, rfl⟩
theorem off_live (hO : OffT w F t n B L) : Calls Tryd.prog 17 #[.pointer (some ⟨t, 0, none⟩)] w fun e w' => e = .returned (.int .i64 (sizes L : Nat)) ∧ w = w' := by
  obtain ⟨hg, h1, h2, v, vb, x, p, b, a, c0, c1, hV, hX, -⟩ := hO
  have HX := hid hX
  have HL : Hid (cnt (at_ (liveL n L)) (liveL n L).length = sizes L) := ⟨by
    have := cnt_live hg n (Nat.le_refl n)
    rw [overs_all hg] at this
    rw [liveL_len]; omega⟩
  clear hX hV
  go_enter Tryd.func17, Tryd.ntmps17
  go_wp2_with (go_at_call 61; refine (rank_ones HX.out).mono ?_; rintro e w1 ⟨rfl, rfl⟩; rw [HL.out])
  go_ret
  exact ⟨rfl, rfl⟩
end
end Go.Proofs.YtlkifhoedfjlaaaDoor

namespace Go.Proofs.YtlkifhoedfjlaaaDoor
open Go.RowKit Go.Shelf Word
attribute [local go_sem] Oper.semAt_some

theorem off_new_nil (k : Int) (w : World) : Calls Tryd.prog 12 #[.pointer none, .int .i64 k] w fun e w' => e = .returned (.tuple #[.pointer none, .int .i64 9]) ∧ w = w' := by
  refine (callsIn_wide (n := 5)).1 ?_
  refine callsIn_of_wp_marks Tryd.func12 rfl trivial ?_ rfl
  simp only [Tryd.ntmps12, List.size_toArray, List.length_cons, List.length_nil, Nat.reduceAdd, Nat.reduceSub, Array.replicate_succ, Array.replicate_zero, List.push_toArray, List.append_toArray, List.nil_append, List.cons_append]
  gi_wp2_with (refine ⟨trivial, ?_⟩; gi_at_call 52; refine (callsIn_wide.2 (ext_words_nil _)).mono ?_; rintro e w1 ⟨rfl, rfl⟩)
  refine ⟨.tuple #[.pointer none, .int .i64 9], ?_, rfl, rfl⟩
  simp [results, Tryd.f12, go_sem]
/-- Between two rounds of New. -/
structure OffI (W0 : World) (v vb n : Nat) (L : List Ob) (j : Nat) (A : World) : Prop where
  t : Touch (fun i => i = vb ∨ W0.heap.size ≤ i) W0 A
  jl : j ≤ L.length
  vec : Vec A v vb (liveL n (L.take j))
def NewOff (w : World) (n : Nat) (L : List Ob) (k : Int) (e : Ending) (w' : World) : Prop :=
  Gr w w' ∧ ((blockOk k = false ∧ e = .returned (.tuple #[.pointer none, .int .i64 5])) ∨ (blockOk k = true ∧ ∃ t B : Nat, k = B ∧ e = .returned (.tuple #[.pointer (some ⟨t, 0, none⟩), .int .i64 0]) ∧ OffT w' w.heap.size t n B L))
set_option maxRecDepth 100000 in
set_option maxHeartbeats 3200000 in
theorem off_new {w : World} {m p1 b1 p2 b2 n : Nat} {L : List Ob} (hE : Ext w m p1 b1 p2 b2 n L) (hT : TabAt w) (k : Int) (hk : k ≤ 9223372036854775807) :
    Calls Tryd.prog 12 #[.pointer (some ⟨m, 0, none⟩), .int .i64 k] w (NewOff w n L k) := by
  have HE := hid hE
  have HT := hid hT
  obtain ⟨hn1, hn2⟩ := hE.nb
  have hn0 : ((n : Int) == 0) = false := beq_eq_false_iff_ne.2 (by omega)
  clear hE hT
  refine (callsIn_wide (n := 5)).1 ?_
  refine callsIn_of_wp_marks Tryd.func12 rfl trivial ?_ rfl
  simp only [Tryd.ntmps12, List.size_toArray, List.length_cons, List.length_nil, Nat.reduceAdd, Nat.reduceSub, Array.replicate_succ, Array.replicate_zero, List.push_toArray, List.append_toArray, List.nil_append, List.cons_append]
  gi_wp2_with (first
    | (refine ⟨trivial, ?_⟩; gi_at_call 52; refine (callsIn_wide.2 (ext_words HE.out)).mono ?_; rintro e w1 ⟨rfl, rfl⟩)
    | (refine ⟨trivial, ?_⟩; gi_at_call 53; refine (callsIn_wide.2 (new_vec n hn1 hn2 _)).mono ?_; rintro e w1 ⟨v, vb, rfl, hg1, hV1, hv, hvb⟩; have HG1 := hid hg1; have HV1 := hid hV1; have HP := hid (And.intro hv hvb); clear hg1 hV1 hv hvb)
    | (refine ⟨trivial, ?_⟩; gi_at_call 54; refine (callsIn_wide.2 (all_call (some ⟨m, 0, none⟩))).mono ?_; rintro e w2 ⟨rfl, rfl⟩))
  obtain ⟨X, hX⟩ : ∃ X, X = w1.heap.size := ⟨_, rfl⟩
  obtain ⟨W0, hW0⟩ : ∃ W0, W0 = (w1.alloc (.cells #[.pointer (some ⟨v, 0, none⟩)] 85)).alloc (.cells #[.pointer (some ⟨m, 0, none⟩)] 22) := ⟨_, rfl⟩
  have hg0 : Gr w1 W0 := by rw [hW0]; exact ((Gr.refl w1).alloc _).alloc _
  have hs0 : W0.heap.size = X + 2 := by rw [hW0, hX]; simp
  have e0 : W0.cell? ⟨X, 0, none⟩ = some (.pointer (some ⟨v, 0, none⟩)) := by rw [hW0, hX]; exact ((Boxed.new w1 _ _).alloc _).cell
  have e1 : W0.cell? ⟨X + 1, 0, none⟩ = some (.pointer (some ⟨m, 0, none⟩)) := by
    rw [hW0, hX]
    have := Boxed.new (w1.alloc (.cells #[.pointer (some ⟨v, 0, none⟩)] 85)) 22 (.pointer (some ⟨m, 0, none⟩))
    rw [World.size_alloc] at this
    exact this.cell
  have hz1 := HG1.out.size
  have hz2 := HV1.out.hp
  have hz3 := HV1.out.hb
  have hz4 := HP.out.1
  have hz5 := HP.out.2
  rw [← hX] at hz1 hz2 hz3
  have o1 := HE.out.hm
  have o2 := HE.out.v1.hp
  have o3 := HE.out.v1.hb
  have o4 := HE.out.v2.hp
  have o5 := HE.out.v2.hb
  have o6 := HT.out.lt
  have HG0 := hid (HG1.out.trans hg0)
  have HE0 := hid (HE.out.gr (HG1.out.trans hg0))
  have HV0 := hid (HV1.out.gr hg0)
  have hgood := HE.out.good
  have HC0 := hid (And.intro e0 e1)
  rw [← hW0, ← hX]
  clear hW0 hX hg0 e0 e1
  have h00 : OffI W0 v vb n L 0 W0 := ⟨Touch.refl _ _, Nat.zero_le _, by show Vec W0 v vb (liveL n []); rw [live_none]; exact HV0.out⟩
  have tI : ∀ j A B, OffI W0 v vb n L j A → Touch (fun i => W0.heap.size ≤ i) A B → OffI W0 v vb n L j B := fun j A B h t =>
    ⟨h.t.trans (t.mono (fun i _ h => .inr h)), h.jl, h.vec.touch t (by omega) (by omega)⟩
  refine range_lawT (s0 := 0) rfl (by omega) (gf := 78) (lb := #[.pointer (some ⟨X + 1, 0, none⟩)]) rfl trivial (enters_of Tryd.func78 (by kernel_rfl) rfl)
    (all_seq _ (X + 1) m p1 b1 p2 b2 n L _) (fun _ => rfl)
    (OffI W0 v vb n L) (fun _ _ => False) tI (fun _ _ _ h _ => h)
    (fun j A h => ⟨HE0.out.touch h.t (by omega) (by omega) (by omega) (by omega) (by omega), (HG0.out.tab HT.out.lt HT.out).touch' h.t (by omega), (h.t.cell (by omega) (by omega) 0).trans HC0.out.2, h.jl⟩)
    h00 ?round ?done (fun _ _ _ _ h _ => h.elim)
  case round =>
    intro lp j x W3 hsz3 hI3 hgv
    dsimp only [encO]
    gi_wp2
    refine ⟨Gr.refl _, fun W4 ht4 hI4 => ?_⟩
    have hjl : j < L.length := by
      rcases Nat.lt_or_ge j L.length with h | h
      · exact h
      · unfold AllGives at hgv; rw [List.getElem?_eq_none h] at hgv; cases hgv
    obtain rfl : x = L[j] := by unfold AllGives at hgv; rw [List.getElem?_eq_getElem hjl] at hgv; exact (Option.some.inj hgv).symm
    have hsz' := hgood.sz _ (List.getElem_mem hjl)
    have HLV := hid (live_take (n := n) hjl)
    have c6 := (hI4.t.cell (b := X) (by omega) (by omega) 0).trans HC0.out.1
    have HI4 := hid hI4
    clear hI4 hI3 ht4 hgv
    gi_wp2_with (refine ⟨trivial, ?_⟩; gi_at_call 55; refine (CallsIn.inRound lp (callsIn_wide.2 (fill_vec HI4.out.vec _ _ (by omega)))).mono ?_; rintro e w5 ⟨rfl, ht5, hv5⟩)
    rw [← HLV.out] at hv5
    exact ⟨ht5.mono (fun i _ h => by have h : i = vb := h; omega), j + 1, rfl, HI4.out.t.trans (ht5.mono (fun i _ h => .inl h)), by omega, hv5⟩
  case done =>
    rintro D j W3 hD rfl hI3 hK
    have c6 := (hI3.t.cell (b := X) (by omega) (by omega) 0).trans HC0.out.1
    have hV3 := hI3.vec
    rw [List.take_length] at hV3
    have HV3 := hid hV3
    have HT3 := hid hI3.t
    have HK := hid hK
    have HD := hid hD
    have hg3 : Gr w W3 := ((HG0.out.touch (fun _ => False)).trans' hI3.t (fun i hi h => by omega)).gr
    have HG3 := hid hg3
    have hz6 := hI3.t.size
    clear hV3 hI3 hK hD hg3
    cases hb : blockOk k with
    | false =>
      have HB := hid hb
      gi_wp2_with (refine ⟨trivial, ?_⟩; gi_at_call 56; refine (callsIn_wide.2 (rank_new_bad HV3.out k HB.out hk)).mono ?_; rintro e w4 ⟨rfl, rfl⟩)
      refine ⟨by simp, .inl ⟨_, _, rfl, run_takeDeferred HK.out, ?_⟩⟩
      refine ⟨.tuple #[.pointer none, .int .i64 5], ?_, ((HG3.out.touch (fun _ => False)).trans' (touch_putObj _ D _ (Nat.le_refl D)) (fun i hi h => by have := HD.out; omega)).gr, .inl ⟨HB.out, rfl⟩⟩
      simp [results, Tryd.f12, go_sem]
    | true =>
      have hbp := blockOk_pos hb
      obtain ⟨B, rfl⟩ : ∃ B : Nat, k = B := ⟨k.toNat, by omega⟩
      have HB := hid hb
      gi_wp2_with (refine ⟨trivial, ?_⟩; gi_at_call 56; refine (callsIn_wide.2 (rank_new_in HV3.out B HB.out)).mono ?_; rintro e w4 ⟨x, p, b, a, rfl, hg4, hX4, hx1, hx2, hx3, hx4⟩; have c64 := (hg4.cell (lt_cell c6) 0).trans c6; have HG4 := hid hg4; have HX4 := hid hX4; have HZ4 := hid (And.intro hx1 (And.intro hx2 (And.intro hx3 hx4))); clear hg4 hX4 hx1 hx2 hx3 hx4)
      have hD5 : (w4.alloc (.cells #[.pointer (some ⟨v, 0, none⟩), .pointer (some ⟨x, 0, none⟩)] 95)).heap[D]? = some (.deferred (some [])) :=
        (((HG4.out.alloc _).block (Array.getElem?_eq_some_iff.1 HK.out).1)).trans HK.out
      have tt := ((HG3.out.trans (HG4.out.alloc (.cells #[.pointer (some ⟨v, 0, none⟩), .pointer (some ⟨x, 0, none⟩)] 95))).touch (fun _ => False)).trans' (touch_putObj _ D (.deferred none) (Nat.le_refl D)) (fun i hi h => by have := HD.out; omega)
      refine ⟨by simp, .inl ⟨_, _, rfl, run_takeDeferred hD5, ?_⟩⟩
      refine ⟨.tuple #[.pointer (some ⟨w4.heap.size, 0, none⟩), .int .i64 0], ?_, tt.gr, .inr ⟨HB.out, w4.heap.size, B, rfl, rfl, ?_⟩⟩
      · simp [results, Tryd.f12, go_sem]
      · have t5 := touch_put1 (w4.alloc (.cells #[.pointer (some ⟨v, 0, none⟩), .pointer (some ⟨x, 0, none⟩)] 95)) D (.deferred none)
        have hs4 := HG4.out.size
        have hz := HZ4.out
        have hdl := (Array.getElem?_eq_some_iff.1 HK.out).1
        have hd := HD.out
        have hl : w4.heap.size < (w4.alloc (.cells #[.pointer (some ⟨v, 0, none⟩), .pointer (some ⟨x, 0, none⟩)] 95)).heap.size := by rw [World.size_alloc]; omega
        exact ⟨hgood, Nat.lt_of_lt_of_le hl t5.size, by omega, v, vb, x, p, b, a, (t5.cell (b := w4.heap.size) hl (by omega) 0).trans (World.cell?_alloc_new ..), (t5.cell (b := w4.heap.size) hl (by omega) 1).trans (World.cell?_alloc_new ..),
          ((HV3.out.gr HG4.out).gr ((Gr.refl _).alloc _)).touch t5 (by omega) (by omega), (HX4.out.gr ((Gr.refl _).alloc _)).touch t5 (by omega) (by omega) (by omega) (by omega), by omega, by omega, by omega, by omega, by omega, by omega⟩
end Go.Proofs.YtlkifhoedfjlaaaDoor
