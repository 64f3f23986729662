/- Layer 22: forward.New. -/
import Derived.Test.YtlkifhoedfjlaaaDoorFwd
namespace Go.Proofs.YtlkifhoedfjlaaaDoor
open Go.RowKit Go.Shelf Word
attribute [local go_sem] Oper.semAt_some

theorem fwd_new_nil (k b : Int) (w : World) : Calls Tryd.prog 22 #[.pointer none, .int .i64 k, .int .i64 b] w fun e w' => e = .returned (.tuple #[.pointer none, .int .i64 9]) ∧ w = w' := by
  refine (callsIn_wide (n := 5)).1 ?_
  refine callsIn_of_wp_marks Tryd.func22 rfl trivial ?_ rfl
  simp only [Tryd.ntmps22, List.size_toArray, List.length_cons, List.length_nil, Nat.reduceAdd, Nat.reduceSub, Array.replicate_succ, Array.replicate_zero, List.push_toArray, List.append_toArray, List.nil_append, List.cons_append]
  gi_wp2_with (refine ⟨trivial, ?_⟩; gi_at_call 12; refine (callsIn_wide.2 (off_new_nil k _)).mono ?_; rintro e w1 ⟨rfl, rfl⟩)
  refine ⟨.tuple #[.pointer none, .int .i64 9], ?_, rfl, rfl⟩
  simp [results, Tryd.f22, go_sem]
/-- Between two rounds of New. -/
structure FwdI (W0 : World) (o p1 b1 p2 b2 n : Nat) (L : List Ob) (j : Nat) (A : World) : Prop where
  t : Touch (fun i => mine o b1 b2 i ∨ W0.heap.size ≤ i) W0 A
  jl : j ≤ L.length
  ext : Ext A o p1 b1 p2 b2 n (L.take j)
def baseOk (b : Int) : Bool := decide (0 ≤ b) && decide (b < 2147483648)
def NewFwd (w : World) (n : Nat) (L : List Ob) (k b : Int) (e : Ending) (w' : World) : Prop :=
  Gr w w' ∧ (((blockOk k && baseOk b) = false ∧ e = .returned (.tuple #[.pointer none, .int .i64 5])) ∨ ((blockOk k && baseOk b) = true ∧ ∃ f B base : Nat, k = B ∧ b = base ∧ e = .returned (.tuple #[.pointer (some ⟨f, 0, none⟩), .int .i64 0]) ∧ Fwd w' w.heap.size f n B base L))
theorem fwd_new_bad {w : World} {m p1 b1 p2 b2 n : Nat} {L : List Ob} (hE : Ext w m p1 b1 p2 b2 n L) (hT : TabAt w) (k b : Int) (hk : k ≤ 9223372036854775807) (hbad : (blockOk k && baseOk b) = false) :
    Calls Tryd.prog 22 #[.pointer (some ⟨m, 0, none⟩), .int .i64 k, .int .i64 b] w (NewFwd w n L k b) := by
  have HE := hid hE
  have HT := hid hT
  clear hE hT
  have HB := hid hbad
  refine (callsIn_wide (n := 5)).1 ?_
  refine callsIn_of_wp_marks Tryd.func22 rfl trivial ?_ rfl
  simp only [Tryd.ntmps22, List.size_toArray, List.length_cons, List.length_nil, Nat.reduceAdd, Nat.reduceSub, Array.replicate_succ, Array.replicate_zero, List.push_toArray, List.append_toArray, List.nil_append, List.cons_append]
  cases hok : blockOk k with
  | false =>
    have HO := hid hok
    clear hbad hok
    gi_wp2_with (refine ⟨trivial, ?_⟩; gi_at_call 12; refine (callsIn_wide.2 (off_new HE.out HT.out k hk)).mono ?_; rintro e w1 ⟨hg1, ⟨-, rfl⟩ | ⟨hb, -⟩⟩; rotate_left; (rw [HO.out] at hb; cases hb); have HG1 := hid hg1; clear hg1)
    refine ⟨.tuple #[.pointer none, .int .i64 5], ?_, HG1.out, .inl ⟨HB.out, rfl⟩⟩
    simp [results, Tryd.f22, go_sem]
  | true =>
    rw [hok, Bool.true_and] at hbad
    have HO := hid hok
    clear hok
    by_cases h0 : b < 0
    · have d0 : decide (b < 0) = true := decide_eq_true h0
      clear hbad
      gi_wp2_with (refine ⟨trivial, ?_⟩; gi_at_call 12; refine (callsIn_wide.2 (off_new HE.out HT.out k hk)).mono ?_; rintro e w1 ⟨hg1, ⟨hb, -⟩ | ⟨-, t, B, hkB, rfl, hO⟩⟩; (rw [HO.out] at hb; cases hb); have HG1 := hid hg1; clear hg1 hO hkB)
      refine ⟨.tuple #[.pointer none, .int .i64 5], ?_, HG1.out, .inl ⟨HB.out, rfl⟩⟩
      simp [results, Tryd.f22, go_sem]
    · have h1 : 2147483648 ≤ b := by
        unfold baseOk at hbad
        rw [decide_eq_true (by omega), Bool.true_and] at hbad
        have := of_decide_eq_false hbad
        omega
      have d0 : decide (b < 0) = false := decide_eq_false h0
      have d1 : decide ((2147483648 : Int) ≤ b) = true := decide_eq_true h1
      clear hbad
      gi_wp2_with (refine ⟨trivial, ?_⟩; gi_at_call 12; refine (callsIn_wide.2 (off_new HE.out HT.out k hk)).mono ?_; rintro e w1 ⟨hg1, ⟨hb, -⟩ | ⟨-, t, B, hkB, rfl, hO⟩⟩; (rw [HO.out] at hb; cases hb); have HG1 := hid hg1; clear hg1 hO hkB)
      refine ⟨.tuple #[.pointer none, .int .i64 5], ?_, HG1.out, .inl ⟨HB.out, rfl⟩⟩
      simp [results, Tryd.f22, go_sem]
set_option maxRecDepth 100000 in
set_option maxHeartbeats 3200000 in
theorem fwd_new {w : World} {m p1 b1 p2 b2 n : Nat} {L : List Ob} (hE : Ext w m p1 b1 p2 b2 n L) (hT : TabAt w) (k b : Int) (hk : k ≤ 9223372036854775807) :
    Calls Tryd.prog 22 #[.pointer (some ⟨m, 0, none⟩), .int .i64 k, .int .i64 b] w (NewFwd w n L k b) := by
  cases hgo : (blockOk k && baseOk b) with
  | false => exact fwd_new_bad hE hT k b hk hgo
  | true =>
    have HGO := hid hgo
    obtain ⟨hok, hbo⟩ := Bool.and_eq_true_iff.1 hgo
    have hb01 : 0 ≤ b ∧ b < 2147483648 := by unfold baseOk at hbo; simpa using hbo
    obtain ⟨base, rfl⟩ : ∃ base : Nat, b = base := ⟨b.toNat, by omega⟩
    obtain ⟨hb0, hb1⟩ := hb01
    have d0 : decide ((base : Int) < 0) = false := decide_eq_false (by omega)
    have d1 : decide ((2147483648 : Int) ≤ (base : Int)) = false := decide_eq_false (by omega)
    have HO := hid hok
    have HE := hid hE
    have HT := hid hT
    obtain ⟨hn1, hn2⟩ := hE.nb
    have hTl := hT.lt
    clear hE hT hok hbo hgo
    refine (callsIn_wide (n := 5)).1 ?_
    refine callsIn_of_wp_marks Tryd.func22 rfl trivial ?_ rfl
    simp only [Tryd.ntmps22, List.size_toArray, List.length_cons, List.length_nil, Nat.reduceAdd, Nat.reduceSub, Array.replicate_succ, Array.replicate_zero, List.push_toArray, List.append_toArray, List.nil_append, List.cons_append]
    gi_wp2_with (first
      | (refine ⟨trivial, ?_⟩; gi_at_call 12; refine (callsIn_wide.2 (off_new HE.out HT.out k hk)).mono ?_; rintro e w1 ⟨hg1, ⟨hb, -⟩ | ⟨-, t, B, hkB, rfl, hO⟩⟩; (rw [HO.out] at hb; cases hb); have HG1 := hid hg1; have HOT := hid hO; have HKB := hid hkB; clear hg1 hO hkB)
      | (refine ⟨trivial, ?_⟩; gi_at_call 52; refine (callsIn_wide.2 (ext_words (HE.out.gr HG1.out))).mono ?_; rintro e w2 ⟨rfl, rfl⟩)
      | (refine ⟨trivial, ?_⟩; gi_at_call 63; refine (callsIn_wide.2 (ext_new n hn1 hn2 _)).mono ?_; rintro e w2 ⟨o, q1, r1, q2, r2, rfl, hg2, hE2, hx1, hx2, hx3, hx4, hx5⟩; have HG2 := hid hg2; have HE2 := hid hE2; have HX := hid (And.intro hx1 (And.intro hx2 (And.intro hx3 (And.intro hx4 hx5)))); clear hg2 hE2 hx1 hx2 hx3 hx4 hx5)
      | (refine ⟨trivial, ?_⟩; gi_at_call 54; refine (callsIn_wide.2 (all_call (some ⟨m, 0, none⟩))).mono ?_; rintro e w3 ⟨rfl, rfl⟩))
    obtain ⟨X, hX⟩ : ∃ X, X = w2.heap.size := ⟨_, rfl⟩
    obtain ⟨W0, hW0⟩ : ∃ W0, W0 = (w2.alloc (.cells #[.pointer (some ⟨o, 0, none⟩)] 22)).alloc (.cells #[.pointer (some ⟨m, 0, none⟩)] 22) := ⟨_, rfl⟩
    have hg0 : Gr w2 W0 := by rw [hW0]; exact ((Gr.refl w2).alloc _).alloc _
    have hs0 : W0.heap.size = X + 2 := by rw [hW0, hX]; simp
    have e0 : W0.cell? ⟨X, 0, none⟩ = some (.pointer (some ⟨o, 0, none⟩)) := by rw [hW0, hX]; exact ((Boxed.new w2 _ _).alloc _).cell
    have e1 : W0.cell? ⟨X + 1, 0, none⟩ = some (.pointer (some ⟨m, 0, none⟩)) := by
      rw [hW0, hX]
      have := Boxed.new (w2.alloc (.cells #[.pointer (some ⟨o, 0, none⟩)] 22)) 22 (.pointer (some ⟨m, 0, none⟩))
      rw [World.size_alloc] at this
      exact this.cell
    have hz1 := HG1.out.size
    have hz2 := HG2.out.size
    have o1 := HE.out.hm
    have o2 := HE.out.v1.hp
    have o3 := HE.out.v1.hb
    have o4 := HE.out.v2.hp
    have o5 := HE.out.v2.hb
    have j1 := HE2.out.hm
    have j2 := HE2.out.v1.hp
    have j3 := HE2.out.v1.hb
    have j4 := HE2.out.v2.hp
    have j5 := HE2.out.v2.hb
    have hx := HX.out
    rw [← hX] at hz2 j1 j2 j3 j4 j5
    have HG0 := hid ((HG1.out.trans HG2.out).trans hg0)
    have HE0 := hid (HE.out.gr HG0.out)
    have HEO := hid (HE2.out.gr hg0)
    have HOG := hid (HG2.out.trans hg0)
    have hgood := HE.out.good
    have HC0 := hid (And.intro e0 e1)
    have HW1 := hid (show w.heap.size ≤ w1.heap.size from hz1)
    rw [← hW0, ← hX]
    clear hW0 hX hg0 e0 e1
    have hml : ∀ i, mine o r1 r2 i → w1.heap.size ≤ i ∧ i < X := fun i h => by rcases h with rfl | rfl | rfl <;> omega
    have h00 : FwdI W0 o q1 r1 q2 r2 n L 0 W0 := ⟨Touch.refl _ _, Nat.zero_le _, HEO.out⟩
    have tI : ∀ j A B, FwdI W0 o q1 r1 q2 r2 n L j A → Touch (fun i => W0.heap.size ≤ i) A B → FwdI W0 o q1 r1 q2 r2 n L j B := fun j A B h t =>
      ⟨h.t.trans (t.mono (fun i _ h => .inr h)), h.jl, h.ext.touch t (by omega) (by omega) (by omega) (by omega) (by omega)⟩
    refine range_lawT (s0 := 0) rfl (by omega) (gf := 78) (lb := #[.pointer (some ⟨X + 1, 0, none⟩)]) rfl trivial (enters_of Tryd.func78 (by kernel_rfl) rfl)
      (all_seq _ (X + 1) m p1 b1 p2 b2 n L _) (fun _ => rfl)
      (FwdI W0 o q1 r1 q2 r2 n L) (fun _ _ => False) tI (fun _ _ _ h _ => h)
      (fun j A h => ⟨HE0.out.touch h.t (fun h => by rcases h with h | h; have := hml _ h; omega; omega) (fun h => by rcases h with h | h; have := hml _ h; omega; omega) (fun h => by rcases h with h | h; have := hml _ h; omega; omega) (fun h => by rcases h with h | h; have := hml _ h; omega; omega) (fun h => by rcases h with h | h; have := hml _ h; omega; omega),
        (HG0.out.tab HT.out.lt HT.out).touch' h.t (fun h => by rcases h with h | h; have := hml _ h; omega; omega), (h.t.cell (by omega) (fun h => by rcases h with h | h; have := hml _ h; omega; omega) 0).trans HC0.out.2, h.jl⟩)
      h00 ?round ?done (fun _ _ _ _ h _ => h.elim)
    case round =>
      intro lp j x W3 hsz3 hI3 hgv
      dsimp only [encO]
      gi_wp2
      refine ⟨Gr.refl _, fun W4 ht4 hI4 => ?_⟩
      have hjl : j < L.length := by
        rcases Nat.lt_or_ge j L.length with h | h
        · exact h
        · unfold AllGives at hgv; rw [List.getElem?_eq_none h] at hgv; cases hgv
      obtain rfl : x = L[j] := by unfold AllGives at hgv; rw [List.getElem?_eq_getElem hjl] at hgv; exact (Option.some.inj hgv).symm
      have hsz' := hgood.sz _ (List.getElem_mem hjl)
      have HLV := hid (add_next hgood hjl)
      have c6 := (hI4.t.cell (b := X) (by omega) (fun h => by rcases h with h | h; have := hml _ h; omega; omega) 0).trans HC0.out.1
      have HTA := hid ((HG0.out.tab HT.out.lt HT.out).touch' hI4.t (fun h => by rcases h with h | h; have := hml _ h; omega; omega))
      have HI4 := hid hI4
      clear hI4 hI3 ht4 hgv
      gi_wp2_with (refine ⟨trivial, ?_⟩; gi_at_call 64; refine (CallsIn.inRound lp (callsIn_wide.2 (ext_add HI4.out.ext HTA.out _ _))).mono ?_; rintro e w5 ⟨rfl, ht5, hv5⟩)
      rw [HLV.out] at hv5
      exact ⟨ht5.mono (fun i _ h => by have := hml _ h; omega), j + 1, rfl, HI4.out.t.trans (ht5.mono (fun i _ h => .inl h)), by omega, hv5⟩
    case done =>
      rintro D j W3 hD rfl hI3 hK
      have c6 := (hI3.t.cell (b := X) (by omega) (fun h => by rcases h with h | h; have := hml _ h; omega; omega) 0).trans HC0.out.1
      have hE3 := hI3.ext
      rw [List.take_length] at hE3
      have HE3 := hid hE3
      have HS3 := hid ((HOG.out.touch (fun i => w1.heap.size ≤ i)).trans' hI3.t (fun i hi h => by rcases h with h | h; exact (hml _ h).1; omega))
      have HK := hid hK
      have HD := hid hD
      have hg3 : Gr w W3 := ((HG0.out.touch (fun _ => False)).trans' hI3.t (fun i hi h => by rcases h with h | h; have := hml _ h; omega; omega)).gr
      have HG3 := hid hg3
      have hz6 := hI3.t.size
      clear hE3 hI3 hK hD hg3
      gi_wp2
      obtain ⟨O, hO⟩ : ∃ O : Obj, O = .cells #[.pointer (some ⟨t, 0, none⟩), .pointer (some ⟨o, 0, none⟩), .int .i64 base] 100 := ⟨_, rfl⟩
      rw [← hO]
      have hD5 : (W3.alloc O).heap[D]? = some (.deferred (some [])) := (((Gr.refl W3).alloc _).block (Array.getElem?_eq_some_iff.1 HK.out).1).trans HK.out
      have tt := ((HG3.out.alloc O).touch (fun _ => False)).trans' (touch_putObj _ D (.deferred none) (Nat.le_refl D)) (fun i hi h => by have := HD.out; have := HG0.out.size; omega)
      refine ⟨by simp, .inl ⟨_, _, rfl, run_takeDeferred hD5, ?_⟩⟩
      refine ⟨.tuple #[.pointer (some ⟨W3.heap.size, 0, none⟩), .int .i64 0], ?_, tt.gr, .inr ⟨HGO.out, W3.heap.size, B, base, HKB.out, rfl, rfl, ?_⟩⟩
      · simp [results, Tryd.f22, go_sem]
      · have t5 := touch_put1 (W3.alloc O) D (.deferred none)
        have hdl := (Array.getElem?_eq_some_iff.1 HK.out).1
        have hd := HD.out
        have hl : W3.heap.size < (W3.alloc O).heap.size := by rw [World.size_alloc]; omega
        subst hO
        exact ⟨Nat.lt_of_lt_of_le hl t5.size, by omega, by omega, t, o, q1, r1, q2, r2, (t5.cell (b := W3.heap.size) hl (by omega) 0).trans (World.cell?_alloc_new ..), (t5.cell (b := W3.heap.size) hl (by omega) 1).trans (World.cell?_alloc_new ..), (t5.cell (b := W3.heap.size) hl (by omega) 2).trans (World.cell?_alloc_new ..),
          HOT.out.touch ((HS3.out.trans (((Gr.refl W3).alloc _).touch _)).trans' t5 (fun i hi h => by omega)) (fun k _ h1 h2 => by omega), (HE3.out.gr ((Gr.refl _).alloc _)).touch t5 (by omega) (by omega) (by omega) (by omega) (by omega), by omega, by omega, by omega, by omega, by omega⟩
end Go.Proofs.YtlkifhoedfjlaaaDoor
