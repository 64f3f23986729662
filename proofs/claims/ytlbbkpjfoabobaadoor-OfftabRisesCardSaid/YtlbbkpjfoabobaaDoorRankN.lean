/- rank.New. -/
import Derived.Test.YtlbbkpjfoabobaaDoorRankD
import Derived.Test.YtlbbkpjfoabobaaDoorOwn
import Derived.Test.YtlbbkpjfoabobaaDoorMix
namespace Go.Proofs.YtlbbkpjfoabobaaDoor
open Go.RowKit Word

theorem infoInt : (Tryd.prog.info? 3).map (fun i => (i.zero, i.size, i.bytes)) = some (some (.int .i64 0), 1, 8) := by kernel_rfl
/-- An index of the bits l, apart from all that was there. -/
def NewIdx (w : World) (l : List Bool) (B : Nat) (e : Ending) (w' : World) : Prop :=
  ∃ x p b a, e = .returned (.tuple #[.pointer (some ⟨x, 0, none⟩), .int .i64 0]) ∧ Gr w w' ∧ Idx w' x p b a l B ∧ w.heap.size ≤ x ∧ w.heap.size ≤ p ∧ w.heap.size ≤ b ∧ w.heap.size ≤ a
def aheads (l : List Bool) (B k : Nat) : List Value := (List.range k).map fun j => Value.int .i64 (cnt (at_ l) (j * B) : Nat)
theorem aheads_succ (l : List Bool) (B k : Nat) : aheads l B (k + 1) = aheads l B k ++ [.int .i64 (cnt (at_ l) (k * B) : Nat)] := by
  unfold aheads; rw [List.range_succ, List.map_append]; rfl
/-- What holds between two blocks: k entries are laid, m blocks are counted. -/
structure NewAt (w : World) (l : List Bool) (B X p b BASE k m : Nat) (v : Value) (wr : World) : Prop where
  gr : Gr w wr
  vec : Vec wr p b l
  own : wr.ownsRow BASE 3 1 v k (aheads l B k)
  c0 : wr.cell? ⟨X, 0, none⟩ = some (.pointer (some ⟨p, 0, none⟩))
  c1 : wr.cell? ⟨X, 1, none⟩ = some v
  c2 : wr.cell? ⟨X, 2, none⟩ = some (.int .i64 B)
  c3 : wr.cell? ⟨X, 3, none⟩ = some (.int .i64 (countL l 0 (m * B : Nat) : Nat))
  free : ∀ o, wr.frozen? ⟨X, o, none⟩ = false
  lt : X < BASE
  ltp : p < X
  ltb : b < X
  ge : w.heap.size ≤ p ∧ w.heap.size ≤ b
  base : BASE ≤ wr.heap.size
theorem NewAt.far {w : World} {l : List Bool} {B X p b BASE k m : Nat} {v : Value} {wr : World} (h : NewAt w l B X p b BASE k m v wr) : v.ownBlock ≠ some X := fun e => by
  have := (own_lt h.own e).1; have := h.lt; omega
theorem NewAt.grow {w : World} {l : List Bool} {B X p b BASE k m : Nat} {v : Value} {wr wr' : World} (h : NewAt w l B X p b BASE k m v wr) (g : Gr wr wr') : NewAt w l B X p b BASE k m v wr' := by
  have hX : X < wr.heap.size := by have := h.lt; have := h.base; omega
  exact ⟨h.gr.trans g, h.vec.gr g, own_gr h.own g, (g.cell hX 0).trans h.c0, (g.cell hX 1).trans h.c1, (g.cell hX 2).trans h.c2, (g.cell hX 3).trans h.c3, fun o => (g.frozen hX o).trans (h.free o), h.lt, h.ltp, h.ltb, h.ge, Nat.le_trans h.base g.size⟩
/-- Behind the append and the store into the field. -/
theorem NewAt.append {w : World} {l : List Bool} {B X p b BASE k m : Nat} {v : Value} {wr w1 : World} (h : NewAt w l B X p b BASE k m v wr) {g c : Nat}
    (hown : w1.ownsRow BASE 3 1 (.slice (some ⟨g, 0, none⟩) (k + 1) c) (k + 1) (aheads l B (k + 1))) (hgrow : wr.grownBy w1 v.ownBlock) :
    NewAt w l B X p b BASE (k + 1) m (.slice (some ⟨g, 0, none⟩) (k + 1) c) (w1.setCell ⟨X, 1, none⟩ (.slice (some ⟨g, 0, none⟩) (k + 1) c)) := by
  have hX : X < wr.heap.size := by have := h.lt; have := h.base; omega
  have t : Touch (fun i => v.ownBlock = some i) wr w1 := grown_touch hgrow _ (fun k e _ => e)
  have t2 : Touch (fun i => i = X) w1 (w1.setCell ⟨X, 1, none⟩ (.slice (some ⟨g, 0, none⟩) (k + 1) c)) := (Touch.refl (fun i => i = X) w1).setCell (a := ⟨X, 1, none⟩) (fun _ => rfl) _
  have far : ∀ i, i < BASE → v.ownBlock ≠ some i := fun i hi e => by have := (own_lt h.own e).1; omega
  have hX1 : X < w1.heap.size := Nat.lt_of_lt_of_le hX t.size
  have e : ∀ o, w1.cell? ⟨X, o, none⟩ = wr.cell? ⟨X, o, none⟩ := fun o => t.cell hX (far X h.lt) o
  have o : ∀ o, o ≠ 1 → (w1.setCell ⟨X, 1, none⟩ (.slice (some ⟨g, 0, none⟩) (k + 1) c)).cell? ⟨X, o, none⟩ = wr.cell? ⟨X, o, none⟩ := fun o ho => by
    rw [World.cell?_setCell_other (h := by intro e2; injection e2 with _ e3; omega), e o]
  have hp := h.ltp
  have hb := h.ltb
  have hl := h.lt
  refine ⟨?_, ?_, ?_, (o 0 (by omega)).trans h.c0, ?_, (o 2 (by omega)).trans h.c2, (o 3 (by omega)).trans h.c3, ?_, h.lt, h.ltp, h.ltb, h.ge, Nat.le_trans h.base (Nat.le_trans t.size t2.size)⟩
  · refine (((h.gr.touch (fun _ => False)).trans' t (fun i hi e => ?_)).trans' t2 (fun i hi e => ?_)).gr
    · have := (own_lt h.own e).1; have := h.ge; omega
    · have e : i = X := e; have := h.ge; omega
  · exact (h.vec.touch t (far p (by omega)) (far b (by omega))).touch t2 (by omega) (by omega)
  · refine own_touch hown t2 (fun i hi e => ?_)
    have e : i = X := e
    have := (own_lt hown hi).1; omega
  · exact World.cell?_setCell_same (h := (e 1).trans h.c1) ..
  · intro o
    rw [World.frozen?_setCell, t.frozen hX (far X h.lt)]; exact h.free o
theorem NewAt.count {w : World} {l : List Bool} {B X p b BASE k m : Nat} {v : Value} {wr : World} (h : NewAt w l B X p b BASE k m v wr) {m' : Nat} {z : Int} (hz : z = (countL l 0 (m' * B : Nat) : Nat)) :
    NewAt w l B X p b BASE k m' v (wr.setCell ⟨X, 3, none⟩ (.int .i64 z)) := by
  have hX : X < wr.heap.size := by have := h.lt; have := h.base; omega
  have t2 : Touch (fun i => i = X) wr (wr.setCell ⟨X, 3, none⟩ (.int .i64 z)) := (Touch.refl (fun i => i = X) wr).setCell (a := ⟨X, 3, none⟩) (fun _ => rfl) _
  have hp := h.ltp
  have hb := h.ltb
  have hl := h.lt
  have o : ∀ o, o ≠ 3 → (wr.setCell ⟨X, 3, none⟩ (.int .i64 z)).cell? ⟨X, o, none⟩ = wr.cell? ⟨X, o, none⟩ := fun o ho => by
    rw [World.cell?_setCell_other (h := by intro e2; injection e2 with _ e3; omega)]
  refine ⟨?_, h.vec.touch t2 (by omega) (by omega), ?_, (o 0 (by omega)).trans h.c0, (o 1 (by omega)).trans h.c1, (o 2 (by omega)).trans h.c2, ?_, ?_, h.lt, h.ltp, h.ltb, h.ge, Nat.le_trans h.base t2.size⟩
  · refine ((h.gr.touch (fun _ => False)).trans' t2 (fun i hi e => ?_)).gr
    have e : i = X := e; have := h.ge; omega
  · refine own_touch h.own t2 (fun i hi e => ?_)
    have e : i = X := e
    have := (own_lt h.own hi).1; omega
  · rw [hz]; exact World.cell?_setCell_same (h := h.c3) ..
  · intro o
    rw [World.frozen?_setCell]; exact h.free o
theorem NewAt.done {w : World} {l : List Bool} {B X p b BASE k : Nat} {v : Value} {wr : World} (h : NewAt w l B X p b BASE k k v wr) (h1 : 1 ≤ B) (h2 : B ≤ 1024) (hk : k = nbl l.length B) (hl : l.length ≤ k * B) :
    ∃ a, Idx wr X p b a l B ∧ w.heap.size ≤ a := by
  have hn := h.vec.n1
  have hk0 : k ≠ 0 := by rintro rfl; omega
  obtain ⟨g, c, rfl, hg1, hg2, hg3, hg4⟩ := own_form h.own hk0
  have := h.lt
  have hb := h.base
  refine ⟨g, ⟨h.vec, h1, h2, by omega, hg4, h.c0, ⟨c, by rw [h.c1, hk]⟩, h.c2, ?_, fun j hj => ?_⟩, by have := h.ge; have := h.ltp; omega⟩
  · rw [h.c3, countL_all l (by omega)]
  · refine own_cell h.own ?_
    unfold aheads
    rw [List.getElem?_map, List.getElem?_range (by omega)]; rfl
set_option maxRecDepth 100000 in
set_option maxHeartbeats 800000 in
theorem new_start {w w1 : World} {l : List Bool} {B q r : Nat} {T : TypeId} (hg : Gr w w1) (hV : Vec w1 q r l) (h1 : w.heap.size ≤ q) (h2 : w.heap.size ≤ r) :
    NewAt w l B w1.heap.size q r (w1.heap.size + 1) 0 0 (.slice none 0 0) (w1.alloc (.cells #[.pointer (some ⟨q, 0, none⟩), .slice none 0 0, .int .i64 B, .int .i64 0] T)) := by
  have hp := hV.hp
  have hb := hV.hb
  refine ⟨hg.alloc _, hV.gr ((Gr.refl w1).alloc _), own_nil _ _ _ _, World.cell?_alloc_new .., World.cell?_alloc_new .., World.cell?_alloc_new .., ?_, fun o => World.frozen?_alloc_new .., by omega, hp, hb, ⟨h1, h2⟩, by simp⟩
  rw [show countL l 0 ((0 * B : Nat) : Int) = 0 from countL_none l (by simp)]
  exact World.cell?_alloc_new ..
theorem rank_new_nil (n : Int) (w : World) : Calls Tryd.prog 34 #[.pointer none, .int .i64 n] w fun e w' => e = .returned (.tuple #[.pointer none, .int .i64 9]) ∧ w = w' := by
  go_enter Tryd.func34, Tryd.ntmps34
  go_wp2
  go_ret2
  exact ⟨ret2 rfl rfl, rfl⟩
set_option maxRecDepth 100000 in
set_option maxHeartbeats 800000 in
theorem rank_new_bad {w : World} {p b : Nat} {l : List Bool} (hV : Vec w p b l) (n : Int) (hn : blockOk n = false) (hn2 : n ≤ 9223372036854775807) :
    Calls Tryd.prog 34 #[.pointer (some ⟨p, 0, none⟩), .int .i64 n] w fun e w' => e = .returned (.tuple #[.pointer none, .int .i64 5]) ∧ w = w' := by
  have n1 : ((l.length : Int) == 0) = false := by have := hV.n1; exact beq_eq_false_iff_ne.2 (by omega)
  have HV := hid hV
  rw [blockOk_eq] at hn
  cases hp : powB n with
  | false =>
    have HP := hid hp
    clear hp hn hV
    go_enter Tryd.func34, Tryd.ntmps34
    go_wp2_with (first
      | (go_at_call 32; refine (len_vec HV.out).mono ?_; rintro e w1 ⟨rfl, rfl⟩)
      | (go_at_call 86; refine (power_any n hn2 _).mono ?_; rintro e w1 ⟨rfl, rfl⟩; rw [HP.out]))
    go_ret2
    exact ⟨ret2 rfl rfl, rfl⟩
  | true =>
    rw [hp] at hn
    have d1 : decide ((1024 : Int) < n) = true := by simp at hn; simp; omega
    have HP := hid hp
    clear hp hn hV
    go_enter Tryd.func34, Tryd.ntmps34
    go_wp2_with (first
      | (go_at_call 32; refine (len_vec HV.out).mono ?_; rintro e w1 ⟨rfl, rfl⟩)
      | (go_at_call 86; refine (power_any n hn2 _).mono ?_; rintro e w1 ⟨rfl, rfl⟩; rw [HP.out]))
    go_ret2
    exact ⟨ret2 rfl rfl, rfl⟩
set_option maxRecDepth 100000 in
set_option maxHeartbeats 3200000 in
theorem rank_new_in {w : World} {p b : Nat} {l : List Bool} (hV : Vec w p b l) (B : Nat) (hB : blockOk B = true) :
    Calls Tryd.prog 34 #[.pointer (some ⟨p, 0, none⟩), .int .i64 B] w (NewIdx w l B) := by
  have n1 : ((l.length : Int) == 0) = false := by have := hV.n1; exact beq_eq_false_iff_ne.2 (by omega)
  have n2 := hV.n2
  have hb := blockOk_pos hB
  have hb1 : 1 ≤ B := by omega
  have hb2 : B ≤ 1024 := by omega
  have d1 : decide ((1024 : Int) < (B : Int)) = false := by simp; omega
  have HP : Hid (powB B = true) := ⟨by rw [blockOk_eq] at hB; simp at hB; exact hB.1⟩
  obtain ⟨i0, hi, hz0, hz1, hz2⟩ := info_parts infoInt
  have HV := hid hV
  clear hV hB hb
  go_enter Tryd.func34, Tryd.ntmps34
  go_wp2_with (first
    | (go_at_call 32; refine (len_vec HV.out).mono ?_; rintro e w1 ⟨rfl, rfl⟩)
    | (go_at_call 86; refine (power_any B (by omega) _).mono ?_; rintro e w1 ⟨rfl, rfl⟩; rw [HP.out])
    | (go_at_call 39; refine (copy_vec HV.out).mono ?_; rintro e w1 ⟨q, r, rfl, hg1, hV1, hq1, hq2⟩))
  have HN0 := hid (new_start (B := B) (T := 109) hg1 hV1 hq1 hq2)
  generalize w1.alloc (.cells #[.pointer (some ⟨q, 0, none⟩), .slice none 0 0, .int .i64 B, .int .i64 0] 109) = W2 at *
  obtain ⟨X, hX⟩ : ∃ X, X = w1.heap.size := ⟨_, rfl⟩
  rw [← hX] at HN0 ⊢
  clear hX
  clear hg1 hV1 hq1 hq2
  go_loopw [7] (fun s7 wr => ∃ k t v, Hid (NewAt w l B X q r (X + 1) k k v wr) ∧ Hid (t = k * B) ∧ k ≤ t ∧ t ≤ 1048576 + 1024 ∧ Hid (∀ i, i < k → i * B < l.length) ∧ s7 = .int .i64 (t : Nat)) (fun s7 _ => 1048576 + 1025 - (intOf s7).toNat)
  case atStart => exact ⟨0, 0, _, HN0, ⟨by simp⟩, by omega, by omega, ⟨fun i h => by omega⟩, rfl⟩
  case round =>
    obtain ⟨k, t, v, HN, ht, hkt, htb, hno, rfl⟩ := hrel
    by_cases hlt : t < l.length
    · have HNo : Hid (∀ i, i < k + 1 → i * B < l.length) := ⟨fun i h => by
        rcases Nat.lt_or_ge i k with h1 | h1
        · exact hno.out i h1
        · rw [show i = k by omega, ← ht.out]; exact hlt⟩
      have HT2 : Hid (t + B = (k + 1) * B) := ⟨by rw [Nat.succ_mul, ht.out]⟩
      go_upto_region 9 with (go_at_call 32; refine (len_vec (HV.out.gr HN.out.gr)).mono ?_; rintro e w1 ⟨rfl, rfl⟩)
      have c1 := HN.out.c1
      obtain ⟨c, hc⟩ : ∃ c, c = countL l 0 (k * B : Nat) := ⟨_, rfl⟩
      have c3 := HN.out.c3
      have fr := HN.out.free 1
      rw [← hc] at c3
      have hca : aheads l B (k + 1) = aheads l B k ++ [.int .i64 (c : Nat)] := by
        rw [aheads_succ, hc, countL_upto l (by rw [← ht.out]; omega)]
      have HCA := hid hca
      have HC := hid hc
      have HX : Hid (X < wr.heap.size) := ⟨by have := HN.out.base; omega⟩
      clear hca hc
      have KS : Hid (∀ W', Gr wr W' → W'.cell? ⟨X, 1, none⟩ = some v ∧ W'.cell? ⟨X, 3, none⟩ = some (.int .i64 (c : Nat)) ∧ W'.frozen? ⟨X, 1, none⟩ = false) := ⟨fun W' h => ⟨(h.cell HX.out 1).trans c1, (h.cell HX.out 3).trans c3, (h.frozen HX.out 1).trans fr⟩⟩
      obtain ⟨S, hS⟩ : ∃ S : World → Prop, S = fun W' => W'.cell? ⟨X, 1, none⟩ = some v ∧ W'.cell? ⟨X, 3, none⟩ = some (.int .i64 (c : Nat)) ∧ W'.frozen? ⟨X, 1, none⟩ = false := ⟨_, rfl⟩
      have x1 : ∀ p : Held S, p.w.cell? ⟨X, 1, none⟩ = some v := fun p => (Held.get hS p).1
      have x3 : ∀ p : Held S, p.w.cell? ⟨X, 3, none⟩ = some (.int .i64 (c : Nat)) := fun p => (Held.get hS p).2.1
      have hS0 : S wr.drew := by rw [hS]; exact KS.out _ (Gr.refl _).drew
      have HS := hid hS
      clear hS
      have inst : Inhabited (Held S) := ⟨⟨_, hS0⟩⟩
      refine wp_region_mixS S 13 [([0, 1, 2, 3, 4, 5, 6, 7, 8], 9), ([], 10), ([11, 12], 13)] [] (by kernel_rfl) (by kernel_rfl) hS0 ?_
      refine segs_step ?_
      simp only [opsAt, List.getElem?_cons_zero, List.getElem?_cons_succ]
      repeat (go_big_quiet_step (fail))
      refine wpQuiet_nil ?_
      go_wp2
      refine ⟨.inr (Held.of (by rw [HS.out]; exact KS.out _ ((Gr.refl _).alloc _).drew)), ?_⟩
      refine segs_step ?_
      simp only [opsAt, List.getElem?_cons_zero, List.getElem?_cons_succ]
      refine wpQuiet_nil ?_
      go_wp2_with (at_builtin; refine wpList_append_lies _ rfl _ _ 107 rfl (X + 1) 3 i0 _ 1 8 Tryd.underlying107 hi hz0 hz1 hz2 rfl (by omega) v k (aheads l B k) rfl ((HN.out.own.alloc _).drew) ⟨wr.heap.size, 0, none⟩ 1 1 [.int .i64 (c : Nat)] rfl rfl (World.news_of_block (cs := #[.int .i64 (c : Nat)]) (t := 3) (fr := (0, 0)) (heap_alloc_new wr _)) (by simp [Value.oneCell']) (by omega) (by unfold maxLen; omega) (by omega) (by have := HX.out; simp; omega) (wr.heap.size + 1) (by simp) ?_; intro g cp w1 hown1 hgrow hat hlt1)
      go_frame
      have hg0 : Gr wr (wr.alloc (.cells #[.int .i64 (c : Nat)] 3)).drew := ((Gr.refl _).alloc _).drew
      have hK1 : w1.cell? ⟨X, 1, none⟩ = some v ∧ w1.cell? ⟨X, 3, none⟩ = some (.int .i64 (c : Nat)) ∧ w1.frozen? ⟨X, 1, none⟩ = false := by
        have hz := KS.out _ hg0
        exact ⟨(hgrow.cell_far ⟨X, 1, none⟩ (by have := HX.out; simp; omega) (Ne.symm HN.out.far)).trans hz.1, (hgrow.cell_far ⟨X, 3, none⟩ (by have := HX.out; simp; omega) (Ne.symm HN.out.far)).trans hz.2.1,
          (hgrow.frozen_far ⟨X, 1, none⟩ (by have := HX.out; simp; omega) (Ne.symm HN.out.far)).trans hz.2.2⟩
      refine ⟨.inr (Held.of (by rw [HS.out]; exact hK1)), ?_⟩
      have HM := hid ((HN.out.grow hg0).append (by rw [HCA.out]; exact hown1) hgrow)
      have k1 := hK1.1
      have k3 := hK1.2.2
      clear hg0 hown1 hgrow hat hlt1 hK1
      refine segs_step ?_
      simp only [opsAt, List.getElem?_cons_zero, List.getElem?_cons_succ]
      repeat (go_big_quiet_step (fail))
      refine wpQuiet_nil ?_
      go_wp2
      refine ⟨.inl trivial, ?_⟩
      refine segs_end ?_
      refine wpQuiet_nil ?_
      refine NoPanic.normal ?_
      generalize w1.setCell ⟨X, 1, none⟩ (.slice (some ⟨g, 0, none⟩) (k + 1) cp) = W3 at HM ⊢
      generalize (Value.slice (some ⟨g, 0, none⟩) (k + 1) cp) = v3 at HM ⊢
      clear x1 x3 hS0 HS inst k1 k3 KS c1 c3 fr HX
      clear S
      obtain ⟨tb, htb2⟩ : ∃ tb, tb = t + B := ⟨_, rfl⟩
      obtain ⟨d, hd⟩ : ∃ d, d = countL l (t : Int) (tb : Int) := ⟨_, rfl⟩
      obtain ⟨e, he⟩ : ∃ e, e = countL l 0 ((k + 1) * B : Nat) := ⟨_, rfl⟩
      have hcd : (c : Int) + (d : Int) = (e : Int) := by
        have := countL_add l (a := 0) (b := (t : Int)) (c := (tb : Int)) (by omega) (by omega)
        rw [hd, he, HC.out, ← ht.out, ← HT2.out, ← htb2]
        exact this
      have hel : e ≤ l.length := by rw [he]; exact cnt_le _ _
      have hw1 : IntKind.i64.wrap ((t : Int) + (B : Int)) = (tb : Int) := by rw [htb2, IntWalk.i64_in _ (by omega)]; omega
      have hw2 : IntKind.i64.wrap ((c : Int) + (d : Int)) = (e : Int) := by rw [hcd, IntWalk.i64_in _ (by omega)]
      have HD := hid hd
      have HE := hid he
      have HTB := hid htb2
      have k3 : W3.cell? ⟨X, 3, none⟩ = some (.int .i64 (c : Nat)) := by rw [HM.out.c3, HC.out]
      have fr : W3.frozen? ⟨X, 3, none⟩ = false := HM.out.free 3
      have HX : Hid (X < W3.heap.size) := ⟨by have := HM.out.base; omega⟩
      clear hcd hd he htb2
      go_upto_region 10 with (fail)
      obtain ⟨S, hS⟩ : ∃ S : World → Prop, S = fun W' => W'.cell? ⟨X, 3, none⟩ = some (.int .i64 (c : Nat)) := ⟨_, rfl⟩
      have x3 : ∀ p : Held S, p.w.cell? ⟨X, 3, none⟩ = some (.int .i64 (c : Nat)) := fun p => Held.get hS p
      have hS0 : S W3.drew := by rw [hS]; exact k3
      have HS := hid hS
      clear hS
      have inst : Inhabited (Held S) := ⟨⟨_, hS0⟩⟩
      refine wp_region_mixS S 13 [([0, 1, 2, 3, 4, 5, 6, 7, 8], 9), ([10, 11, 12], 13)] [] (by kernel_rfl) (by kernel_rfl) hS0 ?_
      refine segs_step ?_
      simp only [opsAt, List.getElem?_cons_zero, List.getElem?_cons_succ]
      repeat (go_big_quiet_step (fail))
      refine wpQuiet_nil ?_
      go_wp2_with (go_at_call 19; refine (count_vec (HV.out.gr (HM.out.gr.drew)) (t : Int) (tb : Int) (by omega)).mono ?_; rintro e' W4 ⟨rfl, hg4⟩; rw [← HD.out])
      have hg5 : Gr W3 W4 := (Gr.refl W3).drew.trans hg4
      have q3 := (hg5.cell HX.out 3).trans k3
      have qf := (hg5.frozen HX.out 3).trans fr
      have HM4 := hid ((HM.out.grow hg5).count (m' := k + 1) (z := (e : Nat)) (by rw [HE.out]))
      clear hg4 hg5
      refine ⟨.inr (Held.of (by rw [HS.out]; exact q3)), ?_⟩
      refine segs_step ?_
      simp only [opsAt, List.getElem?_cons_zero, List.getElem?_cons_succ]
      repeat (go_big_quiet_step (fail))
      refine wpQuiet_nil ?_
      go_wp2
      refine ⟨.inl trivial, ?_⟩
      refine segs_end ?_
      refine wpQuiet_nil ?_
      refine NoPanic.normal ?_
      generalize W4.setCell ⟨X, 3, none⟩ (.int .i64 (e : Nat)) = W5 at HM4 ⊢
      clear x3 hS0 HS inst q3 qf k3 fr hw1 hw2
      clear S
      go_wp2
      go_roundw
      case rel => exact ⟨k + 1, t + B, v3, HM4, HT2, by omega, by omega, HNo, by go_num⟩
      case measure => simp [intOf]; omega
    · have E := hid (nbl_eq hb1 (show l.length ≤ k * B by rw [← ht.out]; omega) hno.out)
      have HF := hid (HN.out.done hb1 hb2 E.out.symm (by rw [← ht.out]; omega))
      go_wp2_with (go_at_call 32; refine (len_vec (HV.out.gr HN.out.gr)).mono ?_; rintro e w1 ⟨rfl, rfl⟩)
      go_ret2
      obtain ⟨a, hI, ha⟩ := HF.out
      exact ⟨X, q, r, a, ret2 rfl rfl, HN.out.gr, hI, by have := HN.out.ge; have := HN.out.ltp; omega, HN.out.ge.1, HN.out.ge.2, ha⟩
end Go.Proofs.YtlbbkpjfoabobaaDoor
