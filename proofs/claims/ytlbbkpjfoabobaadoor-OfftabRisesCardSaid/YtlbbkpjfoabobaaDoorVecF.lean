/- Contracts of bitvec's New and Copy, and of all methods at nil. -/
import Derived.Test.YtlbbkpjfoabobaaDoorVecE
import Derived.WalkSpells
namespace Go.Proofs.YtlbbkpjfoabobaaDoor
open Go.RowKit Word

/-- A new vector of the bits l, apart from all that was there. -/
def NewVec (w : World) (l : List Bool) (e : Ending) (w' : World) : Prop :=
  ∃ p b, e = .returned (.tuple #[.pointer (some ⟨p, 0, none⟩), .int .i64 0]) ∧ Gr w w' ∧ Vec w' p b l ∧ w.heap.size ≤ p ∧ w.heap.size ≤ b
theorem infoU64 : (Tryd.prog.info? 34).map (fun i => (i.zero, i.size, i.bytes)) = some (some (.int .u64 0), 1, 8) := by kernel_rfl
theorem new_none (n : Int) (hn : n < 1 ∨ 1048576 < n) (w : World) :
    Calls Tryd.prog 16 #[.int .i64 n] w fun e w' => e = .returned (.tuple #[.pointer none, .int .i64 5]) ∧ w = w' := by
  rcases hn with h | h
  · go_enter Tryd.func16, Tryd.ntmps16
    go_wp2
    go_ret2
    exact ⟨rfl, rfl⟩
  · have h' : ¬ n < 1 := by omega
    go_enter Tryd.func16, Tryd.ntmps16
    go_wp2
    go_ret2
    exact ⟨rfl, rfl⟩
theorem grownBy_touch {w w' : World} {row : Option Nat} (h : w.grownBy w' row) (S : Nat → Prop) (hS : ∀ k, row = some k → k < w.heap.size → S k) : Touch S w w' :=
  ⟨h.os, h.tape, h.output, h.size, fun k hk hn => h.block k hk (fun e => hn (hS k e.symm hk))⟩

theorem wordOf_none (n i : Nat) : wordOf (List.replicate n false) i = 0 :=
  (wordOf_eq (by decide) (fun j _ => by rw [Nat.zero_testBit]; simp [List.getD_eq_getElem?_getD, List.getElem?_replicate]; split <;> rfl)).symm
theorem made_words (n : Nat) : (madeCells #[.int .u64 0] n).toList = (List.range n).map fun _ => Value.int .u64 ((0 : Nat) : Int) := by
  unfold madeCells; simp [Nat.mod_one]
/-- A vector out of an owned row of words, and a new struct. -/
theorem vec_made {w1 : World} {l : List Bool} (n1 : 1 ≤ l.length) (n2 : l.length ≤ 1048576) {base T b k cap : Nat} {xs : List Value} {E : TypeId}
    (hown : w1.ownsRow base E 1 (.slice (some ⟨b, 0, none⟩) k cap) k xs) (hk : k = nw l) (hcap : cap ≤ maxLen) (hx : xs = (List.range (nw l)).map fun i => Value.int .u64 ((wordOf l i : Nat) : Int)) :
    Vec (w1.alloc (.cells #[.slice (some ⟨b, 0, none⟩) k cap, .int .i64 l.length] T)) w1.heap.size b l ∧ b < w1.heap.size := by
  obtain ⟨hlen, h | ⟨g, c, cur, e1, e2, e3, e4, e5, e6, e7⟩⟩ := hown
  · simp at h
  · simp only [Value.slice.injEq, Option.some.injEq, Addr.mk.injEq, and_true, true_and] at e1
    obtain ⟨rfl, rfl⟩ := e1
    have hb : b < w1.heap.size := by
      rcases Nat.lt_or_ge b w1.heap.size with h | h
      · exact h
      · rw [Array.getElem?_eq_none h] at e3; cases e3
    subst hk
    refine ⟨⟨by omega, by simp, by simp; omega, n1, n2, ⟨cap, e4, hcap, ?_⟩, ?_, ?_, ?_⟩, hb⟩
    · exact World.cell?_alloc_new ..
    · exact World.cell?_alloc_new ..
    · intro i hi
      rw [World.cell?_alloc_lt (h := hb)]
      unfold World.cell?
      simp only [e3]
      have : cur[i]? = xs[i]? := by
        rw [← e7, Nat.mul_one, List.getElem?_take, if_pos hi, Array.getElem?_toList]
      rw [if_neg (by simp), this, hx]
      simp [hi]
    · intro i
      rw [World.frozen?_alloc_old (h := by show b ≠ _; omega)]
      unfold World.frozen?
      simp only [e3]
      simp
set_option maxRecDepth 100000 in
set_option maxHeartbeats 800000 in
theorem new_vec (n : Nat) (h1 : 1 ≤ n) (h2 : n ≤ 1048576) (w : World) :
    Calls Tryd.prog 16 #[.int .i64 n] w (NewVec w (List.replicate n false)) := by
  obtain ⟨i0, hi, hz0, hz1, hz2⟩ := info_parts infoU64
  have d1 : decide ((n : Int) < 1) = false := by simp; omega
  have d2 : decide ((1048576 : Int) < (n : Int)) = false := by simp; omega
  have hb : i0.bytes * ((n + 63) / 64) ≤ 281474976710656 := by rw [hz2]; omega
  have hm : (n + 63) / 64 ≤ maxLen := by unfold maxLen; omega
  have HB := hid hb
  have HM := hid hm
  clear hb hm
  go_enter Tryd.func16, Tryd.ntmps16
  go_wp2_with (at_make; refine wpList_make_full _ rfl _ _ 98 rfl w.heap.size 34 i0 (.int .u64 0) 1 Tryd.underlying98 hi hz0 hz1 .i64 .i64 _ _ ((n + 63) / 64) rfl rfl ?h1 ?h2 HB.out HM.out (Nat.le_refl _) ?h3)
  case h1 => omega
  case h2 => omega
  case h3 =>
    intro w1 hown hgrow
    have hg1 : Gr w w1 := (grownBy_touch hgrow (fun _ => False) (fun k e _ => by cases e)).gr
    have HV := hid (fun T => vec_made (l := List.replicate n false) (by simp; omega) (by simp; omega) (T := T) (show w1.ownsRow w.heap.size 34 1 (.slice (some ⟨w.heap.size, 0, none⟩) ((n + 63) / 64) ((n + 63) / 64)) ((n + 63) / 64) _ from hown) (by simp [nw]) (by unfold maxLen; omega) (by
      rw [made_words, nw, List.length_replicate]
      exact List.map_congr_left (fun i _ => by rw [wordOf_none])))
    clear hown hgrow
    go_wp2
    go_ret2
    obtain ⟨hV, hlt⟩ := HV.out 100
    exact ⟨_, _, ret2 rfl rfl, hg1.alloc _, by simpa using hV, hg1.size, Nat.le_refl _⟩

theorem slice_of_own {w : World} {base : Nat} {e : TypeId} {size : Nat} {v : Value} {n : Nat} {xs : List Value} (h : w.ownsRow base e size v n xs) (hn : n ≠ 0) :
    ∃ g c, v = .slice (some ⟨g, 0, none⟩) n c ∧ base ≤ g ∧ n ≤ c ∧ c ≤ maxLen := by
  obtain ⟨_, ⟨_, h⟩ | ⟨g, c, cur, e1, e2, _, e4, e5, _⟩⟩ := h
  · exact absurd h hn
  · exact ⟨g, c, e1, e2, e4, e5⟩
/-- A row of the same words, apart from all that was there. -/
def NewRow (w : World) (l : List Bool) (e : Ending) (w' : World) : Prop :=
  ∃ g c, e = .returned (.slice (some ⟨g, 0, none⟩) (nw l) c) ∧ Gr w w' ∧ w.heap.size ≤ g ∧ c ≤ maxLen ∧
    w'.ownsRow w.heap.size 34 1 (.slice (some ⟨g, 0, none⟩) (nw l) c) (nw l) ((List.range (nw l)).map fun i => Value.int .u64 ((wordOf l i : Nat) : Int))
set_option maxRecDepth 100000 in
set_option maxHeartbeats 800000 in
theorem clone_words {w : World} {p b : Nat} {l : List Bool} (hV : Vec w p b l) (cap : Nat) :
    Calls Tryd.prog 89 #[.slice (some ⟨b, 0, none⟩) (nw l) cap] w (NewRow w l) := by
  obtain ⟨i0, hi, hz0, hz1, hz2⟩ := info_parts infoU64
  have hnb := nw_bd hV.n1 hV.n2
  have hsn := Lib.run_eql_slice_nil (P := Tryd.prog) w 98 34 (some ⟨b, 0, none⟩) (nw l) cap 0 0 Tryd.underlying98
  have hown : (w.alloc (.cells #[] 34)).ownsRow w.heap.size 34 1 (.slice (some ⟨w.heap.size, 0, none⟩) 0 0) 0 [] :=
    ⟨rfl, .inr ⟨w.heap.size, 0, #[], rfl, Nat.le_refl _, heap_alloc_new w _, Nat.le_refl _, by unfold maxLen; omega, rfl, rfl⟩⟩
  have hcell : ∀ (j : Nat) (u : Value), ((List.range (nw l)).map fun i => Value.int .u64 ((wordOf l i : Nat) : Int))[j]? = some u → (w.alloc (.cells #[] 34)).cell? (Addr.add ⟨b, 0, none⟩ j) = some u := fun j u hj => by
    rw [List.getElem?_map] at hj
    have hjl : j < nw l := by
      rcases Nat.lt_or_ge j (nw l) with h | h
      · exact h
      · rw [List.getElem?_eq_none (by simpa using h)] at hj; cases hj
    rw [List.getElem?_range hjl] at hj
    simp only [Option.map_some, Option.some.injEq] at hj
    have e : Addr.add ⟨b, 0, none⟩ j = ⟨b, j, none⟩ := by unfold Addr.add; split <;> simp_all
    rw [e, World.cell?_alloc_lt (h := hV.hb), hV.cw j hjl, hj]
  have h1c : ∀ u ∈ (List.range (nw l)).map fun i => Value.int .u64 ((wordOf l i : Nat) : Int), u.oneCell' = true := fun u hu => by
    obtain ⟨i, _, rfl⟩ := List.mem_map.1 hu; rfl
  have HO := hid hown
  have HC := hid hcell
  have H1 := hid h1c
  have HN := hid hnb
  clear hnb hV hown hcell h1c
  go_enter Tryd.func89, Tryd.ntmps89
  go_wp2_with (at_builtin; refine wpList_append_own _ rfl _ _ 98 rfl w.heap.size 34 i0 (.int .u64 0) 1 8 Tryd.underlying98 hi hz0 hz1 hz2 rfl (by decide) _ _ _ rfl HO.out ⟨b, 0, none⟩ (nw l) cap ((List.range (nw l)).map fun i => Value.int .u64 ((wordOf l i : Nat) : Int)) rfl (by simp) HC.out H1.out (by have := HN.out; unfold maxLen; omega) (by have := HN.out; omega) (by simp) ?_; intro v' w1 hown1 hgrow _; obtain ⟨g, c, hv, hg1, hg2, hg3⟩ := slice_of_own hown1 (by have := HN.out; omega); subst hv)
  go_ret
  have hgrow' : (w.alloc (.cells #[] 34)).grownBy w1 (some w.heap.size) := hgrow
  refine ⟨g, c, rfl, ?_, hg1, hg3, by simpa using hown1⟩
  refine Touch.gr ((((Gr.refl w).alloc _).touch _).trans' (grownBy_touch hgrow' (fun k => k = w.heap.size) (fun k e _ => by cases e; rfl)) ?_)
  rintro i hi rfl; omega

/-- A copy of a vector, apart from all that was there. -/
def NewCopy (w : World) (l : List Bool) (e : Ending) (w' : World) : Prop :=
  ∃ p b, e = .returned (.pointer (some ⟨p, 0, none⟩)) ∧ Gr w w' ∧ Vec w' p b l ∧ w.heap.size ≤ p ∧ w.heap.size ≤ b
set_option maxRecDepth 100000 in
set_option maxHeartbeats 800000 in
theorem copy_vec {w : World} {p b : Nat} {l : List Bool} (hV : Vec w p b l) :
    Calls Tryd.prog 39 #[.pointer (some ⟨p, 0, none⟩)] w (NewCopy w l) := by
  obtain ⟨cap, a1, a2, c0⟩ := hV.c0
  have c1 := hV.c1
  have hpw := hV.hp
  have HV := hid hV
  clear hV a1 a2
  go_enter Tryd.func39, Tryd.ntmps39
  go_upto_region 3 with (fail)
  go_region_with (go_at_call 89; refine (clone_words (HV.out.gr ((Gr.refl w).drew)) _).mono ?_; rintro e w1 ⟨g, c, rfl, hg1, hg2, hg3, hown⟩; have c1' := (hg1.cell (b := p) (by simpa using hpw) 1).trans c1)
  all_goals
    have HF := hid (fun T => vec_made HV.out.n1 HV.out.n2 (T := T) hown rfl hg3 rfl)
    have hgr := (Gr.refl w).drew.trans hg1
    have hs : w.heap.size ≤ g := hg2
    clear hown hg1 hg2 hg3 c0 c1 c1'
    go_wp2
    go_ret
    obtain ⟨hF, hlt⟩ := HF.out 100
    exact ⟨_, _, rfl, hgr.alloc _, hF, hgr.size, hs⟩
end Go.Proofs.YtlbbkpjfoabobaaDoor
