/- Package extent: what a map is, and its methods that only read. -/
import Derived.Test.YtlbbkpjfoabobaaDoorObjC
import Derived.Test.YtlbbkpjfoabobaaDoorVecN
import Derived.Test.YtlbbkpjfoabobaaDoorMix
namespace Go.Proofs.YtlbbkpjfoabobaaDoor
open Go.RowKit Word

/-- A map m lies in w: of n words, with the objects L. -/
structure Ext (w : World) (m p1 b1 p2 b2 n : Nat) (L : List Ob) : Prop where
  good : Good n L
  v1 : Vec w p1 b1 (startsL n L)
  v2 : Vec w p2 b2 (endsL n L)
  hm : m < w.heap.size
  c0 : w.cell? ⟨m, 0, none⟩ = some (.pointer (some ⟨p1, 0, none⟩))
  c1 : w.cell? ⟨m, 1, none⟩ = some (.pointer (some ⟨p2, 0, none⟩))
  c2 : w.cell? ⟨m, 2, none⟩ = some (.int .i64 L.length)
  fr : w.frozen? ⟨m, 2, none⟩ = false
  am : m ≠ p1 ∧ m ≠ b1 ∧ m ≠ p2 ∧ m ≠ b2
  ab : p1 ≠ b2 ∧ p2 ≠ b1 ∧ b1 ≠ b2
theorem Ext.touch {S : Nat → Prop} {w w' : World} {m p1 b1 p2 b2 n : Nat} {L : List Ob} (h : Ext w m p1 b1 p2 b2 n L) (t : Touch S w w') (h1 : ¬ S m) (h2 : ¬ S p1) (h3 : ¬ S b1) (h4 : ¬ S p2) (h5 : ¬ S b2) : Ext w' m p1 b1 p2 b2 n L :=
  ⟨h.good, h.v1.touch t h2 h3, h.v2.touch t h4 h5, Nat.lt_of_lt_of_le h.hm t.size, (t.cell h.hm h1 0).trans h.c0, (t.cell h.hm h1 1).trans h.c1, (t.cell h.hm h1 2).trans h.c2, (t.frozen h.hm h1 2).trans h.fr, h.am, h.ab⟩
theorem Ext.gr {w w' : World} {m p1 b1 p2 b2 n : Nat} {L : List Ob} (h : Ext w m p1 b1 p2 b2 n L) (t : Gr w w') : Ext w' m p1 b1 p2 b2 n L :=
  h.touch (t.touch (fun _ => False)) (fun h => h) (fun h => h) (fun h => h) (fun h => h) (fun h => h)
theorem Ext.nb {w : World} {m p1 b1 p2 b2 n : Nat} {L : List Ob} (h : Ext w m p1 b1 p2 b2 n L) : 1 ≤ n ∧ n ≤ 1048576 := by
  have h1 := h.v1.n1
  have h2 := h.v1.n2
  rw [startsL_len] at h1 h2
  exact ⟨h1, h2⟩
/-- What is told of the object number j: none behind the last. -/
def obS (L : List Ob) (j : Nat) : Int := ((L[j]?.getD (0, 0)).1 : Nat)
def obZ (L : List Ob) (j : Nat) : Int := ((L[j]?.getD (0, 0)).2 : Nat)
theorem obS_in {L : List Ob} {j : Nat} (h : j < L.length) : obS L j = (L[j].1 : Nat) ∧ obZ L j = (L[j].2 : Nat) := by unfold obS obZ; rw [List.getElem?_eq_getElem h]; exact ⟨rfl, rfl⟩
theorem obS_out {L : List Ob} {j : Nat} (h : ¬ j < L.length) : obS L j = 0 ∧ obZ L j = 0 := by unfold obS obZ; rw [List.getElem?_eq_none (by omega)]; exact ⟨rfl, rfl⟩
def tellO (L : List Ob) (j : Nat) : Value := .tuple #[.int .i64 (obS L j), .int .i64 (obZ L j), .bool (decide (j < L.length))]
theorem tellO_in {L : List Ob} {j : Nat} (h : j < L.length) : tellO L j = .tuple #[.int .i64 (L[j].1 : Nat), .int .i64 (L[j].2 : Nat), .bool true] := by unfold tellO; rw [(obS_in h).1, (obS_in h).2, decide_eq_true h]
theorem tellO_out {L : List Ob} {j : Nat} (h : ¬ j < L.length) : tellO L j = .tuple #[.int .i64 0, .int .i64 0, .bool false] := by unfold tellO; rw [(obS_out h).1, (obS_out h).2, decide_eq_false h]

section
variable {w : World} {m p1 b1 p2 b2 n : Nat} {L : List Ob}
theorem ext_none (hE : Ext w m p1 b1 p2 b2 n L) : Calls Tryd.prog 90 #[.pointer (some ⟨m, 0, none⟩)] w fun e w' => e = .returned (.bool false) ∧ w = w' := by
  have c0 := hE.c0
  have HE := hid hE
  clear hE
  go_enter Tryd.func90, Tryd.ntmps90
  go_wp2
  go_ret
  exact ⟨rfl, rfl⟩
theorem ext_none_nil (w : World) : Calls Tryd.prog 90 #[.pointer none] w fun e w' => e = .returned (.bool true) ∧ w = w' := by
  go_enter Tryd.func90, Tryd.ntmps90
  go_wp2
  go_ret
  exact ⟨rfl, rfl⟩
theorem ext_words (hE : Ext w m p1 b1 p2 b2 n L) : Calls Tryd.prog 65 #[.pointer (some ⟨m, 0, none⟩)] w fun e w' => e = .returned (.int .i64 n) ∧ w = w' := by
  have c0 := hE.c0
  have HE := hid hE
  have HL := hid (startsL_len n L)
  clear hE
  go_enter Tryd.func65, Tryd.ntmps65
  go_wp2_with (first
    | (go_at_call 90; refine (ext_none HE.out).mono ?_; rintro e w' ⟨rfl, rfl⟩)
    | (go_at_call 32; refine (len_vec HE.out.v1).mono ?_; rintro e w' ⟨rfl, rfl⟩; rw [HL.out]))
  go_ret
  exact ⟨rfl, rfl⟩
theorem ext_words_nil (w : World) : Calls Tryd.prog 65 #[.pointer none] w fun e w' => e = .returned (.int .i64 0) ∧ w = w' := by
  go_enter Tryd.func65, Tryd.ntmps65
  go_wp2_with (go_at_call 90; refine (ext_none_nil _).mono ?_; rintro e w' ⟨rfl, rfl⟩)
  go_ret
  exact ⟨rfl, rfl⟩
theorem ext_objects (hE : Ext w m p1 b1 p2 b2 n L) : Calls Tryd.prog 46 #[.pointer (some ⟨m, 0, none⟩)] w fun e w' => e = .returned (.int .i64 L.length) ∧ w = w' := by
  have c2 := hE.c2
  have HE := hid hE
  clear hE
  go_enter Tryd.func46, Tryd.ntmps46
  go_wp2_with (go_at_call 90; refine (ext_none HE.out).mono ?_; rintro e w' ⟨rfl, rfl⟩)
  go_ret
  exact ⟨rfl, rfl⟩
theorem ext_objects_nil (w : World) : Calls Tryd.prog 46 #[.pointer none] w fun e w' => e = .returned (.int .i64 0) ∧ w = w' := by
  go_enter Tryd.func46, Tryd.ntmps46
  go_wp2_with (go_at_call 90; refine (ext_none_nil _).mono ?_; rintro e w' ⟨rfl, rfl⟩)
  go_ret
  exact ⟨rfl, rfl⟩
set_option maxHeartbeats 400000 in
theorem ext_size (hE : Ext w m p1 b1 p2 b2 n L) (hT : TabAt w) {j : Nat} (hj : j < L.length) :
    Calls Tryd.prog 92 #[.pointer (some ⟨m, 0, none⟩), .int .i64 (L[j].1 : Nat)] w fun e w' => e = .returned (.int .i64 (L[j].2 : Nat)) ∧ w = w' := by
  have c1 := hE.c1
  have hm := List.getElem_mem hj
  obtain ⟨hn1, hn2⟩ := next_end hE.good hm
  have hs := hE.good.sz _ hm
  have hb := hE.nb
  obtain ⟨s, hs'⟩ : ∃ s, s = L[j].1 := ⟨_, rfl⟩
  obtain ⟨z, hz'⟩ : ∃ z, z = L[j].2 := ⟨_, rfl⟩
  rw [← hs', ← hz'] at hn1 hn2 hs ⊢
  rw [← hn1] at hn2
  have HE := hid hE
  have HT := hid hT
  have HV := hid (And.intro (valN_yes hn2) hn1)
  have hsb : s + z ≤ 1048576 := by omega
  have hz1 : 1 ≤ z := hs.1
  clear hE hT hn1 hn2 hs' hz' hm hj
  go_enter Tryd.func92, Tryd.ntmps92
  go_wp2_with (go_at_call 26; refine (next_vec HE.out.v2 HT.out _).mono ?_; rintro e w' ⟨rfl, rfl⟩; rw [HV.out.1, HV.out.2])
  go_ret
  exact ⟨ret_int (by omega), rfl⟩
set_option maxHeartbeats 800000 in
theorem ext_next (hE : Ext w m p1 b1 p2 b2 n L) (hT : TabAt w) (a : Int) :
    Calls Tryd.prog 61 #[.pointer (some ⟨m, 0, none⟩), .int .i64 a] w fun e w' => e = .returned (tellO L (nextO L a)) ∧ w = w' := by
  have c0 := hE.c0
  have HE := hid hE
  have HT := hid hT
  by_cases hj : nextO L a < L.length
  · obtain ⟨h1, h2⟩ := next_start_yes hE.good hj
    rw [tellO_in hj]
    have HZ := hid (ext_size hE hT hj)
    have HV := hid (And.intro (valN_yes h2) (And.intro h1 (decide_eq_true h2)))
    clear hE hT h1 h2
    go_enter Tryd.func61, Tryd.ntmps61
    go_wp2_with (first
      | (go_at_call 90; refine (ext_none HE.out).mono ?_; rintro e w' ⟨rfl, rfl⟩)
      | (go_at_call 26; refine (next_vec HE.out.v1 HT.out _).mono ?_; rintro e w' ⟨rfl, rfl⟩; rw [HV.out.1, HV.out.2.2, HV.out.2.1])
      | (go_at_call 92; refine HZ.out.mono ?_; rintro e w' ⟨rfl, rfl⟩))
    go_ret3
    exact ⟨rfl, rfl⟩
  · have h1 := next_start_no hE.good hj
    rw [tellO_out hj]
    have HV : Hid (valN (startsL n L).length (nextL (startsL n L) a) = 0 ∧ decide (nextL (startsL n L) a < (startsL n L).length) = false) := ⟨by rw [h1]; exact ⟨valN_no (by omega), decide_eq_false (by omega)⟩⟩
    clear hE hT h1
    go_enter Tryd.func61, Tryd.ntmps61
    go_wp2_with (first
      | (go_at_call 90; refine (ext_none HE.out).mono ?_; rintro e w' ⟨rfl, rfl⟩)
      | (go_at_call 26; refine (next_vec HE.out.v1 HT.out _).mono ?_; rintro e w' ⟨rfl, rfl⟩; rw [HV.out.1, HV.out.2]))
    go_ret3
    exact ⟨rfl, rfl⟩
theorem ext_next_nil (a : Int) (w : World) : Calls Tryd.prog 61 #[.pointer none, .int .i64 a] w fun e w' => e = .returned (.tuple #[.int .i64 0, .int .i64 0, .bool false]) ∧ w = w' := by
  go_enter Tryd.func61, Tryd.ntmps61
  go_wp2_with (go_at_call 90; refine (ext_none_nil _).mono ?_; rintro e w' ⟨rfl, rfl⟩)
  go_ret3
  exact ⟨rfl, rfl⟩
theorem ext_find_nil (a : Int) (w : World) : Calls Tryd.prog 58 #[.pointer none, .int .i64 a] w fun e w' => e = .returned (.tuple #[.int .i64 0, .int .i64 0, .bool false]) ∧ w = w' := by
  go_enter Tryd.func58, Tryd.ntmps58
  go_wp2_with (go_at_call 90; refine (ext_none_nil _).mono ?_; rintro e w' ⟨rfl, rfl⟩)
  go_ret3
  exact ⟨rfl, rfl⟩
set_option maxHeartbeats 800000 in
theorem ext_find (hE : Ext w m p1 b1 p2 b2 n L) (hT : TabAt w) (a : Int) :
    Calls Tryd.prog 58 #[.pointer (some ⟨m, 0, none⟩), .int .i64 a] w fun e w' => e = .returned (tellO L (findO L a)) ∧ w = w' := by
  have c0 := hE.c0
  have hb := hE.nb
  have HE := hid hE
  have HT := hid hT
  by_cases h0 : a < 0
  · have d0 : decide (a < 0) = true := by simp [h0]
    rw [tellO_out (by rw [findO_none (fun o _ => by omega)]; omega)]
    clear hE hT
    go_enter Tryd.func58, Tryd.ntmps58
    go_wp2_with (go_at_call 90; refine (ext_none HE.out).mono ?_; rintro e w' ⟨rfl, rfl⟩)
    go_ret3
    exact ⟨rfl, rfl⟩
  · have d0 : decide (a < 0) = false := by simp; omega
    by_cases h1 : (n : Int) ≤ a
    · have d1 : decide ((n : Int) ≤ a) = true := by simp [h1]
      rw [tellO_out (by rw [findO_none (fun o ho => by have := hE.good.sz o ho; omega)]; omega)]
      clear hE hT
      go_enter Tryd.func58, Tryd.ntmps58
      go_wp2_with (first
        | (go_at_call 90; refine (ext_none HE.out).mono ?_; rintro e w' ⟨rfl, rfl⟩)
        | (go_at_call 65; refine (ext_words HE.out).mono ?_; rintro e w' ⟨rfl, rfl⟩))
      go_ret3
      exact ⟨rfl, rfl⟩
    · have d1 : decide ((n : Int) ≤ a) = false := by simp; omega
      rcases last_of hE.good a with ⟨hl, hall⟩ | ⟨j, hj, hl, hle, hall⟩
      · rw [tellO_out (by rw [findO_none (fun o ho => by have := hall o ho; omega)]; omega)]
        have HV : Hid (valI (lastL (startsL n L) (a + 1)) = 0 ∧ decide (0 ≤ lastL (startsL n L) (a + 1)) = false) := ⟨by rw [hl]; exact ⟨rfl, rfl⟩⟩
        clear hE hT hl hall
        go_enter Tryd.func58, Tryd.ntmps58
        go_wp2_with (first
          | (go_at_call 90; refine (ext_none HE.out).mono ?_; rintro e w' ⟨rfl, rfl⟩)
          | (go_at_call 65; refine (ext_words HE.out).mono ?_; rintro e w' ⟨rfl, rfl⟩)
          | (go_at_call 27; refine (last_vec HE.out.v1 _).mono ?_; rintro e w' ⟨rfl, rfl⟩; rw [HV.out.1, HV.out.2]))
        go_ret3
        exact ⟨rfl, rfl⟩
      · have HZ := hid (ext_size hE hT hj)
        have hs := hE.good.sz _ (List.getElem_mem hj)
        have HV : Hid (valI (lastL (startsL n L) (a + 1)) = (L[j].1 : Nat) ∧ decide (0 ≤ lastL (startsL n L) (a + 1)) = true) := ⟨by rw [hl]; exact ⟨if_pos (by omega), decide_eq_true (by omega)⟩⟩
        have hgood := hE.good
        by_cases hin : a < L[j].1 + L[j].2
        · have hf := findO_eq hgood hj hle hin
          rw [hf, tellO_in hj]
          generalize L[j].1 = s at *
          generalize L[j].2 = z at *
          have d2 : decide (((s : Int) + (z : Int)) ≤ a) = false := by simp; omega
          clear hE hT hl hall hgood hf
          go_enter Tryd.func58, Tryd.ntmps58
          go_wp2_with (first
            | (go_at_call 90; refine (ext_none HE.out).mono ?_; rintro e w' ⟨rfl, rfl⟩)
            | (go_at_call 65; refine (ext_words HE.out).mono ?_; rintro e w' ⟨rfl, rfl⟩)
            | (go_at_call 27; refine (last_vec HE.out.v1 _).mono ?_; rintro e w' ⟨rfl, rfl⟩; rw [HV.out.1, HV.out.2])
            | (go_at_call 92; refine HZ.out.mono ?_; rintro e w' ⟨rfl, rfl⟩))
          go_ret3
          exact ⟨rfl, rfl⟩
        · have hf : ¬ findO L a < L.length := by
            rw [findO_none (fun o ho => ?_)]; · omega
            obtain ⟨i, hi, rfl⟩ := List.getElem_of_mem ho
            rcases Nat.lt_trichotomy i j with h3 | rfl | h3
            · have := hgood.at hi hj h3; omega
            · omega
            · have := hall i hi h3; omega
          rw [tellO_out hf]
          generalize L[j].1 = s at *
          generalize L[j].2 = z at *
          have d2 : decide (((s : Int) + (z : Int)) ≤ a) = true := by simp; omega
          clear hE hT hl hall hgood hf
          go_enter Tryd.func58, Tryd.ntmps58
          go_wp2_with (first
            | (go_at_call 90; refine (ext_none HE.out).mono ?_; rintro e w' ⟨rfl, rfl⟩)
            | (go_at_call 65; refine (ext_words HE.out).mono ?_; rintro e w' ⟨rfl, rfl⟩)
            | (go_at_call 27; refine (last_vec HE.out.v1 _).mono ?_; rintro e w' ⟨rfl, rfl⟩; rw [HV.out.1, HV.out.2])
            | (go_at_call 92; refine HZ.out.mono ?_; rintro e w' ⟨rfl, rfl⟩))
          go_ret3
          exact ⟨rfl, rfl⟩
end
end Go.Proofs.YtlbbkpjfoabobaaDoor
