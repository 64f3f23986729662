/- Package extent: what a map is, and its methods that only read. extent's Live. extent's New, Add, Drop, Wipe. bitvec's Ones: the iterator. extent's All: the iterator. extent's Word: a range over All. The example of layer 13's statements; what a nil map tells. -/
import Derived.Test.YtbmidhlilafgeaaGreatDoorK5
import Derived.Test.YtbmidhlilafgeaaGreatDoorK3
import Derived.Test.YtbmidhlilafgeaaGreatDoorK2
import Derived.Test.YtbmidhlilafgeaaGreatDoorK4
import Derived.Shelf.Abstract
import Derived.Shelf.RegionOpen
import Derived.OwnWalkIn
import Derived.TacticsInMore
import Derived.LoopNIn
import Derived.LoopIn
import Derived.Stop.RegionWithIn
import Derived.Sort.CutIn
section
namespace Go.Proofs.YtbmidhlilafgeaaGreatDoor
open Go.RowKit Word

/-- A map m lies in w: of n words, with the objects L. -/
structure Ext (w : World) (m p1 b1 p2 b2 n : Nat) (L : List Ob) : Prop where
  good : Good n L
  v1 : Vec w p1 b1 (startsL n L)
  v2 : Vec w p2 b2 (endsL n L)
  hm : m < w.heap.size
  c0 : w.cell? ⟨m, 0, none⟩ = some (.pointer (some ⟨p1, 0, none⟩))
  c1 : w.cell? ⟨m, 1, none⟩ = some (.pointer (some ⟨p2, 0, none⟩))
  c2 : w.cell? ⟨m, 2, none⟩ = some (.int .i64 L.length)
  fr : w.frozen? ⟨m, 2, none⟩ = false
  am : m ≠ p1 ∧ m ≠ b1 ∧ m ≠ p2 ∧ m ≠ b2
  ab : p1 ≠ b2 ∧ p2 ≠ b1 ∧ b1 ≠ b2
theorem Ext.touch {S : Nat → Prop} {w w' : World} {m p1 b1 p2 b2 n : Nat} {L : List Ob} (h : Ext w m p1 b1 p2 b2 n L) (t : Touch S w w') (h1 : ¬ S m) (h2 : ¬ S p1) (h3 : ¬ S b1) (h4 : ¬ S p2) (h5 : ¬ S b2) : Ext w' m p1 b1 p2 b2 n L :=
  ⟨h.good, h.v1.touch t h2 h3, h.v2.touch t h4 h5, Nat.lt_of_lt_of_le h.hm t.size, (t.cell h.hm h1 0).trans h.c0, (t.cell h.hm h1 1).trans h.c1, (t.cell h.hm h1 2).trans h.c2, (t.frozen h.hm h1 2).trans h.fr, h.am, h.ab⟩
theorem Ext.gr {w w' : World} {m p1 b1 p2 b2 n : Nat} {L : List Ob} (h : Ext w m p1 b1 p2 b2 n L) (t : Gr w w') : Ext w' m p1 b1 p2 b2 n L :=
  h.touch (t.touch (fun _ => False)) (fun h => h) (fun h => h) (fun h => h) (fun h => h) (fun h => h)
theorem Ext.nb {w : World} {m p1 b1 p2 b2 n : Nat} {L : List Ob} (h : Ext w m p1 b1 p2 b2 n L) : 1 ≤ n ∧ n ≤ 1048576 := by
  have h1 := h.v1.n1
  have h2 := h.v1.n2
  rw [startsL_len] at h1 h2
  exact ⟨h1, h2⟩
/-- What is told of the object number j: none behind the last. -/
def obS (L : List Ob) (j : Nat) : Int := ((L[j]?.getD (0, 0)).1 : Nat)
def obZ (L : List Ob) (j : Nat) : Int := ((L[j]?.getD (0, 0)).2 : Nat)
theorem obS_in {L : List Ob} {j : Nat} (h : j < L.length) : obS L j = (L[j].1 : Nat) ∧ obZ L j = (L[j].2 : Nat) := by unfold obS obZ; rw [List.getElem?_eq_getElem h]; exact ⟨rfl, rfl⟩
theorem obS_out {L : List Ob} {j : Nat} (h : ¬ j < L.length) : obS L j = 0 ∧ obZ L j = 0 := by unfold obS obZ; rw [List.getElem?_eq_none (by omega)]; exact ⟨rfl, rfl⟩
def tellO (L : List Ob) (j : Nat) : Value := .tuple #[.int .i64 (obS L j), .int .i64 (obZ L j), .bool (decide (j < L.length))]
theorem tellO_in {L : List Ob} {j : Nat} (h : j < L.length) : tellO L j = .tuple #[.int .i64 (L[j].1 : Nat), .int .i64 (L[j].2 : Nat), .bool true] := by unfold tellO; rw [(obS_in h).1, (obS_in h).2, decide_eq_true h]
theorem tellO_out {L : List Ob} {j : Nat} (h : ¬ j < L.length) : tellO L j = .tuple #[.int .i64 0, .int .i64 0, .bool false] := by unfold tellO; rw [(obS_out h).1, (obS_out h).2, decide_eq_false h]

section
variable {w : World} {m p1 b1 p2 b2 n : Nat} {L : List Ob}
theorem ext_none (hE : Ext w m p1 b1 p2 b2 n L) : Calls Tryz.prog 151 #[.pointer (some ⟨m, 0, none⟩)] w fun e w' => e = .returned (.bool false) ∧ w = w' := by
  have c0 := hE.c0
  have HE := hid hE
  clear hE
  go_enter Tryz.func151, Tryz.ntmps151
  go_wp2
  go_ret
  exact ⟨rfl, rfl⟩
theorem ext_none_nil (w : World) : Calls Tryz.prog 151 #[.pointer none] w fun e w' => e = .returned (.bool true) ∧ w = w' := by
  go_enter Tryz.func151, Tryz.ntmps151
  go_wp2
  go_ret
  exact ⟨rfl, rfl⟩
theorem ext_words (hE : Ext w m p1 b1 p2 b2 n L) : Calls Tryz.prog 147 #[.pointer (some ⟨m, 0, none⟩)] w fun e w' => e = .returned (.int .i64 n) ∧ w = w' := by
  have c0 := hE.c0
  have HE := hid hE
  have HL := hid (startsL_len n L)
  clear hE
  go_enter Tryz.func147, Tryz.ntmps147
  go_wp2_with (first
    | (go_at_call 151; refine (ext_none HE.out).mono ?_; rintro e w' ⟨rfl, rfl⟩)
    | (go_at_call 194; refine (len_vec HE.out.v1).mono ?_; rintro e w' ⟨rfl, rfl⟩; rw [HL.out]))
  go_ret
  exact ⟨rfl, rfl⟩
theorem ext_words_nil (w : World) : Calls Tryz.prog 147 #[.pointer none] w fun e w' => e = .returned (.int .i64 0) ∧ w = w' := by
  go_enter Tryz.func147, Tryz.ntmps147
  go_wp2_with (go_at_call 151; refine (ext_none_nil _).mono ?_; rintro e w' ⟨rfl, rfl⟩)
  go_ret
  exact ⟨rfl, rfl⟩
theorem ext_objects (hE : Ext w m p1 b1 p2 b2 n L) : Calls Tryz.prog 113 #[.pointer (some ⟨m, 0, none⟩)] w fun e w' => e = .returned (.int .i64 L.length) ∧ w = w' := by
  have c2 := hE.c2
  have HE := hid hE
  clear hE
  go_enter Tryz.func113, Tryz.ntmps113
  go_wp2_with (go_at_call 151; refine (ext_none HE.out).mono ?_; rintro e w' ⟨rfl, rfl⟩)
  go_ret
  exact ⟨rfl, rfl⟩
theorem ext_objects_nil (w : World) : Calls Tryz.prog 113 #[.pointer none] w fun e w' => e = .returned (.int .i64 0) ∧ w = w' := by
  go_enter Tryz.func113, Tryz.ntmps113
  go_wp2_with (go_at_call 151; refine (ext_none_nil _).mono ?_; rintro e w' ⟨rfl, rfl⟩)
  go_ret
  exact ⟨rfl, rfl⟩
set_option maxHeartbeats 400000 in
theorem ext_size (hE : Ext w m p1 b1 p2 b2 n L) (hT : TabAt w) {j : Nat} (hj : j < L.length) :
    Calls Tryz.prog 153 #[.pointer (some ⟨m, 0, none⟩), .int .i64 (L[j].1 : Nat)] w fun e w' => e = .returned (.int .i64 (L[j].2 : Nat)) ∧ w = w' := by
  have c1 := hE.c1
  have hm := List.getElem_mem hj
  obtain ⟨hn1, hn2⟩ := next_end hE.good hm
  have hs := hE.good.sz _ hm
  have hb := hE.nb
  obtain ⟨s, hs'⟩ : ∃ s, s = L[j].1 := ⟨_, rfl⟩
  obtain ⟨z, hz'⟩ : ∃ z, z = L[j].2 := ⟨_, rfl⟩
  rw [← hs', ← hz'] at hn1 hn2 hs ⊢
  rw [← hn1] at hn2
  have HE := hid hE
  have HT := hid hT
  have HV := hid (And.intro (valN_yes hn2) hn1)
  have hsb : s + z ≤ 1048576 := by omega
  have hz1 : 1 ≤ z := hs.1
  clear hE hT hn1 hn2 hs' hz' hm hj
  go_enter Tryz.func153, Tryz.ntmps153
  go_wp2_with (go_at_call 191; refine (next_vec HE.out.v2 HT.out _).mono ?_; rintro e w' ⟨rfl, rfl⟩; rw [HV.out.1, HV.out.2])
  go_ret
  exact ⟨ret_int (by omega), rfl⟩
set_option maxHeartbeats 800000 in
theorem ext_next (hE : Ext w m p1 b1 p2 b2 n L) (hT : TabAt w) (a : Int) :
    Calls Tryz.prog 144 #[.pointer (some ⟨m, 0, none⟩), .int .i64 a] w fun e w' => e = .returned (tellO L (nextO L a)) ∧ w = w' := by
  have c0 := hE.c0
  have HE := hid hE
  have HT := hid hT
  by_cases hj : nextO L a < L.length
  · obtain ⟨h1, h2⟩ := next_start_yes hE.good hj
    rw [tellO_in hj]
    have HZ := hid (ext_size hE hT hj)
    have HV := hid (And.intro (valN_yes h2) (And.intro h1 (decide_eq_true h2)))
    clear hE hT h1 h2
    go_enter Tryz.func144, Tryz.ntmps144
    go_wp2_with (first
      | (go_at_call 151; refine (ext_none HE.out).mono ?_; rintro e w' ⟨rfl, rfl⟩)
      | (go_at_call 191; refine (next_vec HE.out.v1 HT.out _).mono ?_; rintro e w' ⟨rfl, rfl⟩; rw [HV.out.1, HV.out.2.2, HV.out.2.1])
      | (go_at_call 153; refine HZ.out.mono ?_; rintro e w' ⟨rfl, rfl⟩))
    go_ret3
    exact ⟨rfl, rfl⟩
  · have h1 := next_start_no hE.good hj
    rw [tellO_out hj]
    have HV : Hid (valN (startsL n L).length (nextL (startsL n L) a) = 0 ∧ decide (nextL (startsL n L) a < (startsL n L).length) = false) := ⟨by rw [h1]; exact ⟨valN_no (by omega), decide_eq_false (by omega)⟩⟩
    clear hE hT h1
    go_enter Tryz.func144, Tryz.ntmps144
    go_wp2_with (first
      | (go_at_call 151; refine (ext_none HE.out).mono ?_; rintro e w' ⟨rfl, rfl⟩)
      | (go_at_call 191; refine (next_vec HE.out.v1 HT.out _).mono ?_; rintro e w' ⟨rfl, rfl⟩; rw [HV.out.1, HV.out.2]))
    go_ret3
    exact ⟨rfl, rfl⟩
theorem ext_next_nil (a : Int) (w : World) : Calls Tryz.prog 144 #[.pointer none, .int .i64 a] w fun e w' => e = .returned (.tuple #[.int .i64 0, .int .i64 0, .bool false]) ∧ w = w' := by
  go_enter Tryz.func144, Tryz.ntmps144
  go_wp2_with (go_at_call 151; refine (ext_none_nil _).mono ?_; rintro e w' ⟨rfl, rfl⟩)
  go_ret3
  exact ⟨rfl, rfl⟩
theorem ext_find_nil (a : Int) (w : World) : Calls Tryz.prog 111 #[.pointer none, .int .i64 a] w fun e w' => e = .returned (.tuple #[.int .i64 0, .int .i64 0, .bool false]) ∧ w = w' := by
  go_enter Tryz.func111, Tryz.ntmps111
  go_wp2_with (go_at_call 151; refine (ext_none_nil _).mono ?_; rintro e w' ⟨rfl, rfl⟩)
  go_ret3
  exact ⟨rfl, rfl⟩
set_option maxHeartbeats 800000 in
theorem ext_find (hE : Ext w m p1 b1 p2 b2 n L) (hT : TabAt w) (a : Int) :
    Calls Tryz.prog 111 #[.pointer (some ⟨m, 0, none⟩), .int .i64 a] w fun e w' => e = .returned (tellO L (findO L a)) ∧ w = w' := by
  have c0 := hE.c0
  have hb := hE.nb
  have HE := hid hE
  have HT := hid hT
  by_cases h0 : a < 0
  · have d0 : decide (a < 0) = true := by simp [h0]
    rw [tellO_out (by rw [findO_none (fun o _ => by omega)]; omega)]
    clear hE hT
    go_enter Tryz.func111, Tryz.ntmps111
    go_wp2_with (go_at_call 151; refine (ext_none HE.out).mono ?_; rintro e w' ⟨rfl, rfl⟩)
    go_ret3
    exact ⟨rfl, rfl⟩
  · have d0 : decide (a < 0) = false := by simp; omega
    by_cases h1 : (n : Int) ≤ a
    · have d1 : decide ((n : Int) ≤ a) = true := by simp [h1]
      rw [tellO_out (by rw [findO_none (fun o ho => by have := hE.good.sz o ho; omega)]; omega)]
      clear hE hT
      go_enter Tryz.func111, Tryz.ntmps111
      go_wp2_with (first
        | (go_at_call 151; refine (ext_none HE.out).mono ?_; rintro e w' ⟨rfl, rfl⟩)
        | (go_at_call 147; refine (ext_words HE.out).mono ?_; rintro e w' ⟨rfl, rfl⟩))
      go_ret3
      exact ⟨rfl, rfl⟩
    · have d1 : decide ((n : Int) ≤ a) = false := by simp; omega
      rcases last_of hE.good a with ⟨hl, hall⟩ | ⟨j, hj, hl, hle, hall⟩
      · rw [tellO_out (by rw [findO_none (fun o ho => by have := hall o ho; omega)]; omega)]
        have HV : Hid (valI (lastL (startsL n L) (a + 1)) = 0 ∧ decide (0 ≤ lastL (startsL n L) (a + 1)) = false) := ⟨by rw [hl]; exact ⟨rfl, rfl⟩⟩
        clear hE hT hl hall
        go_enter Tryz.func111, Tryz.ntmps111
        go_wp2_with (first
          | (go_at_call 151; refine (ext_none HE.out).mono ?_; rintro e w' ⟨rfl, rfl⟩)
          | (go_at_call 147; refine (ext_words HE.out).mono ?_; rintro e w' ⟨rfl, rfl⟩)
          | (go_at_call 167; refine (last_vec HE.out.v1 _).mono ?_; rintro e w' ⟨rfl, rfl⟩; rw [HV.out.1, HV.out.2]))
        go_ret3
        exact ⟨rfl, rfl⟩
      · have HZ := hid (ext_size hE hT hj)
        have hs := hE.good.sz _ (List.getElem_mem hj)
        have HV : Hid (valI (lastL (startsL n L) (a + 1)) = (L[j].1 : Nat) ∧ decide (0 ≤ lastL (startsL n L) (a + 1)) = true) := ⟨by rw [hl]; exact ⟨if_pos (by omega), decide_eq_true (by omega)⟩⟩
        have hgood := hE.good
        by_cases hin : a < L[j].1 + L[j].2
        · have hf := findO_eq hgood hj hle hin
          rw [hf, tellO_in hj]
          generalize L[j].1 = s at *
          generalize L[j].2 = z at *
          have d2 : decide (((s : Int) + (z : Int)) ≤ a) = false := by simp; omega
          clear hE hT hl hall hgood hf
          go_enter Tryz.func111, Tryz.ntmps111
          go_wp2_with (first
            | (go_at_call 151; refine (ext_none HE.out).mono ?_; rintro e w' ⟨rfl, rfl⟩)
            | (go_at_call 147; refine (ext_words HE.out).mono ?_; rintro e w' ⟨rfl, rfl⟩)
            | (go_at_call 167; refine (last_vec HE.out.v1 _).mono ?_; rintro e w' ⟨rfl, rfl⟩; rw [HV.out.1, HV.out.2])
            | (go_at_call 153; refine HZ.out.mono ?_; rintro e w' ⟨rfl, rfl⟩))
          go_ret3
          exact ⟨rfl, rfl⟩
        · have hf : ¬ findO L a < L.length := by
            rw [findO_none (fun o ho => ?_)]; · omega
            obtain ⟨i, hi, rfl⟩ := List.getElem_of_mem ho
            rcases Nat.lt_trichotomy i j with h3 | rfl | h3
            · have := hgood.at hi hj h3; omega
            · omega
            · have := hall i hi h3; omega
          rw [tellO_out hf]
          generalize L[j].1 = s at *
          generalize L[j].2 = z at *
          have d2 : decide (((s : Int) + (z : Int)) ≤ a) = true := by simp; omega
          clear hE hT hl hall hgood hf
          go_enter Tryz.func111, Tryz.ntmps111
          go_wp2_with (first
            | (go_at_call 151; refine (ext_none HE.out).mono ?_; rintro e w' ⟨rfl, rfl⟩)
            | (go_at_call 147; refine (ext_words HE.out).mono ?_; rintro e w' ⟨rfl, rfl⟩)
            | (go_at_call 167; refine (last_vec HE.out.v1 _).mono ?_; rintro e w' ⟨rfl, rfl⟩; rw [HV.out.1, HV.out.2])
            | (go_at_call 153; refine HZ.out.mono ?_; rintro e w' ⟨rfl, rfl⟩))
          go_ret3
          exact ⟨rfl, rfl⟩
end
end Go.Proofs.YtbmidhlilafgeaaGreatDoor
end

section
namespace Go.Proofs.YtbmidhlilafgeaaGreatDoor
open Go.RowKit Word

section
variable {w : World} {m p1 b1 p2 b2 n : Nat} {L : List Ob}
def okV : Value → Bool
  | .bool b => b
  | _ => false
theorem obS_bd {n : Nat} {L : List Ob} (h : Good n L) (hn : n ≤ 1048576) (j : Nat) : 0 ≤ obS L j ∧ 0 ≤ obZ L j ∧ obS L j + obZ L j ≤ 1048576 := by
  by_cases hj : j < L.length
  · rw [(obS_in hj).1, (obS_in hj).2]
    have := h.sz _ (List.getElem_mem hj); omega
  · rw [(obS_out hj).1, (obS_out hj).2]; omega
/-- The tail of Live: the loop over the objects, from number nextO on. -/
theorem overs_bd {n : Nat} {L : List Ob} (h : Good n L) (hn : n ≤ 1048576) (j : Nat) (f t : Int) : 0 ≤ overs (L.take j) f t ∧ overs (L.take j) f t ≤ 1048576 := by
  have hg : Good n (L.take j) := ⟨h.pw.sublist (List.take_sublist ..), fun o ho => h.sz o (List.mem_of_mem_take ho)⟩
  have h1 := liveN_eq hg f t
  have h2 : liveN (L.take j) n f t ≤ n := cnt_le _ _
  omega
set_option maxRecDepth 100000 in
set_option maxHeartbeats 3200000 in
theorem ext_live (hE : Ext w m p1 b1 p2 b2 n L) (hT : TabAt w) (f t : Int) (hf : f ≤ 9223372036854775807) (ht : -9223372036854775808 ≤ t) :
    Calls Tryz.prog 145 #[.pointer (some ⟨m, 0, none⟩), .int .i64 f, .int .i64 t] w fun e w' => e = .returned (.int .i64 (overs L f t)) ∧ w = w' := by
  have hb := hE.nb
  have hg := hE.good
  have HE := hid hE
  have HT := hid hT
  rw [← overs_clip hg f t]
  obtain ⟨lo, hlo⟩ : ∃ lo, lo = max f 0 := ⟨_, rfl⟩
  obtain ⟨hi, hhi⟩ : ∃ hi, hi = min t (n : Int) := ⟨_, rfl⟩
  have hlo0 : 0 ≤ lo ∧ lo ≤ 9223372036854775807 := by omega
  have hhib : hi ≤ 1048576 ∧ -9223372036854775808 ≤ hi := by omega
  have HLO := hid hlo
  have HHI := hid hhi
  have hmax : ∀ w', (Builtin.max_ #[3, 3] 3 #[.int .i64 f, .int .i64 0]).run Tryz.prog w' = .ok (.int .i64 lo) w' := fun w' => by rw [run_maxB2, hlo]
  have hmin : ∀ w', (Builtin.min_ #[3, 3] 3 #[.int .i64 t, .int .i64 n]).run Tryz.prog w' = .ok (.int .i64 hi) w' := fun w' => by rw [run_minB2, hhi]
  rw [← hlo, ← hhi]
  have hmin2 := fun x y => run_minB2 Tryz.prog #[3, 3] 3 .i64 x y
  obtain ⟨jf, hjf⟩ : ∃ j, j = findO L lo := ⟨_, rfl⟩
  obtain ⟨jn, hjn⟩ : ∃ j, j = nextO L lo := ⟨_, rfl⟩
  have hjnl : jn ≤ L.length := by rw [hjn]; exact nextO_le _ _
  have hhead := overs_head hg (f := lo) (t := hi)
  rw [← hjf, ← hjn] at hhead
  have hss : ((L[jf]?.getD (0, 0)).1 : Int) = obS L jf := rfl
  have hzz : ((L[jf]?.getD (0, 0)).2 : Int) = obZ L jf := rfl
  rw [hss, hzz] at hhead
  have hbf := obS_bd hg hb.2 jf
  obtain ⟨s, hs⟩ : ∃ s, s = obS L jf := ⟨_, rfl⟩
  obtain ⟨z, hz⟩ : ∃ z, z = obZ L jf := ⟨_, rfl⟩
  obtain ⟨bf, hbff⟩ : ∃ b, b = decide (jf < L.length) := ⟨_, rfl⟩
  rw [← hs, ← hz] at hhead hbf
  have HF : Hid (tellO L (findO L lo) = .tuple #[.int .i64 s, .int .i64 z, .bool bf]) := ⟨by rw [hs, hz, hbff, hjf]; rfl⟩
  obtain ⟨s1, hs1⟩ : ∃ s, s = obS L jn := ⟨_, rfl⟩
  obtain ⟨z1, hz1⟩ : ∃ z, z = obZ L jn := ⟨_, rfl⟩
  obtain ⟨bn, hbn⟩ : ∃ b, b = decide (jn < L.length) := ⟨_, rfl⟩
  have HN : Hid (tellO L (nextO L lo) = .tuple #[.int .i64 s1, .int .i64 z1, .bool bn]) := ⟨by rw [hs1, hz1, hbn, hjn]; rfl⟩
  have HN1 := hid (And.intro hs1 (And.intro hz1 hbn))
  obtain ⟨v0, hv0⟩ : ∃ v, v = overs (L.take jn) lo hi := ⟨_, rfl⟩
  rw [← hv0] at hhead
  have HV0 := hid hv0
  have HJN := hid hjn
  have hpart : (bf = true ∧ s < lo ∧ lo < hi ∧ v0 = min (s + z) hi - lo) ∨ (bf = false ∧ v0 = 0) ∨ (bf = true ∧ lo ≤ s ∧ v0 = 0) ∨ (bf = true ∧ s < lo ∧ hi ≤ lo ∧ v0 = 0) := by
    by_cases h1 : jf < L.length
    · have e1 : bf = true := by rw [hbff, decide_eq_true h1]
      by_cases h2 : s < lo
      · by_cases h3 : lo < hi
        · left; rw [if_pos ⟨h1, h2, h3⟩] at hhead; exact ⟨e1, h2, h3, hhead⟩
        · right; right; right; rw [if_neg (fun h => h3 h.2.2)] at hhead; exact ⟨e1, h2, by omega, hhead⟩
      · right; right; left; rw [if_neg (fun h => h2 h.2.1)] at hhead; exact ⟨e1, by omega, hhead⟩
    · right; left; rw [if_neg (fun h => h1 h.1)] at hhead; exact ⟨by rw [hbff, decide_eq_false h1], hhead⟩
  have HG := hid hg
  clear hE hT hlo hhi hjf hjn hhead hss hzz hs hz hbff hs1 hz1 hbn hv0 hg
  rcases hpart with ⟨rfl, h2, h3, rfl⟩ | ⟨rfl, rfl⟩ | ⟨rfl, h2, rfl⟩ | ⟨rfl, h2, h3, rfl⟩
  all_goals
    have hmm : min (s + z) hi ≤ 1048576 := by omega
    go_enter Tryz.func145, Tryz.ntmps145
    go_wp2_with (first
      | (go_at_call 151; refine (ext_none HE.out).mono ?_; rintro e w' ⟨rfl, rfl⟩)
      | (go_at_call 147; refine (ext_words HE.out).mono ?_; rintro e w' ⟨rfl, rfl⟩)
      | (go_at_call 111; refine (ext_find HE.out HT.out _).mono ?_; rintro e w' ⟨rfl, rfl⟩; rw [HF.out])
      | (go_at_call 144; refine (ext_next HE.out HT.out _).mono ?_; rintro e w' ⟨rfl, rfl⟩; rw [HN.out]))
    clear hmax hmin
  all_goals
    go_loop [7, 11, 12, 13] (fun s7 s11 s12 s13 => ∃ j, jn ≤ j ∧ j ≤ L.length ∧ s7 = .int .i64 (overs (L.take j) lo hi) ∧ s11 = .int .i64 (obS L j) ∧ s12 = .int .i64 (obZ L j) ∧ s13 = .bool (decide (j < L.length))) (fun _ s11 _ s13 => if okV s13 then 1048577 - (intOf s11).toNat else 0)
    case atStart => exact ⟨jn, Nat.le_refl _, hjnl, by rw [← HV0.out], by rw [HN1.out.1], by rw [HN1.out.2.1], by rw [HN1.out.2.2]⟩
    case round =>
      obtain ⟨j, hj1, hj2, rfl, rfl, rfl, rfl⟩ := hrel
      have hbo := overs_bd HG.out hb.2 j lo hi
      have hbj := obS_bd HG.out hb.2 j
      by_cases hj : j < L.length
      · rw [decide_eq_true hj]
        obtain ⟨o1, o2⟩ := obS_in hj
        have hsz := HG.out.sz _ (List.getElem_mem hj)
        obtain ⟨sj, hsj⟩ : ∃ s, s = obS L j := ⟨_, rfl⟩
        obtain ⟨zj, hzj⟩ : ∃ z, z = obZ L j := ⟨_, rfl⟩
        obtain ⟨vj, hvj⟩ : ∃ v, v = overs (L.take j) lo hi := ⟨_, rfl⟩
        have hge : lo ≤ sj := by
          rw [hsj, o1]
          have hjn2 : nextO L lo < L.length := by have := HJN.out; omega
          have hy := nextO_yes hjn2
          rcases Nat.lt_or_ge (nextO L lo) j with h | h
          · have := HG.out.at hjn2 hj h; omega
          · have e : L[nextO L lo]'hjn2 = L[j] := by congr 1; have := HJN.out; omega
            rw [e] at hy; exact hy
        have hz1 : 1 ≤ zj := by rw [hzj, o2]; omega
        have htk := overs_take hj lo hi
        have hov : over L[j] lo hi = max 0 (min (sj + zj) hi - sj) := by
          unfold over
          rw [hsj, hzj, o1, o2] at *
          omega
        rw [hov, ← hvj] at htk
        have hbo2 := overs_bd HG.out hb.2 (j + 1) lo hi
        have hnx : nextO L (sj + zj) = j + 1 := by rw [hsj, hzj, o1, o2]; exact next_after_ob HG.out hj
        obtain ⟨s2, hs2⟩ : ∃ s, s = obS L (j + 1) := ⟨_, rfl⟩
        obtain ⟨z2, hz2⟩ : ∃ z, z = obZ L (j + 1) := ⟨_, rfl⟩
        obtain ⟨b2', hb2⟩ : ∃ b, b = decide (j + 1 < L.length) := ⟨_, rfl⟩
        have HX : Hid (tellO L (nextO L (sj + zj)) = .tuple #[.int .i64 s2, .int .i64 z2, .bool b2']) := ⟨by rw [hnx, hs2, hz2, hb2]; rfl⟩
        have HX2 := hid (And.intro hs2 (And.intro hz2 hb2))
        have hlt2 : b2' = true → sj + zj ≤ s2 := fun h => by
          rw [hb2] at h
          have h := of_decide_eq_true h
          have := HG.out.at hj h (Nat.lt_succ_self j)
          rw [hsj, hzj, hs2, o1, o2, (obS_in h).1]; omega
        have HLT := hid hlt2
        rw [← hsj, ← hzj] at hbj ⊢
        rw [← hvj] at hbo ⊢
        have HVJ := hid hvj
        have HSJ := hid hsj
        by_cases hhi : sj < hi
        · have hmj : min (sj + zj) hi ≤ 1048576 ∧ sj ≤ min (sj + zj) hi := by omega
          have htk' : overs (L.take (j + 1)) lo hi = vj + (min (sj + zj) hi - sj) := by rw [htk]; omega
          have hsum : 0 ≤ vj + (min (sj + zj) hi - sj) ∧ vj + (min (sj + zj) hi - sj) ≤ 1048576 := by rw [← htk']; exact hbo2
          have HTK := hid htk'
          clear hsj hzj hvj hov htk htk' hbo2 hnx hs2 hz2 hb2 hlt2 o1 o2 hsz
          go_wp2_with (go_at_call 144; refine (ext_next HE.out HT.out _).mono ?_; rintro e w' ⟨rfl, rfl⟩; rw [HX.out])
          go_round
          case rel => exact ⟨j + 1, by omega, by omega, by rw [HTK.out], by rw [HX2.out.1], by rw [HX2.out.2.1], by rw [HX2.out.2.2]⟩
          case measure =>
            have e0 : okV (Value.bool true) = true := rfl
            rw [if_pos e0]
            by_cases h : b2' = true
            · have := HLT.out h
              rw [if_pos (show okV (Value.bool b2') = true from h)]
              simp only [intOf]; omega
            · rw [if_neg (show ¬ okV (Value.bool b2') = true from h)]
              simp only [intOf]; omega
        · have htl := overs_tail HG.out (j := j) (f := lo) (t := hi) (fun hl => by
            have := HSJ.out; rw [(obS_in hl).1] at this; omega)
          have hE : Hid (overs L lo hi = vj) := ⟨by rw [overs_split L j, htl, ← HVJ.out]; omega⟩
          clear hsj hzj hvj hov htk hbo2 hnx hs2 hz2 hb2 hlt2 o1 o2 hsz htl
          go_wp2
          go_ret
          exact ⟨ret_int hE.out.symm, rfl⟩
      · rw [decide_eq_false hj]
        have htl := overs_tail HG.out (j := j) (f := lo) (t := hi) (fun hl => absurd hl hj)
        have hE : Hid (overs L lo hi = overs (L.take j) lo hi) := ⟨by rw [overs_split L j, htl]; omega⟩
        obtain ⟨vj, hvj⟩ : ∃ v, v = overs (L.take j) lo hi := ⟨_, rfl⟩
        rw [← hvj] at hbo ⊢ hE
        clear htl hvj
        go_wp2
        go_ret
        exact ⟨ret_int hE.out.symm, rfl⟩
end
end Go.Proofs.YtbmidhlilafgeaaGreatDoor
end

section
namespace Go.Proofs.YtbmidhlilafgeaaGreatDoor
open Go.RowKit Word

/-- The blocks that a map's own methods may write. -/
def mine (m b1 b2 : Nat) (k : Nat) : Prop := k = m ∨ k = b1 ∨ k = b2
section
variable {w : World} {m p1 b1 p2 b2 n : Nat} {L : List Ob}
theorem Ext.changed (hE : Ext w m p1 b1 p2 b2 n L) {w1 w2 : World} {L' : List Ob} (hg : Good n L') (t1 : Touch (fun k => k = b1) w w1) (v1 : Vec w1 p1 b1 (startsL n L')) (t2 : Touch (fun k => k = b2) w1 w2) (v2 : Vec w2 p2 b2 (endsL n L')) {z : Int} (hz : z = L'.length) :
    Ext (w2.setCell ⟨m, 2, none⟩ (.int .i64 z)) m p1 b1 p2 b2 n L' ∧ Touch (mine m b1 b2) w (w2.setCell ⟨m, 2, none⟩ (.int .i64 z)) := by
  have t3 : Touch (fun k => k = m) w2 (w2.setCell ⟨m, 2, none⟩ (.int .i64 z)) := (Touch.refl (fun k => k = m) w2).setCell (a := ⟨m, 2, none⟩) (fun _ => rfl) _
  obtain ⟨a1, a2, a3, a4⟩ := hE.am
  obtain ⟨a5, a6, a7⟩ := hE.ab
  have hm1 : m < w1.heap.size := Nat.lt_of_lt_of_le hE.hm t1.size
  have hm2 : m < w2.heap.size := Nat.lt_of_lt_of_le hm1 t2.size
  have e : ∀ o, w2.cell? ⟨m, o, none⟩ = w.cell? ⟨m, o, none⟩ := fun o => (t2.cell hm1 (by omega) o).trans (t1.cell hE.hm (by omega) o)
  have o : ∀ o, o ≠ 2 → (w2.setCell ⟨m, 2, none⟩ (.int .i64 z)).cell? ⟨m, o, none⟩ = w.cell? ⟨m, o, none⟩ := fun o ho => by
    rw [World.cell?_setCell_other (h := by intro e2; injection e2 with _ e3; omega), e o]
  refine ⟨⟨hg, (v1.touch t2 (by omega) (by omega)).touch t3 (by omega) (by omega), v2.touch t3 (by omega) (by omega), by simpa [World.setCell] using hm2, (o 0 (by omega)).trans hE.c0, (o 1 (by omega)).trans hE.c1, ?_, ?_, hE.am, hE.ab⟩, ?_⟩
  · rw [hz]; exact World.cell?_setCell_same (h := (e 2).trans hE.c2) ..
  · rw [World.frozen?_setCell, t2.frozen hm1 (by omega), t1.frozen hE.hm (by omega)]; exact hE.fr
  · exact ((t1.mono (fun k _ h => .inr (.inl h))).trans (t2.mono (fun k _ h => .inr (.inr h)))).trans (t3.mono (fun k _ h => .inl h))
/-- Behind Add. -/
def AddEnd (w : World) (m p1 b1 p2 b2 n : Nat) (L : List Ob) (s z : Int) (e : Ending) (w' : World) : Prop :=
  e = .returned (.int .i64 (addE L n s z)) ∧ Touch (mine m b1 b2) w w' ∧ Ext w' m p1 b1 p2 b2 n (addL L n s z)
theorem addEnd_no (hE : Ext w m p1 b1 p2 b2 n L) {s z c : Int} (h : addE L n s z = c) (hc : c ≠ 0) : AddEnd w m p1 b1 p2 b2 n L s z (.returned (.int .i64 c)) w := by
  refine ⟨by rw [h], Touch.refl _ _, ?_⟩
  unfold addL
  rw [if_neg (by rw [h]; exact hc)]
  exact hE
theorem ext_add_nil (s z : Int) (w : World) : Calls Tryz.prog 148 #[.pointer none, .int .i64 s, .int .i64 z] w fun e w' => e = .returned (.int .i64 9) ∧ w = w' := by
  go_enter Tryz.func148, Tryz.ntmps148
  go_wp2_with (go_at_call 151; refine (ext_none_nil _).mono ?_; rintro e w' ⟨rfl, rfl⟩)
  go_ret
  exact ⟨rfl, rfl⟩
set_option maxRecDepth 100000 in
set_option maxHeartbeats 3200000 in
theorem ext_add (hE : Ext w m p1 b1 p2 b2 n L) (hT : TabAt w) (s z : Int) :
    Calls Tryz.prog 148 #[.pointer (some ⟨m, 0, none⟩), .int .i64 s, .int .i64 z] w (AddEnd w m p1 b1 p2 b2 n L s z) := by
  have hb := hE.nb
  have HE := hid hE
  have HT := hid hT
  by_cases h0 : z < 1
  · have d0 : decide (z < 1) = true := by simp [h0]
    have HR := hid (addEnd_no hE (s := s) (z := z) (c := 15) (by unfold addE; rw [if_pos h0]) (by decide))
    clear hE hT
    go_enter Tryz.func148, Tryz.ntmps148
    go_wp2_with (go_at_call 151; refine (ext_none HE.out).mono ?_; rintro e w' ⟨rfl, rfl⟩)
    go_ret
    exact HR.out
  · have d0 : decide (z < 1) = false := by simp; omega
    by_cases h1 : s < 0
    · have d1 : decide (s < 0) = true := by simp [h1]
      have HR := hid (addEnd_no hE (s := s) (z := z) (c := 11) (by unfold addE; rw [if_neg h0, if_pos (.inl h1)]) (by decide))
      clear hE hT
      go_enter Tryz.func148, Tryz.ntmps148
      go_wp2_with (go_at_call 151; refine (ext_none HE.out).mono ?_; rintro e w' ⟨rfl, rfl⟩)
      go_ret
      exact HR.out
    · have d1 : decide (s < 0) = false := by simp; omega
      by_cases h2 : (n : Int) ≤ s
      · have d2 : decide ((n : Int) ≤ s) = true := by simp [h2]
        have HR := hid (addEnd_no hE (s := s) (z := z) (c := 11) (by unfold addE; rw [if_neg h0, if_pos (.inr (.inl h2))]) (by decide))
        clear hE hT
        go_enter Tryz.func148, Tryz.ntmps148
        go_wp2_with (first
          | (go_at_call 151; refine (ext_none HE.out).mono ?_; rintro e w' ⟨rfl, rfl⟩)
          | (go_at_call 147; refine (ext_words HE.out).mono ?_; rintro e w' ⟨rfl, rfl⟩))
        go_ret
        exact HR.out
      · have d2 : decide ((n : Int) ≤ s) = false := by simp; omega
        obtain ⟨sn, rfl⟩ : ∃ k : Nat, s = k := ⟨s.toNat, by omega⟩
        by_cases h3 : (n : Int) - sn < z
        · have d3 : decide ((n : Int) - (sn : Int) < z) = true := by simp; omega
          have HR := hid (addEnd_no hE (s := sn) (z := z) (c := 11) (by unfold addE; rw [if_neg h0, if_pos (.inr (.inr h3))]) (by decide))
          clear hE hT
          go_enter Tryz.func148, Tryz.ntmps148
          go_wp2_with (first
            | (go_at_call 151; refine (ext_none HE.out).mono ?_; rintro e w' ⟨rfl, rfl⟩)
            | (go_at_call 147; refine (ext_words HE.out).mono ?_; rintro e w' ⟨rfl, rfl⟩))
          go_ret
          exact HR.out
        · have d3 : decide ((n : Int) - (sn : Int) < z) = false := by simp; omega
          obtain ⟨zn, rfl⟩ : ∃ k : Nat, z = k := ⟨z.toNat, by omega⟩
          have hcl := clash_find hE.good (s := (sn : Int)) (z := (zn : Int)) (by omega)
          have hbn := obS_bd hE.good hb.2 (nextO L (sn : Int))
          have hsn : ((L[nextO L (sn : Int)]?.getD (0, 0)).1 : Int) = obS L (nextO L (sn : Int)) := rfl
          rw [hsn] at hcl
          obtain ⟨s1, hs1⟩ : ∃ v, v = obS L (findO L (sn : Int)) := ⟨_, rfl⟩
          obtain ⟨z1, hz1⟩ : ∃ v, v = obZ L (findO L (sn : Int)) := ⟨_, rfl⟩
          obtain ⟨f1, hf1⟩ : ∃ v, v = decide (findO L (sn : Int) < L.length) := ⟨_, rfl⟩
          obtain ⟨s2, hs2⟩ : ∃ v, v = obS L (nextO L (sn : Int)) := ⟨_, rfl⟩
          obtain ⟨z2, hz2⟩ : ∃ v, v = obZ L (nextO L (sn : Int)) := ⟨_, rfl⟩
          obtain ⟨f2, hf2⟩ : ∃ v, v = decide (nextO L (sn : Int) < L.length) := ⟨_, rfl⟩
          have HF : Hid (tellO L (findO L (sn : Int)) = .tuple #[.int .i64 s1, .int .i64 z1, .bool f1]) := ⟨by rw [hs1, hz1, hf1]; rfl⟩
          have HN : Hid (tellO L (nextO L (sn : Int)) = .tuple #[.int .i64 s2, .int .i64 z2, .bool f2]) := ⟨by rw [hs2, hz2, hf2]; rfl⟩
          rw [← hf1, ← hf2, ← hs2] at hcl
          rw [← hs2, ← hz2] at hbn
          have hzb : zn ≤ 1048576 ∧ sn ≤ 1048576 ∧ sn + zn ≤ n := by omega
          have hadd : ∀ c, clashB L (sn : Int) (zn : Int) = c → addE L n (sn : Int) (zn : Int) = if c then 7 else 0 := fun c hc => by
            unfold addE; rw [if_neg h0, if_neg (by omega), hc]
          clear hs1 hz1 hf1 hs2 hz2 hf2 hsn
          cases hc : clashB L (sn : Int) (zn : Int) with
          | true =>
            have HR := hid (addEnd_no hE (s := (sn : Int)) (z := (zn : Int)) (c := 7) (hadd true hc) (by decide))
            rw [hc] at hcl
            clear hE hT hadd hc
            cases f1 with
            | true =>
              clear hcl
              go_enter Tryz.func148, Tryz.ntmps148
              go_wp2_with (first
                | (go_at_call 151; refine (ext_none HE.out).mono ?_; rintro e w' ⟨rfl, rfl⟩)
                | (go_at_call 147; refine (ext_words HE.out).mono ?_; rintro e w' ⟨rfl, rfl⟩)
                | (go_at_call 111; refine (ext_find HE.out HT.out _).mono ?_; rintro e w' ⟨rfl, rfl⟩; rw [HF.out])
                | (go_at_call 144; refine (ext_next HE.out HT.out _).mono ?_; rintro e w' ⟨rfl, rfl⟩; rw [HN.out]))
              go_ret
              exact HR.out
            | false =>
              have hf2 : f2 = true ∧ s2 < (sn : Int) + zn := by simpa using hcl.symm
              obtain ⟨rfl, hlt⟩ := hf2
              have d4 : decide (s2 < (sn : Int) + (zn : Int)) = true := by simp [hlt]
              clear hcl
              go_enter Tryz.func148, Tryz.ntmps148
              go_wp2_with (first
                | (go_at_call 151; refine (ext_none HE.out).mono ?_; rintro e w' ⟨rfl, rfl⟩)
                | (go_at_call 147; refine (ext_words HE.out).mono ?_; rintro e w' ⟨rfl, rfl⟩)
                | (go_at_call 111; refine (ext_find HE.out HT.out _).mono ?_; rintro e w' ⟨rfl, rfl⟩; rw [HF.out])
                | (go_at_call 144; refine (ext_next HE.out HT.out _).mono ?_; rintro e w' ⟨rfl, rfl⟩; rw [HN.out]))
              go_ret
              exact HR.out
          | false =>
            have hap := add_apart (L := L) (s := (sn : Int)) (z := (zn : Int)) (by omega) (by omega) hc
            simp only [Int.toNat_natCast] at hap
            have hz1 : 1 ≤ zn := by omega
            have hgood := insO_good hE.good (o := (sn, zn)) hz1 hzb.2.2 hap
            have hst := starts_ins hE.good (o := (sn, zn)) hz1 hzb.2.2 hap
            have hen := ends_ins hE.good (o := (sn, zn)) hz1 hzb.2.2 hap
            have hlen := insO_len L (sn, zn)
            have hadd0 : addE L n (sn : Int) (zn : Int) = 0 := hadd false hc
            have hL : addL L n (sn : Int) (zn : Int) = insO L (sn, zn) := by unfold addL; rw [if_pos hadd0]; rfl
            rw [hc] at hcl
            obtain ⟨rfl, hor⟩ : f1 = false ∧ (f2 = false ∨ (f2 = true ∧ (sn : Int) + zn ≤ s2)) := by
              cases f1 with
              | true => rw [Bool.true_or] at hcl; cases hcl
              | false =>
                refine ⟨rfl, ?_⟩
                cases f2 with
                | false => exact .inl rfl
                | true =>
                  right
                  rw [Bool.false_or, Bool.true_and] at hcl
                  have := of_decide_eq_false hcl.symm
                  exact ⟨rfl, by omega⟩
            obtain ⟨e, he⟩ : ∃ e, e = sn + zn - 1 := ⟨_, rfl⟩
            have HIE : Hid ((sn : Int) + (zn : Int) - 1 = (e : Int)) := ⟨by omega⟩
            have hen' : endsL n (insO L (sn, zn)) = (endsL n L).set e true := by rw [he]; exact hen
            have hst' : startsL n (insO L (sn, zn)) = (startsL n L).set sn true := hst
            have K1 : Hid (sn < (startsL n L).length) := ⟨by rw [startsL_len]; omega⟩
            have K2 : Hid (e < (endsL n L).length) := ⟨by rw [endsL_len]; omega⟩
            have KG := hid hgood
            have KS := hid hst'
            have KE := hid hen'
            have KL := hid (And.intro hlen (And.intro hadd0 hL))
            obtain ⟨a1, a2, a3, a4⟩ := hE.am
            obtain ⟨a5, a6, a7⟩ := hE.ab
            have hmw := hE.hm
            have cc1 := hE.c1
            have cc2 := hE.c2
            have cfr := hE.fr
            have cc0 := hE.c0
            have HA : Hid (m ≠ b1 ∧ m ≠ b2 ∧ p2 ≠ b1 ∧ b2 ≠ b1) := ⟨⟨a2, a4, a6, fun h => a7 h.symm⟩⟩
            have hLn := hE.good.len
            clear hE hT hadd hc hcl hap hgood hst hen hen' hst' hlen hadd0 hL he a1 a2 a3 a4 a5 a6 a7
            rcases hor with rfl | ⟨rfl, hge⟩
            all_goals try have d4 : decide (s2 < (sn : Int) + (zn : Int)) = false := by simp; omega
            all_goals
              go_enter Tryz.func148, Tryz.ntmps148
              go_wp2_with (first
                | (go_at_call 151; refine (ext_none HE.out).mono ?_; rintro e w' ⟨rfl, rfl⟩)
                | (go_at_call 147; refine (ext_words HE.out).mono ?_; rintro e w' ⟨rfl, rfl⟩)
                | (go_at_call 111; refine (ext_find HE.out HT.out _).mono ?_; rintro e w' ⟨rfl, rfl⟩; rw [HF.out])
                | (go_at_call 144; refine (ext_next HE.out HT.out _).mono ?_; rintro e w' ⟨rfl, rfl⟩; rw [HN.out])
                | (go_at_call 195; rw [HIE.out]; refine (set_in (HE.out.v2.touch HT1.out HA.out.2.2.1 HA.out.2.2.2) e K2.out).mono ?_; rintro e' w2 ⟨rfl, ht2, hv2⟩; rw [← KE.out] at hv2; have e2 := (ht2.cell HM1.out HA.out.2.1 2).trans e12; have ef := (ht2.frozen HM1.out HA.out.2.1 2).trans ef1; have HT2 := hid ht2; have HV2 := hid hv2; clear ht2 hv2)
                | (go_at_call 195; refine (set_in HE.out.v1 sn K1.out).mono ?_; rintro e' w1 ⟨rfl, ht1, hv1⟩; rw [← KS.out] at hv1; have e11 := (ht1.cell hmw HA.out.1 1).trans cc1; have e12 := (ht1.cell hmw HA.out.1 2).trans cc2; have ef1 := (ht1.frozen hmw HA.out.1 2).trans cfr; have HT1 := hid ht1; have HV1 := hid hv1; have HM1 := hid (Nat.lt_of_lt_of_le hmw ht1.size); clear ht1 hv1))
              go_ret
              have hch := HE.out.changed KG.out HT1.out HV1.out HT2.out HV2.out (z := ((L.length : Int) + 1)) (by rw [KL.out.1]; push_cast; rfl)
              exact ⟨by rw [KL.out.2.1]; rfl, hch.2, by rw [KL.out.2.2]; exact hch.1⟩

/-! Drop -/
def DropEnd (w : World) (m p1 b1 p2 b2 n : Nat) (L : List Ob) (s : Int) (e : Ending) (w' : World) : Prop :=
  e = .returned (.tuple #[.int .i64 (dropV L s), .bool (decide (startO L s < L.length))]) ∧ Touch (mine m b1 b2) w w' ∧ Ext w' m p1 b1 p2 b2 n (dropL L s)
theorem test_start {n : Nat} {L : List Ob} (h : Good n L) (s : Int) : (decide (0 ≤ s) && at_ (startsL n L) s.toNat) = decide (startO L s < L.length) := by
  refine bool_ext ?_
  simp only [Bool.and_eq_true, decide_eq_true_eq]
  rw [at_starts h]
  constructor
  · rintro ⟨h0, o, ho, e⟩
    by_cases hs : startO L s < L.length
    · exact hs
    · exact absurd (by omega) (startO_no hs o ho)
  · intro hs
    have := startO_yes hs
    exact ⟨by omega, _, List.getElem_mem hs, by omega⟩
theorem none_raw {w : World} {m p : Nat} (c0 : w.cell? ⟨m, 0, none⟩ = some (.pointer (some ⟨p, 0, none⟩))) : Calls Tryz.prog 151 #[.pointer (some ⟨m, 0, none⟩)] w fun e w' => e = .returned (.bool false) ∧ w = w' := by
  go_enter Tryz.func151, Tryz.ntmps151
  go_wp2
  go_ret
  exact ⟨rfl, rfl⟩
theorem words_raw {w : World} {m p b n : Nat} {l : List Bool} (c0 : w.cell? ⟨m, 0, none⟩ = some (.pointer (some ⟨p, 0, none⟩))) (hV : Vec w p b l) (hl : l.length = n) :
    Calls Tryz.prog 147 #[.pointer (some ⟨m, 0, none⟩)] w fun e w' => e = .returned (.int .i64 n) ∧ w = w' := by
  have HL := hid hl
  have HV := hid hV
  clear hl hV
  go_enter Tryz.func147, Tryz.ntmps147
  go_wp2_with (first
    | (go_at_call 151; refine (none_raw c0).mono ?_; rintro e w' ⟨rfl, rfl⟩)
    | (go_at_call 194; refine (len_vec HV.out).mono ?_; rintro e w' ⟨rfl, rfl⟩; rw [HL.out]))
  go_ret
  exact ⟨rfl, rfl⟩
/-! Wipe -/
theorem lay_all_off (l : List Bool) (n : Nat) (h : l.length = n) : layL l 0 n false = List.replicate n false :=
  ext_at (by rw [layL_length, h]; simp) (fun i hi => by
    rw [layL_length] at hi
    rw [layL_at _ _ _ _ _ hi, if_pos (by omega)]
    simp [at_, List.getD_eq_getElem?_getD, List.getElem?_replicate]; split <;> rfl)
theorem ext_wipe_nil (w : World) : Calls Tryz.prog 179 #[.pointer none] w fun e w' => e = .returned (.tuple #[]) ∧ w = w' := by
  go_enter Tryz.func179, Tryz.ntmps179
  go_wp2_with (go_at_call 151; refine (ext_none_nil _).mono ?_; rintro e w' ⟨rfl, rfl⟩)
  refine bodyPost_ret (results_none rfl _ _ _) rfl ?_
  exact ⟨rfl, rfl⟩
def WipeEnd (w : World) (m p1 b1 p2 b2 n : Nat) (e : Ending) (w' : World) : Prop := e = .returned (.tuple #[]) ∧ Touch (mine m b1 b2) w w' ∧ Ext w' m p1 b1 p2 b2 n []
set_option maxRecDepth 100000 in
set_option maxHeartbeats 1600000 in
theorem ext_wipe (hE : Ext w m p1 b1 p2 b2 n L) :
    Calls Tryz.prog 179 #[.pointer (some ⟨m, 0, none⟩)] w (WipeEnd w m p1 b1 p2 b2 n) := by
  have hb := hE.nb
  have HE := hid hE
  have cc0 := hE.c0
  have cc1 := hE.c1
  have cc2 := hE.c2
  have cfr := hE.fr
  obtain ⟨a1, a2, a3, a4⟩ := hE.am
  obtain ⟨a5, a6, a7⟩ := hE.ab
  have hmw := hE.hm
  have HA : Hid (m ≠ b1 ∧ m ≠ b2 ∧ p2 ≠ b1 ∧ b2 ≠ b1) := ⟨⟨a2, a4, a6, fun h => a7 h.symm⟩⟩
  have KS : Hid (layL (startsL n L) 0 (n : Int) false = startsL n []) := ⟨by rw [lay_all_off _ n (startsL_len ..), starts_nil]⟩
  have KE : Hid (layL (endsL n L) 0 (n : Int) false = endsL n []) := ⟨by rw [lay_all_off _ n (endsL_len ..), ends_nil]⟩
  clear hE a1 a2 a3 a4 a5 a6 a7
  go_enter Tryz.func179, Tryz.ntmps179
  go_upto_region 1 with (go_at_call 151; refine (ext_none HE.out).mono ?_; rintro e w' ⟨rfl, rfl⟩)
  obtain ⟨S, hS⟩ : ∃ S : World → Prop, S = fun W' => W'.cell? ⟨m, 0, none⟩ = some (.pointer (some ⟨p1, 0, none⟩)) := ⟨_, rfl⟩
  have x0 : ∀ p : Held S, p.w.cell? ⟨m, 0, none⟩ = some (.pointer (some ⟨p1, 0, none⟩)) := fun p => Held.get hS p
  have hS0 : S w.drew := by rw [hS]; exact cc0
  have inst : Inhabited (Held S) := ⟨⟨_, hS0⟩⟩
  clear hS
  refine wp_region_mixS S 6 [([0, 1, 2, 3, 4], 5), ([], 6)] [] (by kernel_rfl) (by kernel_rfl) hS0 ?_
  refine segs_step ?_
  simp only [opsAt, List.getElem?_cons_zero, List.getElem?_cons_succ]
  repeat (go_big_quiet_step (fail))
  refine wpQuiet_nil ?_
  go_wp2_with (go_at_call 147; refine (ext_words (HE.out.gr (Gr.refl w).drew)).mono ?_; rintro e w' ⟨rfl, rfl⟩)
  refine ⟨.inr (Held.of hS0), ?_⟩
  refine segs_step ?_
  simp only [opsAt, List.getElem?_cons_zero, List.getElem?_cons_succ]
  refine wpQuiet_nil ?_
  go_wp2_with (go_at_call 207; refine (wipe_vec (HE.out.v1.gr (Gr.refl w).drew) 0 (n : Int) (by decide)).mono ?_; rintro e' w1 ⟨rfl, ht1, hv1⟩; rw [KS.out] at hv1; have hg0 := ((Gr.refl w).drew.touch (fun k => k = b1)).trans ht1; have e11 := (hg0.cell hmw HA.out.1 1).trans cc1; have e12 := (hg0.cell hmw HA.out.1 2).trans cc2; have e10 := (hg0.cell hmw HA.out.1 0).trans cc0; have ef1 := (hg0.frozen hmw HA.out.1 2).trans cfr; have HT1 := hid hg0; have HV1 := hid hv1; have HM1 := hid (Nat.lt_of_lt_of_le hmw hg0.size); clear ht1 hv1 hg0)
  refine ⟨.inl trivial, ?_⟩
  refine segs_end ?_
  refine wpQuiet_nil ?_
  refine NoPanic.normal ?_
  clear x0 hS0 inst
  clear S
  go_upto_region 2 with (fail)
  obtain ⟨S, hS⟩ : ∃ S : World → Prop, S = fun W' => W'.cell? ⟨m, 1, none⟩ = some (.pointer (some ⟨p2, 0, none⟩)) := ⟨_, rfl⟩
  have x0 : ∀ p : Held S, p.w.cell? ⟨m, 1, none⟩ = some (.pointer (some ⟨p2, 0, none⟩)) := fun p => Held.get hS p
  have hS0 : S w1.drew := by rw [hS]; exact e11
  have inst : Inhabited (Held S) := ⟨⟨_, hS0⟩⟩
  clear hS
  refine wp_region_mixS S 6 [([0, 1, 2, 3, 4], 5), ([], 6)] [] (by kernel_rfl) (by kernel_rfl) hS0 ?_
  refine segs_step ?_
  simp only [opsAt, List.getElem?_cons_zero, List.getElem?_cons_succ]
  repeat (go_big_quiet_step (fail))
  refine wpQuiet_nil ?_
  go_wp2_with (go_at_call 147; refine (words_raw (w := w1.drew) e10 (HV1.out.gr (Gr.refl w1).drew) (startsL_len n [])).mono ?_; rintro e w' ⟨rfl, rfl⟩)
  refine ⟨.inr (Held.of hS0), ?_⟩
  refine segs_step ?_
  simp only [opsAt, List.getElem?_cons_zero, List.getElem?_cons_succ]
  refine wpQuiet_nil ?_
  go_wp2_with (go_at_call 207; refine (wipe_vec ((HE.out.v2.touch HT1.out HA.out.2.2.1 HA.out.2.2.2).gr (Gr.refl w1).drew) 0 (n : Int) (by decide)).mono ?_; rintro e' w2 ⟨rfl, ht2, hv2⟩; rw [KE.out] at hv2; have hg0 := ((Gr.refl w1).drew.touch (fun k => k = b2)).trans ht2; have e2 := (hg0.cell HM1.out HA.out.2.1 2).trans e12; have ef := (hg0.frozen HM1.out HA.out.2.1 2).trans ef1; have HT2 := hid hg0; have HV2 := hid hv2; clear ht2 hv2 hg0)
  refine ⟨.inl trivial, ?_⟩
  refine segs_end ?_
  refine wpQuiet_nil ?_
  refine NoPanic.normal ?_
  clear x0 hS0 inst
  clear S
  go_wp2
  refine bodyPost_end (results_none rfl _ _ _) rfl ?_
  have hch := HE.out.changed (Good.nil n) HT1.out HV1.out HT2.out HV2.out (z := 0) rfl
  exact ⟨rfl, hch.2, hch.1⟩

/-! New -/
def NewExt (w : World) (n : Nat) (e : Ending) (w' : World) : Prop :=
  ∃ m p1 b1 p2 b2, e = .returned (.tuple #[.pointer (some ⟨m, 0, none⟩), .int .i64 0]) ∧ Gr w w' ∧ Ext w' m p1 b1 p2 b2 n [] ∧ w.heap.size ≤ m ∧ w.heap.size ≤ p1 ∧ w.heap.size ≤ b1 ∧ w.heap.size ≤ p2 ∧ w.heap.size ≤ b2
set_option maxRecDepth 100000 in
set_option maxHeartbeats 800000 in
theorem ext_new_bad (n : Int) (hn : n < 1 ∨ 1048576 < n) (w : World) : Calls Tryz.prog 131 #[.int .i64 n] w fun e w' => e = .returned (.tuple #[.pointer none, .int .i64 5]) ∧ w = w' := by
  have HN := hid hn
  clear hn
  go_enter Tryz.func131, Tryz.ntmps131
  go_wp2_with (go_at_call 177; refine (new_none n HN.out _).mono ?_; rintro e w' ⟨rfl, rfl⟩)
  go_ret2
  exact ⟨ret2 rfl rfl, rfl⟩
set_option maxRecDepth 100000 in
set_option maxHeartbeats 800000 in
theorem ext_new (n : Nat) (h1 : 1 ≤ n) (h2 : n ≤ 1048576) (w : World) : Calls Tryz.prog 131 #[.int .i64 n] w (NewExt w n) := by
  have HN := hid (And.intro h1 h2)
  clear h1 h2
  go_enter Tryz.func131, Tryz.ntmps131
  go_wp2_with (first
    | (go_at_call 177; refine (new_vec n HN.out.1 HN.out.2 w1).mono ?_; rintro e w2 ⟨p2, b2, rfl, hg2, hV2, hp2, hb2⟩)
    | (go_at_call 177; refine (new_vec n HN.out.1 HN.out.2 _).mono ?_; rintro e w1 ⟨p1, b1, rfl, hg1, hV1, hp1, hb1⟩))
  go_ret2
  have hV1' := hV1.gr hg2
  have s1 := hV1.hp
  have s2 := hV1.hb
  have s3 := hV2.hp
  have s4 := hV2.hb
  have sg1 := hg1.size
  have sg2 := hg2.size
  refine ⟨_, p1, b1, p2, b2, ret2 rfl rfl, (hg1.trans hg2).alloc _, ⟨Good.nil n, ?_, ?_, by simp, World.cell?_alloc_new .., World.cell?_alloc_new .., World.cell?_alloc_new .., World.frozen?_alloc_new .., by omega, by omega⟩, by omega, by omega, by omega, by omega, by omega⟩
  · rw [starts_nil]; exact hV1'.gr ((Gr.refl _).alloc _)
  · rw [ends_nil]; exact hV2.gr ((Gr.refl _).alloc _)
end
end Go.Proofs.YtbmidhlilafgeaaGreatDoor
end

section
namespace Go.Proofs.YtbmidhlilafgeaaGreatDoor
open Go.RowKit Go.Shelf Word
attribute [local go_sem] Oper.semAt_some

/-- What the iterator of a vector wants of the world. -/
def OnesInv (box p b N : Nat) (s : List Bool × Nat) (W : World) : Prop :=
  Vec W p b s.1 ∧ s.1.length = N ∧ TabAt W ∧ W.cell? ⟨box, 0, none⟩ = some (.pointer (some ⟨p, 0, none⟩)) ∧ s.2 ≤ N
def OnesGives (s : List Bool × Nat) (x : Nat) : Prop := x = nextL s.1 s.2 ∧ nextL s.1 s.2 < s.1.length
def OnesNext (_ : List Bool × Nat) (x : Nat) (s' : List Bool × Nat) : Prop := s'.2 = x + 1
theorem next_at {l : List Bool} {a : Int} (h : nextL l a < l.length) : at_ l (nextL l a) = true ∧ a ≤ (nextL l a : Nat) := by
  have := first_at (fun i => at_ l i && decide (a ≤ (i : Nat))) l.length h
  simp only [Bool.and_eq_true, decide_eq_true_eq] at this
  exact this
theorem next_ge {l : List Bool} {a : Int} (h : nextL l a < l.length) : a ≤ (nextL l a : Nat) := (next_at h).2
def okOf : Value → Bool
  | .bool b => b
  | _ => false
def OnesFin (s : List Bool × Nat) : Prop := ¬ nextL s.1 s.2 < s.1.length

set_option maxRecDepth 100000 in
set_option maxHeartbeats 1600000 in
theorem ones_seq (n : Nat) (box p b N : Nat) (l0 : List Bool) (w : World) :
    SeqS Fence.wide n Tryz.prog 197 #[.pointer (some ⟨box, 0, none⟩)] (fun x : Nat => #[.int .i64 (x : Int)]) (OnesInv box p b N) OnesGives OnesNext OnesFin (l0, 0) w := by
  intro l J Jx W hg hJ hJx hI hY h0
  refine callsIn_of_wp Tryz.func197 rfl trivial ?_ rfl
  have hi0 := hI _ _ h0
  have c0 := hi0.2.2.2.1
  have HI0 := hid hi0
  clear hi0
  simp only [Tryz.ntmps197, List.size_toArray, List.length_cons, List.length_nil, Nat.reduceAdd, Nat.reduceSub, Array.replicate_succ, Array.replicate_zero, List.push_toArray, List.append_toArray, List.nil_append, List.cons_append]
  gi_wp2_with (refine ⟨trivial, fun h => Bool.noConfusion h, ?_⟩; gi_at_call 191; refine (callsIn_wide.2 (next_vec HI0.out.1 HI0.out.2.2.1 _)).mono ?_; rintro e w1 ⟨rfl, rfl⟩)
  gi_loopw [3, 4] (fun x3 x4 wr => ∃ s : List Bool × Nat, J s wr ∧ x3 = .int .i64 (valN s.1.length (nextL s.1 s.2)) ∧ x4 = .bool (decide (nextL s.1 s.2 < s.1.length))) (fun x3 x4 _ => if okOf x4 then N - (intOf x3).toNat + 1 else 0)
  case atStart => exact ⟨(l0, 0), h0, rfl, rfl⟩
  case round =>
    obtain ⟨s, hs, rfl, rfl⟩ := hrel
    have hi := hI _ _ hs
    have c1 := hi.2.2.2.1
    have HI := hid hi
    clear hi
    by_cases hlt : nextL s.1 s.2 < s.1.length
    · obtain ⟨x, hx⟩ : ∃ x, x = nextL s.1 s.2 := ⟨_, rfl⟩
      obtain ⟨fn, tmps, assign, body, hy, hR⟩ := hY s x wr hs ⟨hx, hlt⟩
      have e1 : valN s.1.length (nextL s.1 s.2) = (x : Int) := by rw [hx]; exact valN_yes hlt
      have e2 : decide (nextL s.1 s.2 < s.1.length) = true := by simp [hlt]
      rw [e1, e2]
      have hxN : x < N := by rw [← HI.out.2.1, hx]; exact hlt
      have HN := hid hI
      have HX := hid hx
      clear hx e1 e2 hI
      gi_wp2
      refine ⟨fun h => Bool.noConfusion h, hR.mono ?_⟩
      rintro e W3 (⟨rfl, s', hn', hJ'⟩ | ⟨rfl, hx'⟩)
      · have hi' := HN.out _ _ hJ'
        have c3 := hi'.2.2.2.1
        have HI' := hid hi'
        have hn2 : s'.2 = x + 1 := hn'
        have hN2 : (N : Int) ≤ 1048576 := by have := hi'.1.n2; have := hi'.2.1; omega
        have hx2 : (x : Int) < N := by omega
        have HS' := hid hn2
        clear hi' hn2 hn'
        gi_wp2_with (refine ⟨trivial, fun h => Bool.noConfusion h, ?_⟩; gi_at_call 191; refine (callsIn_wide.2 (next_vec HI'.out.1 HI'.out.2.2.1 ((x : Int) + 1))).mono ?_; rintro e w1 ⟨rfl, rfl⟩)
        go_roundw
        case rel => exact ⟨s', hJ', by rw [HS'.out]; rfl, by rw [HS'.out]; rfl⟩
        case measure =>
          have e0 : okOf (Value.bool true) = true := rfl
          rw [if_pos e0]
          by_cases h : nextL s'.1 ((x : Int) + 1) < s'.1.length
          · have hge := next_ge h
            have h2 := HI'.out.2.1
            rw [valN_yes h, if_pos (by simp [okOf, h])]
            simp only [intOf]
            omega
          · rw [if_neg (by simp [okOf]; omega)]
            omega
      · gi_wp2
        go_end0
        exact ⟨⟨_, rfl⟩, .inr hx'⟩
    · have e1 : valN s.1.length (nextL s.1 s.2) = 0 := valN_no hlt
      have e2 : decide (nextL s.1 s.2 < s.1.length) = false := by simp; omega
      rw [e1, e2]
      gi_wp2
      refine ⟨fun _ h => (by cases h), ?_⟩
      gi_wp2
      go_end0
      exact ⟨⟨_, rfl⟩, .inl ⟨s, hlt, hs⟩⟩
/-- Ones: the iterator's value; its box is new. -/
theorem ones_call {w : World} (q : Option Addr) :
    Calls Tryz.prog 152 #[.pointer q] w fun e w' => e = .returned (.func (.func 197) #[] #[.pointer (some ⟨w.heap.size, 0, none⟩)]) ∧ w' = w.alloc (.cells #[.pointer q] 198) := by
  have hmf : ∀ (fn : Fn) (first cap : Array Value) (w : World), (Instr.makeFunc fn first cap).run Tryz.prog w = .ok (.func fn first cap) w := fun _ _ _ _ => rfl
  go_enter Tryz.func152, Tryz.ntmps152
  go_wp2
  go_ret
  exact ⟨rfl, rfl⟩
end Go.Proofs.YtbmidhlilafgeaaGreatDoor
end

section
namespace Go.Proofs.YtbmidhlilafgeaaGreatDoor
open Go.RowKit Go.Shelf Word
attribute [local go_sem] Oper.semAt_some

def AllInv (box m p1 b1 p2 b2 n : Nat) (L : List Ob) (j : Nat) (W : World) : Prop :=
  Ext W m p1 b1 p2 b2 n L ∧ TabAt W ∧ W.cell? ⟨box, 0, none⟩ = some (.pointer (some ⟨m, 0, none⟩)) ∧ j ≤ L.length
def AllGives (L : List Ob) (j : Nat) (x : Ob) : Prop := L[j]? = some x
def encO (x : Ob) : Array Value := #[.int .i64 (x.1 : Nat), .int .i64 (x.2 : Nat)]
theorem next_succ_ob {n : Nat} {L : List Ob} (h : Good n L) {j : Nat} (hj : j < L.length) : nextO L ((L[j].1 : Int) + 1) = j + 1 := by
  refine nextO_eq (by omega) (fun i hi hij => ?_) (fun h2 => ?_)
  · rcases Nat.lt_or_ge i j with h1 | h1
    · have := h.at hi hj h1; omega
    · have : i = j := by omega
      subst this; omega
  · have := h.at hj h2 (Nat.lt_succ_self j); have := h.sz _ (List.getElem_mem hj); omega
theorem yieldAt_wide {m m' l l2 : Nat} {P : Program} {args : Array Value} {W : World} {R : Ending → World → Prop} (h : YieldAt Fence.wide m P l args W R) : YieldAt (Fence.wide.inRound l2) m' P l args W R := by
  obtain ⟨fn, tmps, assign, body, hy, hR⟩ := h
  exact ⟨fn, tmps, assign, body, hy, hR.1, fun c cs _ => hR.2 c cs (room_wide _)⟩
/-- Between two rounds of the inner loop. -/
structure InAll (n : Nat) (L : List Ob) (J : Nat → World → Prop) (B0 B1 p1 : Nat) (y : Value) (s : List Bool × Nat) (A : World) : Prop where
  st : s.1 = startsL n L
  ps : s.2 ≤ n
  j : ∃ j, J j A ∧ nextO L (s.2 : Int) = j
  y : A.cell? ⟨B0, 0, none⟩ = some y
  v : A.cell? ⟨B1, 0, none⟩ = some (.pointer (some ⟨p1, 0, none⟩))

set_option maxRecDepth 100000 in
set_option maxHeartbeats 3200000 in
theorem all_seq (n' : Nat) (box m p1 b1 p2 b2 n : Nat) (L : List Ob) (w : World) :
    SeqT Fence.wide n' Tryz.prog 150 #[.pointer (some ⟨box, 0, none⟩)] encO (AllInv box m p1 b1 p2 b2 n L) (AllGives L) (fun j _ j' => j' = j + 1) (fun j => j = L.length) 0 w := by
  intro l J Jx W hg hJ hJx hI hY h0
  refine callsIn_wide.2 ((callsIn_wide (n := 5)).1 ?_)
  refine callsIn_of_wp_marks Tryz.func150 rfl trivial ?_ rfl
  have hi0 := hI _ _ h0
  have c0 := hi0.2.2.1
  have k0 := hi0.1.c0
  have HI0 := hid hi0
  have HJ0 := hid h0
  have HII := hid hI
  clear hi0 h0 hI
  simp only [Tryz.ntmps150, List.size_toArray, List.length_cons, List.length_nil, Nat.reduceAdd, Nat.reduceSub, Array.replicate_succ, Array.replicate_zero, List.push_toArray, List.append_toArray, List.nil_append, List.cons_append]
  have hbox : box < W.heap.size := lt_cell c0
  have hmw := HI0.out.1.hm
  gi_wp2_with (first
    | (refine ⟨trivial, ?_⟩; gi_at_call 151; refine (callsIn_wide.2 (ext_none (HI0.out.1.gr ((Gr.refl W).alloc _)))).mono ?_; rintro e w1 ⟨rfl, rfl⟩)
    | (refine ⟨trivial, ?_⟩; gi_at_call 152; refine (callsIn_wide.2 (ones_call (some ⟨p1, 0, none⟩))).mono ?_; rintro e w1 ⟨rfl, rfl⟩))
  obtain ⟨W0, hW0⟩ : ∃ W0, W0 = (W.alloc (.cells #[.func (.yield l) #[] #[]] 56)).alloc (.cells #[.pointer (some ⟨p1, 0, none⟩)] 198) := ⟨_, rfl⟩
  have hg0 : Gr W W0 := by rw [hW0]; exact ((Gr.refl W).alloc _).alloc _
  have hsz0 : W0.heap.size = W.heap.size + 2 := by rw [hW0]; simp
  have bY : W0.cell? ⟨W.heap.size, 0, none⟩ = some (.func (.yield l) #[] #[]) := by rw [hW0]; exact ((Boxed.new W _ _).alloc _).cell
  have bV : W0.cell? ⟨W.heap.size + 1, 0, none⟩ = some (.pointer (some ⟨p1, 0, none⟩)) := by
    rw [hW0]
    have := Boxed.new (W.alloc (.cells #[.func (.yield l) #[] #[]] 56)) 198 (.pointer (some ⟨p1, 0, none⟩))
    rw [World.size_alloc] at this
    exact this.cell
  rw [← hW0]
  have hgood := HI0.out.1.good
  have hnb := HI0.out.1.nb
  have hJ00 : J 0 W0 := hJ _ _ _ HJ0.out (hg0.touch _)
  have HH0 := hid hW0
  clear hW0 c0 k0
  have hn0 : nextO L ((0 : Nat) : Int) = 0 := nextO_eq (Nat.zero_le _) (fun i hi h => by omega) (fun h => by omega)
  have tI : ∀ s A B, InAll n L J W.heap.size (W.heap.size + 1) p1 (.func (.yield l) #[] #[]) s A → Touch (fun k => W0.heap.size ≤ k) A B → InAll n L J W.heap.size (W.heap.size + 1) p1 (.func (.yield l) #[] #[]) s B := fun s A B h t =>
    ⟨h.st, h.ps, by obtain ⟨j, hj, e⟩ := h.j; exact ⟨j, hJ _ _ _ hj (t.mono (fun k _ h => by omega)), e⟩, (t.cell (lt_cell h.y) (by show ¬ W0.heap.size ≤ W.heap.size; omega) 0).trans h.y, (t.cell (lt_cell h.v) (by show ¬ W0.heap.size ≤ W.heap.size + 1; omega) 0).trans h.v⟩
  refine range_lawT (s0 := (startsL n L, 0)) rfl (by omega) (gf := 197) (lb := #[.pointer (some ⟨W.heap.size + 1, 0, none⟩)]) rfl trivial (enters_of Tryz.func197 (by kernel_rfl) rfl)
    (ones_seq _ (W.heap.size + 1) p1 b1 n (startsL n L) _).toT (fun _ => rfl)
    (InAll n L J W.heap.size (W.heap.size + 1) p1 (.func (.yield l) #[] #[])) (fun c A => c = .ret ∧ Jx A) tI (fun c A B h t => ⟨h.1, hJx _ _ h.2 (t.mono (fun k _ h => by omega))⟩)
    (fun s A h => by
      obtain ⟨j, hj, -⟩ := h.j
      have hi := HII.out _ _ hj
      exact ⟨by rw [h.st]; exact hi.1.v1, by rw [h.st, startsL_len], hi.2.1, h.v, h.ps⟩)
    ⟨rfl, Nat.zero_le _, ⟨0, hJ00, hn0⟩, bY, bV⟩ ?round ?done ?stop
  case round =>
    intro lp s x W3 hsz3 hI3 hgv
    gi_wp2
    refine ⟨Gr.refl _, fun W4 ht4 hI4 => ?_⟩
    obtain ⟨hst, hps, ⟨j, hj, hnx⟩, hy, hv⟩ := hI4
    obtain ⟨hx, hlt⟩ := hgv
    have hi4 := HII.out _ _ hj
    rw [hst] at hx hlt
    have hjl : j < L.length := by
      rcases Nat.lt_or_ge j L.length with h | h
      · exact h
      · have := next_start_no hgood (a := (s.2 : Int)) (by rw [hnx]; omega)
        omega
    have hxj : x = L[j].1 := by
      have := (next_start_yes hgood (a := (s.2 : Int)) (by rw [hnx]; exact hjl)).1
      rw [hx, this]; congr 2
    subst hxj
    have hJd : J j W4.drew := hJ _ _ _ hj ((Gr.refl W4).drew.touch _)
    have hsz4 : W.heap.size ≤ W4.drew.heap.size := Nat.le_of_lt (lt_cell hy)
    obtain ⟨fn, tmps, assign, body, hyy, hR⟩ := yieldAt_wide (m' := 2) (l2 := lp) (hY j L[j] W4.drew hJd hsz4 (List.getElem?_eq_getElem hjl))
    have HZ := hid (ext_size (hi4.1.gr (Gr.refl W4).drew) ((Gr.refl W4).drew.tab hi4.2.1.lt hi4.2.1) hjl)
    have cbx := hi4.2.2.1
    have hbxs := hsz0
    have HS := hid (And.intro hst (And.intro hnx hjl))
    clear hst hnx hj hi4 hx hlt hI3
    dsimp only [encO] at hyy
    have hR2 := hR.mono (R' := fun e W' => ∃ bb : Bool, e = .returned (.bool bb) ∧ ((bb = true ∧ J (j + 1) W') ∨ (bb = false ∧ Jx W')) ∧ Touch (fun k => k < W.heap.size) W4.drew W') (by
      rintro e W' ⟨⟨he, s', rfl, hs'⟩ | ⟨he, hx⟩, ht⟩
      · exact ⟨true, he, .inl ⟨rfl, hs'⟩, ht⟩
      · exact ⟨false, he, .inr ⟨rfl, hx⟩, ht⟩)
    clear hR
    gi_wp2
    obtain ⟨Sx, hSx⟩ : ∃ S : World → Prop, S = fun A => A.cell? ⟨W.heap.size, 0, none⟩ = some (.func (.yield l) #[] #[]) := ⟨_, rfl⟩
    have x1 : ∀ p : Held Sx, p.w.cell? ⟨W.heap.size, 0, none⟩ = some (.func (.yield l) #[] #[]) := fun p => Held.get hSx p
    have hS0 : Sx W4.drew := by rw [hSx]; exact hy
    have HSx := hid hSx
    clear hSx
    have inst : Inhabited (Held Sx) := ⟨⟨_, hS0⟩⟩
    refine wpIn_region_mixS Sx 7 [([0, 1, 3], 2), ([], 4), ([], 5)] [6] (fun _ => trivial) (by kernel_rfl) (by kernel_rfl) hS0 ?_
    refine segsIn_step ?_
    simp only [opsAt, List.getElem?_cons_zero, List.getElem?_cons_succ]
    repeat (go_big_quiet_step (fail))
    refine wpQuiet_nil ?_
    gi_wp2
    refine ⟨.inr (Held.of hS0), ?_⟩
    refine segsIn_step ?_
    simp only [opsAt, List.getElem?_cons_zero, List.getElem?_cons_succ]
    refine wpQuiet_nil ?_
    gi_wp2_with (refine ⟨trivial, ?_⟩; gi_at_call 153; refine (CallsIn.inRound lp (callsIn_wide.2 HZ.out)).mono ?_; rintro e w' ⟨rfl, rfl⟩)
    refine ⟨.inr (Held.of hS0), ?_⟩
    refine segsIn_step ?_
    simp only [opsAt, List.getElem?_cons_zero, List.getElem?_cons_succ]
    refine wpQuiet_nil ?_
    gi_wp2
    refine hR2.mono ?_
    rintro e W5 ⟨bb, rfl, hor, ht5⟩
    have hy5 := (ht5.cell (lt_cell hy) (Nat.lt_irrefl _) 0).trans hy
    have hv5 := (ht5.cell (lt_cell hv) (by show ¬ W.heap.size + 1 < W.heap.size; omega) 0).trans hv
    gi_wp2
    refine ⟨.inr (Held.of (by rw [HSx.out]; exact hy5)), ?_⟩
    refine segsIn_end ?_
    simp only [opsAt, List.getElem?_cons_zero, List.getElem?_cons_succ]
    repeat (go_big_quiet_step (fail))
    refine wpQuiet_nil ?_
    refine NoPanic.normal ?_
    have T5 := hid (((Gr.refl W4).drew.touch (fun k => k < W0.heap.size)).trans (ht5.mono (fun k _ h => by omega)))
    have HSZ := hid (hgood.sz _ (List.getElem_mem hjl))
    clear x1 hS0 HSx inst hR2 ht5
    clear Sx
    cases bb with
    | true =>
      have hJ5 : J (j + 1) W5 := by
        rcases hor with ⟨_, h⟩ | ⟨h, _⟩
        · exact h
        · cases h
      have HJ5 := hid hJ5
      clear hor hJ5
      gi_wp2
      exact ⟨T5.out, (startsL n L, L[j].1 + 1), rfl, rfl, by have := HSZ.out; show L[j].1 + 1 ≤ n; omega, ⟨j + 1, HJ5.out, by have := next_succ_ob hgood hjl; push_cast; exact this⟩, hy5, hv5⟩
    | false =>
      have hJ5 : Jx W5 := by
        rcases hor with ⟨h, _⟩ | ⟨_, h⟩
        · cases h
        · exact h
      have HJ5 := hid hJ5
      clear hor hJ5
      gi_wp2
      exact ⟨T5.out, rfl, HJ5.out⟩
  case done =>
    rintro D s W3 hD hfin hI3 hK
    obtain ⟨hst, hps, ⟨j, hj, hnx⟩, hy, hv⟩ := hI3
    have hjl : ¬ j < L.length := fun h => by
      have := next_start_yes hgood (a := (s.2 : Int)) (by rw [hnx]; exact h)
      unfold OnesFin at hfin
      rw [hst] at hfin
      exact hfin this.2
    have hje : j = L.length := by have := nextO_le L (s.2 : Int); omega
    have HE := hid (And.intro hje hj)
    have HK := hid hK
    have HD := hid hD
    clear hst hps hnx hy hv hfin hje hj hK hD hjl
    gi_wp2
    refine ⟨by simp, .inl ⟨_, _, rfl, run_takeDeferred HK.out, ?_⟩⟩
    refine ⟨.tuple #[], results_none rfl _ _ _, ⟨_, rfl⟩, .inl ⟨j, HE.out.1, hJ _ _ _ HE.out.2 ((touch_putObj W3 D _ (Nat.le_refl D)).mono (fun k _ h => by have := HD.out; omega))⟩⟩
  case stop =>
    rintro D c W3 hD ⟨rfl, hx⟩ hK
    have HE := hid hx
    have HK := hid hK
    have HD := hid hD
    clear hx hK hD
    gi_wp2
    refine ⟨by simp, .inl ⟨_, _, rfl, run_takeDeferred HK.out, ?_⟩⟩
    refine ⟨.tuple #[], results_none rfl _ _ _, ⟨_, rfl⟩, .inr (hJx _ _ HE.out ((touch_putObj W3 D _ (Nat.le_refl D)).mono (fun k _ h => by have := HD.out; omega)))⟩
end Go.Proofs.YtbmidhlilafgeaaGreatDoor
end

section
namespace Go.Proofs.YtbmidhlilafgeaaGreatDoor
open Go.RowKit Go.Shelf Word
attribute [local go_sem] Oper.semAt_some

theorem all_call {w : World} (q : Option Addr) :
    Calls Tryz.prog 86 #[.pointer q] w fun e w' => e = .returned (.func (.func 150) #[] #[.pointer (some ⟨w.heap.size, 0, none⟩)]) ∧ w' = w.alloc (.cells #[.pointer q] 124) := by
  have hmf : ∀ (fn : Fn) (first cap : Array Value) (w : World), (Instr.makeFunc fn first cap).run Tryz.prog w = .ok (.func fn first cap) w := fun _ _ _ _ => rfl
  go_enter Tryz.func86, Tryz.ntmps86
  go_wp2
  go_ret
  exact ⟨rfl, rfl⟩
set_option maxRecDepth 100000 in
set_option maxHeartbeats 1600000 in
theorem all_seq_nil (n : Nat) (box : Nat) (w : World) :
    SeqT Fence.wide n Tryz.prog 150 #[.pointer (some ⟨box, 0, none⟩)] encO (fun (_ : Unit) W => W.cell? ⟨box, 0, none⟩ = some (.pointer none)) (fun _ _ => False) (fun _ _ _ => False) (fun _ => True) () w := by
  intro l J Jx W hg hJ hJx hI hY h0
  refine callsIn_wide.2 ((callsIn_wide (n := 5)).1 ?_)
  refine callsIn_of_wp_marks Tryz.func150 rfl trivial ?_ rfl
  have c0 := hI _ _ h0
  have hJ0 : J () (W.alloc (.cells #[.func (.yield l) #[] #[]] 56)) := hJ _ _ _ h0 (((Gr.refl W).alloc _).touch _)
  have HJ := hid hJ0
  have hb := lt_cell c0
  clear hI hY hJ0 h0
  simp only [Tryz.ntmps150, List.size_toArray, List.length_cons, List.length_nil, Nat.reduceAdd, Nat.reduceSub, Array.replicate_succ, Array.replicate_zero, List.push_toArray, List.append_toArray, List.nil_append, List.cons_append]
  gi_wp2_with (refine ⟨trivial, ?_⟩; gi_at_call 151; refine (callsIn_wide.2 (ext_none_nil _)).mono ?_; rintro e w1 ⟨rfl, rfl⟩)
  exact ⟨.tuple #[], results_none rfl _ _ _, ⟨_, rfl⟩, .inl ⟨(), trivial, HJ.out⟩⟩

/-- Between two rounds of Word. -/
structure WordI (W0 : World) (bk r1 r2 : Nat) (L : List Ob) (k : Nat) (j : Nat) (A : World) : Prop where
  t : Touch (fun i => i = bk ∨ i = r1 ∨ i = r2 ∨ W0.heap.size ≤ i) W0 A
  jl : j ≤ L.length
  kl : sizes (L.take j) ≤ k
  c : A.cell? ⟨bk, 0, none⟩ = some (.int .i64 ((k - sizes (L.take j) : Nat) : Int))
  f0 : A.frozen? ⟨bk, 0, none⟩ = false
  f1 : A.frozen? ⟨r1, 0, none⟩ = false
  f2 : A.frozen? ⟨r2, 0, none⟩ = false
  x1 : (A.cell? ⟨r1, 0, none⟩).isSome = true
  x2 : (A.cell? ⟨r2, 0, none⟩).isSome = true
theorem TabAt.touch' {S : Nat → Prop} {w W : World} (ht : TabAt w) (h : Touch S w W) (hS : ¬ S 0) : TabAt W := h.tab ht.lt hS ht
theorem box3 {w : World} (u v x : Value) (T1 T2 T3 : TypeId) : ∃ W2, W2 = ((w.alloc (.cells #[u] T1)).alloc (.cells #[v] T2)).alloc (.cells #[x] T3) ∧ Gr w W2 ∧ W2.heap.size = w.heap.size + 3 ∧
    Boxed W2 w.heap.size T1 u ∧ Boxed W2 (w.heap.size + 1) T2 v ∧ Boxed W2 (w.heap.size + 1 + 1) T3 x := by
  refine ⟨_, rfl, (((Gr.refl w).alloc _).alloc _).alloc _, by simp, ((Boxed.new w _ _).alloc _).alloc _, ?_, ?_⟩
  · have := Boxed.new (w.alloc (.cells #[u] T1)) T2 v
    rw [World.size_alloc] at this
    exact this.alloc _
  · have := Boxed.new ((w.alloc (.cells #[u] T1)).alloc (.cells #[v] T2)) T3 x
    rw [World.size_alloc, World.size_alloc] at this
    exact this
end Go.Proofs.YtbmidhlilafgeaaGreatDoor
end

section
namespace Go.Proofs.YtbmidhlilafgeaaGreatDoor
open Go.RowKit Go.Shelf Word
attribute [local go_sem] Oper.semAt_some

theorem ext_live_nil (f t : Int) (w : World) : Calls Tryz.prog 145 #[.pointer none, .int .i64 f, .int .i64 t] w fun e w' => e = .returned (.int .i64 0) ∧ w = w' := by
  go_enter Tryz.func145, Tryz.ntmps145
  go_wp2_with (go_at_call 151; refine (ext_none_nil _).mono ?_; rintro e w' ⟨rfl, rfl⟩)
  go_ret
  exact ⟨rfl, rfl⟩
theorem live13_a : addE [] 10 3 3 = 0 ∧ addL [] 10 3 3 = [(3, 3)] := by decide +kernel
theorem live13_b : addE [(3, 3)] 10 6 1 = 0 ∧ addL [(3, 3)] 10 6 1 = [(3, 3), (6, 1)] := by decide +kernel
theorem live13_c : addE [(3, 3), (6, 1)] 10 5 1 = 7 ∧ addL [(3, 3), (6, 1)] 10 5 1 = [(3, 3), (6, 1)] := by decide +kernel
theorem live13_d : findO [(3, 3), (6, 1)] 5 = 0 ∧ wordV [(3, 3), (6, 1)] 3 = 6 ∧ wordY [(3, 3), (6, 1)] 3 = true ∧ overs [(3, 3), (6, 1)] 4 7 = 3 := by decide +kernel
end Go.Proofs.YtbmidhlilafgeaaGreatDoor
end
