/- Part 3 of what PackingNobody leans on: my own lemmas, merged by shake.py. -/
import Derived.Test.YtbmidhlilafgeaaGreatDoorPackingNobodyB
import Derived.Shelf.Abstract
import Derived.Shelf.RegionOpen
import Derived.OwnWalkIn
import Derived.TacticsInMore
import Derived.LoopNIn
import Derived.LoopIn
import Derived.Stop.RegionWithIn
import Derived.Sort.CutIn
section
section
namespace Go.Proofs.YtbmidhlilafgeaaGreatDoor
open Go.RowKit Word

/-- A map m lies in w: of n words, with the objects L. -/
structure Ext (w : World) (m p1 b1 p2 b2 n : Nat) (L : List Ob) : Prop where
  good : Good n L
  v1 : Vec w p1 b1 (startsL n L)
  v2 : Vec w p2 b2 (endsL n L)
  hm : m < w.heap.size
  c0 : w.cell? ⟨m, 0, none⟩ = some (.pointer (some ⟨p1, 0, none⟩))
  c1 : w.cell? ⟨m, 1, none⟩ = some (.pointer (some ⟨p2, 0, none⟩))
  c2 : w.cell? ⟨m, 2, none⟩ = some (.int .i64 L.length)
  fr : w.frozen? ⟨m, 2, none⟩ = false
  am : m ≠ p1 ∧ m ≠ b1 ∧ m ≠ p2 ∧ m ≠ b2
  ab : p1 ≠ b2 ∧ p2 ≠ b1 ∧ b1 ≠ b2
theorem Ext.touch {S : Nat → Prop} {w w' : World} {m p1 b1 p2 b2 n : Nat} {L : List Ob} (h : Ext w m p1 b1 p2 b2 n L) (t : Touch S w w') (h1 : ¬ S m) (h2 : ¬ S p1) (h3 : ¬ S b1) (h4 : ¬ S p2) (h5 : ¬ S b2) : Ext w' m p1 b1 p2 b2 n L :=
  ⟨h.good, h.v1.touch t h2 h3, h.v2.touch t h4 h5, Nat.lt_of_lt_of_le h.hm t.size, (t.cell h.hm h1 0).trans h.c0, (t.cell h.hm h1 1).trans h.c1, (t.cell h.hm h1 2).trans h.c2, (t.frozen h.hm h1 2).trans h.fr, h.am, h.ab⟩
theorem Ext.gr {w w' : World} {m p1 b1 p2 b2 n : Nat} {L : List Ob} (h : Ext w m p1 b1 p2 b2 n L) (t : Gr w w') : Ext w' m p1 b1 p2 b2 n L :=
  h.touch (t.touch (fun _ => False)) (fun h => h) (fun h => h) (fun h => h) (fun h => h) (fun h => h)
theorem Ext.nb {w : World} {m p1 b1 p2 b2 n : Nat} {L : List Ob} (h : Ext w m p1 b1 p2 b2 n L) : 1 ≤ n ∧ n ≤ 1048576 := by
  have h1 := h.v1.n1
  have h2 := h.v1.n2
  rw [startsL_len] at h1 h2
  exact ⟨h1, h2⟩
/-- What is told of the object number j: none behind the last. -/
def obS (L : List Ob) (j : Nat) : Int := ((L[j]?.getD (0, 0)).1 : Nat)
def obZ (L : List Ob) (j : Nat) : Int := ((L[j]?.getD (0, 0)).2 : Nat)
theorem obS_in {L : List Ob} {j : Nat} (h : j < L.length) : obS L j = (L[j].1 : Nat) ∧ obZ L j = (L[j].2 : Nat) := by unfold obS obZ; rw [List.getElem?_eq_getElem h]; exact ⟨rfl, rfl⟩
theorem obS_out {L : List Ob} {j : Nat} (h : ¬ j < L.length) : obS L j = 0 ∧ obZ L j = 0 := by unfold obS obZ; rw [List.getElem?_eq_none (by omega)]; exact ⟨rfl, rfl⟩
def tellO (L : List Ob) (j : Nat) : Value := .tuple #[.int .i64 (obS L j), .int .i64 (obZ L j), .bool (decide (j < L.length))]
theorem tellO_in {L : List Ob} {j : Nat} (h : j < L.length) : tellO L j = .tuple #[.int .i64 (L[j].1 : Nat), .int .i64 (L[j].2 : Nat), .bool true] := by unfold tellO; rw [(obS_in h).1, (obS_in h).2, decide_eq_true h]
theorem tellO_out {L : List Ob} {j : Nat} (h : ¬ j < L.length) : tellO L j = .tuple #[.int .i64 0, .int .i64 0, .bool false] := by unfold tellO; rw [(obS_out h).1, (obS_out h).2, decide_eq_false h]

section
variable {w : World} {m p1 b1 p2 b2 n : Nat} {L : List Ob}
theorem ext_none (hE : Ext w m p1 b1 p2 b2 n L) : Calls Tryz.prog 151 #[.pointer (some ⟨m, 0, none⟩)] w fun e w' => e = .returned (.bool false) ∧ w = w' := by
  have c0 := hE.c0
  have HE := hid hE
  clear hE
  go_enter Tryz.func151, Tryz.ntmps151
  go_wp2
  go_ret
  exact ⟨rfl, rfl⟩
theorem ext_words (hE : Ext w m p1 b1 p2 b2 n L) : Calls Tryz.prog 147 #[.pointer (some ⟨m, 0, none⟩)] w fun e w' => e = .returned (.int .i64 n) ∧ w = w' := by
  have c0 := hE.c0
  have HE := hid hE
  have HL := hid (startsL_len n L)
  clear hE
  go_enter Tryz.func147, Tryz.ntmps147
  go_wp2_with (first
    | (go_at_call 151; refine (ext_none HE.out).mono ?_; rintro e w' ⟨rfl, rfl⟩)
    | (go_at_call 194; refine (len_vec HE.out.v1).mono ?_; rintro e w' ⟨rfl, rfl⟩; rw [HL.out]))
  go_ret
  exact ⟨rfl, rfl⟩
set_option maxHeartbeats 400000 in
theorem ext_size (hE : Ext w m p1 b1 p2 b2 n L) (hT : TabAt w) {j : Nat} (hj : j < L.length) :
    Calls Tryz.prog 153 #[.pointer (some ⟨m, 0, none⟩), .int .i64 (L[j].1 : Nat)] w fun e w' => e = .returned (.int .i64 (L[j].2 : Nat)) ∧ w = w' := by
  have c1 := hE.c1
  have hm := List.getElem_mem hj
  obtain ⟨hn1, hn2⟩ := next_end hE.good hm
  have hs := hE.good.sz _ hm
  have hb := hE.nb
  obtain ⟨s, hs'⟩ : ∃ s, s = L[j].1 := ⟨_, rfl⟩
  obtain ⟨z, hz'⟩ : ∃ z, z = L[j].2 := ⟨_, rfl⟩
  rw [← hs', ← hz'] at hn1 hn2 hs ⊢
  rw [← hn1] at hn2
  have HE := hid hE
  have HT := hid hT
  have HV := hid (And.intro (valN_yes hn2) hn1)
  have hsb : s + z ≤ 1048576 := by omega
  have hz1 : 1 ≤ z := hs.1
  clear hE hT hn1 hn2 hs' hz' hm hj
  go_enter Tryz.func153, Tryz.ntmps153
  go_wp2_with (go_at_call 191; refine (next_vec HE.out.v2 HT.out _).mono ?_; rintro e w' ⟨rfl, rfl⟩; rw [HV.out.1, HV.out.2])
  go_ret
  exact ⟨ret_int (by omega), rfl⟩
set_option maxHeartbeats 800000 in
theorem ext_next (hE : Ext w m p1 b1 p2 b2 n L) (hT : TabAt w) (a : Int) :
    Calls Tryz.prog 144 #[.pointer (some ⟨m, 0, none⟩), .int .i64 a] w fun e w' => e = .returned (tellO L (nextO L a)) ∧ w = w' := by
  have c0 := hE.c0
  have HE := hid hE
  have HT := hid hT
  by_cases hj : nextO L a < L.length
  · obtain ⟨h1, h2⟩ := next_start_yes hE.good hj
    rw [tellO_in hj]
    have HZ := hid (ext_size hE hT hj)
    have HV := hid (And.intro (valN_yes h2) (And.intro h1 (decide_eq_true h2)))
    clear hE hT h1 h2
    go_enter Tryz.func144, Tryz.ntmps144
    go_wp2_with (first
      | (go_at_call 151; refine (ext_none HE.out).mono ?_; rintro e w' ⟨rfl, rfl⟩)
      | (go_at_call 191; refine (next_vec HE.out.v1 HT.out _).mono ?_; rintro e w' ⟨rfl, rfl⟩; rw [HV.out.1, HV.out.2.2, HV.out.2.1])
      | (go_at_call 153; refine HZ.out.mono ?_; rintro e w' ⟨rfl, rfl⟩))
    go_ret3
    exact ⟨rfl, rfl⟩
  · have h1 := next_start_no hE.good hj
    rw [tellO_out hj]
    have HV : Hid (valN (startsL n L).length (nextL (startsL n L) a) = 0 ∧ decide (nextL (startsL n L) a < (startsL n L).length) = false) := ⟨by rw [h1]; exact ⟨valN_no (by omega), decide_eq_false (by omega)⟩⟩
    clear hE hT h1
    go_enter Tryz.func144, Tryz.ntmps144
    go_wp2_with (first
      | (go_at_call 151; refine (ext_none HE.out).mono ?_; rintro e w' ⟨rfl, rfl⟩)
      | (go_at_call 191; refine (next_vec HE.out.v1 HT.out _).mono ?_; rintro e w' ⟨rfl, rfl⟩; rw [HV.out.1, HV.out.2]))
    go_ret3
    exact ⟨rfl, rfl⟩
set_option maxHeartbeats 800000 in
theorem ext_find (hE : Ext w m p1 b1 p2 b2 n L) (hT : TabAt w) (a : Int) :
    Calls Tryz.prog 111 #[.pointer (some ⟨m, 0, none⟩), .int .i64 a] w fun e w' => e = .returned (tellO L (findO L a)) ∧ w = w' := by
  have c0 := hE.c0
  have hb := hE.nb
  have HE := hid hE
  have HT := hid hT
  by_cases h0 : a < 0
  · have d0 : decide (a < 0) = true := by simp [h0]
    rw [tellO_out (by rw [findO_none (fun o _ => by omega)]; omega)]
    clear hE hT
    go_enter Tryz.func111, Tryz.ntmps111
    go_wp2_with (go_at_call 151; refine (ext_none HE.out).mono ?_; rintro e w' ⟨rfl, rfl⟩)
    go_ret3
    exact ⟨rfl, rfl⟩
  · have d0 : decide (a < 0) = false := by simp; omega
    by_cases h1 : (n : Int) ≤ a
    · have d1 : decide ((n : Int) ≤ a) = true := by simp [h1]
      rw [tellO_out (by rw [findO_none (fun o ho => by have := hE.good.sz o ho; omega)]; omega)]
      clear hE hT
      go_enter Tryz.func111, Tryz.ntmps111
      go_wp2_with (first
        | (go_at_call 151; refine (ext_none HE.out).mono ?_; rintro e w' ⟨rfl, rfl⟩)
        | (go_at_call 147; refine (ext_words HE.out).mono ?_; rintro e w' ⟨rfl, rfl⟩))
      go_ret3
      exact ⟨rfl, rfl⟩
    · have d1 : decide ((n : Int) ≤ a) = false := by simp; omega
      rcases last_of hE.good a with ⟨hl, hall⟩ | ⟨j, hj, hl, hle, hall⟩
      · rw [tellO_out (by rw [findO_none (fun o ho => by have := hall o ho; omega)]; omega)]
        have HV : Hid (valI (lastL (startsL n L) (a + 1)) = 0 ∧ decide (0 ≤ lastL (startsL n L) (a + 1)) = false) := ⟨by rw [hl]; exact ⟨rfl, rfl⟩⟩
        clear hE hT hl hall
        go_enter Tryz.func111, Tryz.ntmps111
        go_wp2_with (first
          | (go_at_call 151; refine (ext_none HE.out).mono ?_; rintro e w' ⟨rfl, rfl⟩)
          | (go_at_call 147; refine (ext_words HE.out).mono ?_; rintro e w' ⟨rfl, rfl⟩)
          | (go_at_call 167; refine (last_vec HE.out.v1 _).mono ?_; rintro e w' ⟨rfl, rfl⟩; rw [HV.out.1, HV.out.2]))
        go_ret3
        exact ⟨rfl, rfl⟩
      · have HZ := hid (ext_size hE hT hj)
        have hs := hE.good.sz _ (List.getElem_mem hj)
        have HV : Hid (valI (lastL (startsL n L) (a + 1)) = (L[j].1 : Nat) ∧ decide (0 ≤ lastL (startsL n L) (a + 1)) = true) := ⟨by rw [hl]; exact ⟨if_pos (by omega), decide_eq_true (by omega)⟩⟩
        have hgood := hE.good
        by_cases hin : a < L[j].1 + L[j].2
        · have hf := findO_eq hgood hj hle hin
          rw [hf, tellO_in hj]
          generalize L[j].1 = s at *
          generalize L[j].2 = z at *
          have d2 : decide (((s : Int) + (z : Int)) ≤ a) = false := by simp; omega
          clear hE hT hl hall hgood hf
          go_enter Tryz.func111, Tryz.ntmps111
          go_wp2_with (first
            | (go_at_call 151; refine (ext_none HE.out).mono ?_; rintro e w' ⟨rfl, rfl⟩)
            | (go_at_call 147; refine (ext_words HE.out).mono ?_; rintro e w' ⟨rfl, rfl⟩)
            | (go_at_call 167; refine (last_vec HE.out.v1 _).mono ?_; rintro e w' ⟨rfl, rfl⟩; rw [HV.out.1, HV.out.2])
            | (go_at_call 153; refine HZ.out.mono ?_; rintro e w' ⟨rfl, rfl⟩))
          go_ret3
          exact ⟨rfl, rfl⟩
        · have hf : ¬ findO L a < L.length := by
            rw [findO_none (fun o ho => ?_)]; · omega
            obtain ⟨i, hi, rfl⟩ := List.getElem_of_mem ho
            rcases Nat.lt_trichotomy i j with h3 | rfl | h3
            · have := hgood.at hi hj h3; omega
            · omega
            · have := hall i hi h3; omega
          rw [tellO_out hf]
          generalize L[j].1 = s at *
          generalize L[j].2 = z at *
          have d2 : decide (((s : Int) + (z : Int)) ≤ a) = true := by simp; omega
          clear hE hT hl hall hgood hf
          go_enter Tryz.func111, Tryz.ntmps111
          go_wp2_with (first
            | (go_at_call 151; refine (ext_none HE.out).mono ?_; rintro e w' ⟨rfl, rfl⟩)
            | (go_at_call 147; refine (ext_words HE.out).mono ?_; rintro e w' ⟨rfl, rfl⟩)
            | (go_at_call 167; refine (last_vec HE.out.v1 _).mono ?_; rintro e w' ⟨rfl, rfl⟩; rw [HV.out.1, HV.out.2])
            | (go_at_call 153; refine HZ.out.mono ?_; rintro e w' ⟨rfl, rfl⟩))
          go_ret3
          exact ⟨rfl, rfl⟩
end
end Go.Proofs.YtbmidhlilafgeaaGreatDoor
end

section
namespace Go.Proofs.YtbmidhlilafgeaaGreatDoor
open Go.RowKit Word

section
variable {w : World} {m p1 b1 p2 b2 n : Nat} {L : List Ob}
def okV : Value → Bool
  | .bool b => b
  | _ => false
theorem obS_bd {n : Nat} {L : List Ob} (h : Good n L) (hn : n ≤ 1048576) (j : Nat) : 0 ≤ obS L j ∧ 0 ≤ obZ L j ∧ obS L j + obZ L j ≤ 1048576 := by
  by_cases hj : j < L.length
  · rw [(obS_in hj).1, (obS_in hj).2]
    have := h.sz _ (List.getElem_mem hj); omega
  · rw [(obS_out hj).1, (obS_out hj).2]; omega
/-- The tail of Live: the loop over the objects, from number nextO on. -/
theorem overs_bd {n : Nat} {L : List Ob} (h : Good n L) (hn : n ≤ 1048576) (j : Nat) (f t : Int) : 0 ≤ overs (L.take j) f t ∧ overs (L.take j) f t ≤ 1048576 := by
  have hg : Good n (L.take j) := ⟨h.pw.sublist (List.take_sublist ..), fun o ho => h.sz o (List.mem_of_mem_take ho)⟩
  have h1 := liveN_eq hg f t
  have h2 : liveN (L.take j) n f t ≤ n := cnt_le _ _
  omega
set_option maxRecDepth 100000 in
set_option maxHeartbeats 3200000 in
theorem ext_live (hE : Ext w m p1 b1 p2 b2 n L) (hT : TabAt w) (f t : Int) (hf : f ≤ 9223372036854775807) (ht : -9223372036854775808 ≤ t) :
    Calls Tryz.prog 145 #[.pointer (some ⟨m, 0, none⟩), .int .i64 f, .int .i64 t] w fun e w' => e = .returned (.int .i64 (overs L f t)) ∧ w = w' := by
  have hb := hE.nb
  have hg := hE.good
  have HE := hid hE
  have HT := hid hT
  rw [← overs_clip hg f t]
  obtain ⟨lo, hlo⟩ : ∃ lo, lo = max f 0 := ⟨_, rfl⟩
  obtain ⟨hi, hhi⟩ : ∃ hi, hi = min t (n : Int) := ⟨_, rfl⟩
  have hlo0 : 0 ≤ lo ∧ lo ≤ 9223372036854775807 := by omega
  have hhib : hi ≤ 1048576 ∧ -9223372036854775808 ≤ hi := by omega
  have HLO := hid hlo
  have HHI := hid hhi
  have hmax : ∀ w', (Builtin.max_ #[3, 3] 3 #[.int .i64 f, .int .i64 0]).run Tryz.prog w' = .ok (.int .i64 lo) w' := fun w' => by rw [run_maxB2, hlo]
  have hmin : ∀ w', (Builtin.min_ #[3, 3] 3 #[.int .i64 t, .int .i64 n]).run Tryz.prog w' = .ok (.int .i64 hi) w' := fun w' => by rw [run_minB2, hhi]
  rw [← hlo, ← hhi]
  have hmin2 := fun x y => run_minB2 Tryz.prog #[3, 3] 3 .i64 x y
  obtain ⟨jf, hjf⟩ : ∃ j, j = findO L lo := ⟨_, rfl⟩
  obtain ⟨jn, hjn⟩ : ∃ j, j = nextO L lo := ⟨_, rfl⟩
  have hjnl : jn ≤ L.length := by rw [hjn]; exact nextO_le _ _
  have hhead := overs_head hg (f := lo) (t := hi)
  rw [← hjf, ← hjn] at hhead
  have hss : ((L[jf]?.getD (0, 0)).1 : Int) = obS L jf := rfl
  have hzz : ((L[jf]?.getD (0, 0)).2 : Int) = obZ L jf := rfl
  rw [hss, hzz] at hhead
  have hbf := obS_bd hg hb.2 jf
  obtain ⟨s, hs⟩ : ∃ s, s = obS L jf := ⟨_, rfl⟩
  obtain ⟨z, hz⟩ : ∃ z, z = obZ L jf := ⟨_, rfl⟩
  obtain ⟨bf, hbff⟩ : ∃ b, b = decide (jf < L.length) := ⟨_, rfl⟩
  rw [← hs, ← hz] at hhead hbf
  have HF : Hid (tellO L (findO L lo) = .tuple #[.int .i64 s, .int .i64 z, .bool bf]) := ⟨by rw [hs, hz, hbff, hjf]; rfl⟩
  obtain ⟨s1, hs1⟩ : ∃ s, s = obS L jn := ⟨_, rfl⟩
  obtain ⟨z1, hz1⟩ : ∃ z, z = obZ L jn := ⟨_, rfl⟩
  obtain ⟨bn, hbn⟩ : ∃ b, b = decide (jn < L.length) := ⟨_, rfl⟩
  have HN : Hid (tellO L (nextO L lo) = .tuple #[.int .i64 s1, .int .i64 z1, .bool bn]) := ⟨by rw [hs1, hz1, hbn, hjn]; rfl⟩
  have HN1 := hid (And.intro hs1 (And.intro hz1 hbn))
  obtain ⟨v0, hv0⟩ : ∃ v, v = overs (L.take jn) lo hi := ⟨_, rfl⟩
  rw [← hv0] at hhead
  have HV0 := hid hv0
  have HJN := hid hjn
  have hpart : (bf = true ∧ s < lo ∧ lo < hi ∧ v0 = min (s + z) hi - lo) ∨ (bf = false ∧ v0 = 0) ∨ (bf = true ∧ lo ≤ s ∧ v0 = 0) ∨ (bf = true ∧ s < lo ∧ hi ≤ lo ∧ v0 = 0) := by
    by_cases h1 : jf < L.length
    · have e1 : bf = true := by rw [hbff, decide_eq_true h1]
      by_cases h2 : s < lo
      · by_cases h3 : lo < hi
        · left; rw [if_pos ⟨h1, h2, h3⟩] at hhead; exact ⟨e1, h2, h3, hhead⟩
        · right; right; right; rw [if_neg (fun h => h3 h.2.2)] at hhead; exact ⟨e1, h2, by omega, hhead⟩
      · right; right; left; rw [if_neg (fun h => h2 h.2.1)] at hhead; exact ⟨e1, by omega, hhead⟩
    · right; left; rw [if_neg (fun h => h1 h.1)] at hhead; exact ⟨by rw [hbff, decide_eq_false h1], hhead⟩
  have HG := hid hg
  clear hE hT hlo hhi hjf hjn hhead hss hzz hs hz hbff hs1 hz1 hbn hv0 hg
  rcases hpart with ⟨rfl, h2, h3, rfl⟩ | ⟨rfl, rfl⟩ | ⟨rfl, h2, rfl⟩ | ⟨rfl, h2, h3, rfl⟩
  all_goals
    have hmm : min (s + z) hi ≤ 1048576 := by omega
    go_enter Tryz.func145, Tryz.ntmps145
    go_wp2_with (first
      | (go_at_call 151; refine (ext_none HE.out).mono ?_; rintro e w' ⟨rfl, rfl⟩)
      | (go_at_call 147; refine (ext_words HE.out).mono ?_; rintro e w' ⟨rfl, rfl⟩)
      | (go_at_call 111; refine (ext_find HE.out HT.out _).mono ?_; rintro e w' ⟨rfl, rfl⟩; rw [HF.out])
      | (go_at_call 144; refine (ext_next HE.out HT.out _).mono ?_; rintro e w' ⟨rfl, rfl⟩; rw [HN.out]))
    clear hmax hmin
  all_goals
    go_loop [7, 11, 12, 13] (fun s7 s11 s12 s13 => ∃ j, jn ≤ j ∧ j ≤ L.length ∧ s7 = .int .i64 (overs (L.take j) lo hi) ∧ s11 = .int .i64 (obS L j) ∧ s12 = .int .i64 (obZ L j) ∧ s13 = .bool (decide (j < L.length))) (fun _ s11 _ s13 => if okV s13 then 1048577 - (intOf s11).toNat else 0)
    case atStart => exact ⟨jn, Nat.le_refl _, hjnl, by rw [← HV0.out], by rw [HN1.out.1], by rw [HN1.out.2.1], by rw [HN1.out.2.2]⟩
    case round =>
      obtain ⟨j, hj1, hj2, rfl, rfl, rfl, rfl⟩ := hrel
      have hbo := overs_bd HG.out hb.2 j lo hi
      have hbj := obS_bd HG.out hb.2 j
      by_cases hj : j < L.length
      · rw [decide_eq_true hj]
        obtain ⟨o1, o2⟩ := obS_in hj
        have hsz := HG.out.sz _ (List.getElem_mem hj)
        obtain ⟨sj, hsj⟩ : ∃ s, s = obS L j := ⟨_, rfl⟩
        obtain ⟨zj, hzj⟩ : ∃ z, z = obZ L j := ⟨_, rfl⟩
        obtain ⟨vj, hvj⟩ : ∃ v, v = overs (L.take j) lo hi := ⟨_, rfl⟩
        have hge : lo ≤ sj := by
          rw [hsj, o1]
          have hjn2 : nextO L lo < L.length := by have := HJN.out; omega
          have hy := nextO_yes hjn2
          rcases Nat.lt_or_ge (nextO L lo) j with h | h
          · have := HG.out.at hjn2 hj h; omega
          · have e : L[nextO L lo]'hjn2 = L[j] := by congr 1; have := HJN.out; omega
            rw [e] at hy; exact hy
        have hz1 : 1 ≤ zj := by rw [hzj, o2]; omega
        have htk := overs_take hj lo hi
        have hov : over L[j] lo hi = max 0 (min (sj + zj) hi - sj) := by
          unfold over
          rw [hsj, hzj, o1, o2] at *
          omega
        rw [hov, ← hvj] at htk
        have hbo2 := overs_bd HG.out hb.2 (j + 1) lo hi
        have hnx : nextO L (sj + zj) = j + 1 := by rw [hsj, hzj, o1, o2]; exact next_after_ob HG.out hj
        obtain ⟨s2, hs2⟩ : ∃ s, s = obS L (j + 1) := ⟨_, rfl⟩
        obtain ⟨z2, hz2⟩ : ∃ z, z = obZ L (j + 1) := ⟨_, rfl⟩
        obtain ⟨b2', hb2⟩ : ∃ b, b = decide (j + 1 < L.length) := ⟨_, rfl⟩
        have HX : Hid (tellO L (nextO L (sj + zj)) = .tuple #[.int .i64 s2, .int .i64 z2, .bool b2']) := ⟨by rw [hnx, hs2, hz2, hb2]; rfl⟩
        have HX2 := hid (And.intro hs2 (And.intro hz2 hb2))
        have hlt2 : b2' = true → sj + zj ≤ s2 := fun h => by
          rw [hb2] at h
          have h := of_decide_eq_true h
          have := HG.out.at hj h (Nat.lt_succ_self j)
          rw [hsj, hzj, hs2, o1, o2, (obS_in h).1]; omega
        have HLT := hid hlt2
        rw [← hsj, ← hzj] at hbj ⊢
        rw [← hvj] at hbo ⊢
        have HVJ := hid hvj
        have HSJ := hid hsj
        by_cases hhi : sj < hi
        · have hmj : min (sj + zj) hi ≤ 1048576 ∧ sj ≤ min (sj + zj) hi := by omega
          have htk' : overs (L.take (j + 1)) lo hi = vj + (min (sj + zj) hi - sj) := by rw [htk]; omega
          have hsum : 0 ≤ vj + (min (sj + zj) hi - sj) ∧ vj + (min (sj + zj) hi - sj) ≤ 1048576 := by rw [← htk']; exact hbo2
          have HTK := hid htk'
          clear hsj hzj hvj hov htk htk' hbo2 hnx hs2 hz2 hb2 hlt2 o1 o2 hsz
          go_wp2_with (go_at_call 144; refine (ext_next HE.out HT.out _).mono ?_; rintro e w' ⟨rfl, rfl⟩; rw [HX.out])
          go_round
          case rel => exact ⟨j + 1, by omega, by omega, by rw [HTK.out], by rw [HX2.out.1], by rw [HX2.out.2.1], by rw [HX2.out.2.2]⟩
          case measure =>
            have e0 : okV (Value.bool true) = true := rfl
            rw [if_pos e0]
            by_cases h : b2' = true
            · have := HLT.out h
              rw [if_pos (show okV (Value.bool b2') = true from h)]
              simp only [intOf]; omega
            · rw [if_neg (show ¬ okV (Value.bool b2') = true from h)]
              simp only [intOf]; omega
        · have htl := overs_tail HG.out (j := j) (f := lo) (t := hi) (fun hl => by
            have := HSJ.out; rw [(obS_in hl).1] at this; omega)
          have hE : Hid (overs L lo hi = vj) := ⟨by rw [overs_split L j, htl, ← HVJ.out]; omega⟩
          clear hsj hzj hvj hov htk hbo2 hnx hs2 hz2 hb2 hlt2 o1 o2 hsz htl
          go_wp2
          go_ret
          exact ⟨ret_int hE.out.symm, rfl⟩
      · rw [decide_eq_false hj]
        have htl := overs_tail HG.out (j := j) (f := lo) (t := hi) (fun hl => absurd hl hj)
        have hE : Hid (overs L lo hi = overs (L.take j) lo hi) := ⟨by rw [overs_split L j, htl]; omega⟩
        obtain ⟨vj, hvj⟩ : ∃ v, v = overs (L.take j) lo hi := ⟨_, rfl⟩
        rw [← hvj] at hbo ⊢ hE
        clear htl hvj
        go_wp2
        go_ret
        exact ⟨ret_int hE.out.symm, rfl⟩
end
end Go.Proofs.YtbmidhlilafgeaaGreatDoor
end

section
namespace Go.Proofs.YtbmidhlilafgeaaGreatDoor
open Go.RowKit Word

/-- The blocks that a map's own methods may write. -/
def mine (m b1 b2 : Nat) (k : Nat) : Prop := k = m ∨ k = b1 ∨ k = b2
section
variable {w : World} {m p1 b1 p2 b2 n : Nat} {L : List Ob}
theorem Ext.changed (hE : Ext w m p1 b1 p2 b2 n L) {w1 w2 : World} {L' : List Ob} (hg : Good n L') (t1 : Touch (fun k => k = b1) w w1) (v1 : Vec w1 p1 b1 (startsL n L')) (t2 : Touch (fun k => k = b2) w1 w2) (v2 : Vec w2 p2 b2 (endsL n L')) {z : Int} (hz : z = L'.length) :
    Ext (w2.setCell ⟨m, 2, none⟩ (.int .i64 z)) m p1 b1 p2 b2 n L' ∧ Touch (mine m b1 b2) w (w2.setCell ⟨m, 2, none⟩ (.int .i64 z)) := by
  have t3 : Touch (fun k => k = m) w2 (w2.setCell ⟨m, 2, none⟩ (.int .i64 z)) := (Touch.refl (fun k => k = m) w2).setCell (a := ⟨m, 2, none⟩) (fun _ => rfl) _
  obtain ⟨a1, a2, a3, a4⟩ := hE.am
  obtain ⟨a5, a6, a7⟩ := hE.ab
  have hm1 : m < w1.heap.size := Nat.lt_of_lt_of_le hE.hm t1.size
  have hm2 : m < w2.heap.size := Nat.lt_of_lt_of_le hm1 t2.size
  have e : ∀ o, w2.cell? ⟨m, o, none⟩ = w.cell? ⟨m, o, none⟩ := fun o => (t2.cell hm1 (by omega) o).trans (t1.cell hE.hm (by omega) o)
  have o : ∀ o, o ≠ 2 → (w2.setCell ⟨m, 2, none⟩ (.int .i64 z)).cell? ⟨m, o, none⟩ = w.cell? ⟨m, o, none⟩ := fun o ho => by
    rw [World.cell?_setCell_other (h := by intro e2; injection e2 with _ e3; omega), e o]
  refine ⟨⟨hg, (v1.touch t2 (by omega) (by omega)).touch t3 (by omega) (by omega), v2.touch t3 (by omega) (by omega), by simpa [World.setCell] using hm2, (o 0 (by omega)).trans hE.c0, (o 1 (by omega)).trans hE.c1, ?_, ?_, hE.am, hE.ab⟩, ?_⟩
  · rw [hz]; exact World.cell?_setCell_same (h := (e 2).trans hE.c2) ..
  · rw [World.frozen?_setCell, t2.frozen hm1 (by omega), t1.frozen hE.hm (by omega)]; exact hE.fr
  · exact ((t1.mono (fun k _ h => .inr (.inl h))).trans (t2.mono (fun k _ h => .inr (.inr h)))).trans (t3.mono (fun k _ h => .inl h))
/-- Behind Add. -/
def AddEnd (w : World) (m p1 b1 p2 b2 n : Nat) (L : List Ob) (s z : Int) (e : Ending) (w' : World) : Prop :=
  e = .returned (.int .i64 (addE L n s z)) ∧ Touch (mine m b1 b2) w w' ∧ Ext w' m p1 b1 p2 b2 n (addL L n s z)
theorem addEnd_no (hE : Ext w m p1 b1 p2 b2 n L) {s z c : Int} (h : addE L n s z = c) (hc : c ≠ 0) : AddEnd w m p1 b1 p2 b2 n L s z (.returned (.int .i64 c)) w := by
  refine ⟨by rw [h], Touch.refl _ _, ?_⟩
  unfold addL
  rw [if_neg (by rw [h]; exact hc)]
  exact hE
set_option maxRecDepth 100000 in
set_option maxHeartbeats 3200000 in
theorem ext_add (hE : Ext w m p1 b1 p2 b2 n L) (hT : TabAt w) (s z : Int) :
    Calls Tryz.prog 148 #[.pointer (some ⟨m, 0, none⟩), .int .i64 s, .int .i64 z] w (AddEnd w m p1 b1 p2 b2 n L s z) := by
  have hb := hE.nb
  have HE := hid hE
  have HT := hid hT
  by_cases h0 : z < 1
  · have d0 : decide (z < 1) = true := by simp [h0]
    have HR := hid (addEnd_no hE (s := s) (z := z) (c := 15) (by unfold addE; rw [if_pos h0]) (by decide))
    clear hE hT
    go_enter Tryz.func148, Tryz.ntmps148
    go_wp2_with (go_at_call 151; refine (ext_none HE.out).mono ?_; rintro e w' ⟨rfl, rfl⟩)
    go_ret
    exact HR.out
  · have d0 : decide (z < 1) = false := by simp; omega
    by_cases h1 : s < 0
    · have d1 : decide (s < 0) = true := by simp [h1]
      have HR := hid (addEnd_no hE (s := s) (z := z) (c := 11) (by unfold addE; rw [if_neg h0, if_pos (.inl h1)]) (by decide))
      clear hE hT
      go_enter Tryz.func148, Tryz.ntmps148
      go_wp2_with (go_at_call 151; refine (ext_none HE.out).mono ?_; rintro e w' ⟨rfl, rfl⟩)
      go_ret
      exact HR.out
    · have d1 : decide (s < 0) = false := by simp; omega
      by_cases h2 : (n : Int) ≤ s
      · have d2 : decide ((n : Int) ≤ s) = true := by simp [h2]
        have HR := hid (addEnd_no hE (s := s) (z := z) (c := 11) (by unfold addE; rw [if_neg h0, if_pos (.inr (.inl h2))]) (by decide))
        clear hE hT
        go_enter Tryz.func148, Tryz.ntmps148
        go_wp2_with (first
          | (go_at_call 151; refine (ext_none HE.out).mono ?_; rintro e w' ⟨rfl, rfl⟩)
          | (go_at_call 147; refine (ext_words HE.out).mono ?_; rintro e w' ⟨rfl, rfl⟩))
        go_ret
        exact HR.out
      · have d2 : decide ((n : Int) ≤ s) = false := by simp; omega
        obtain ⟨sn, rfl⟩ : ∃ k : Nat, s = k := ⟨s.toNat, by omega⟩
        by_cases h3 : (n : Int) - sn < z
        · have d3 : decide ((n : Int) - (sn : Int) < z) = true := by simp; omega
          have HR := hid (addEnd_no hE (s := sn) (z := z) (c := 11) (by unfold addE; rw [if_neg h0, if_pos (.inr (.inr h3))]) (by decide))
          clear hE hT
          go_enter Tryz.func148, Tryz.ntmps148
          go_wp2_with (first
            | (go_at_call 151; refine (ext_none HE.out).mono ?_; rintro e w' ⟨rfl, rfl⟩)
            | (go_at_call 147; refine (ext_words HE.out).mono ?_; rintro e w' ⟨rfl, rfl⟩))
          go_ret
          exact HR.out
        · have d3 : decide ((n : Int) - (sn : Int) < z) = false := by simp; omega
          obtain ⟨zn, rfl⟩ : ∃ k : Nat, z = k := ⟨z.toNat, by omega⟩
          have hcl := clash_find hE.good (s := (sn : Int)) (z := (zn : Int)) (by omega)
          have hbn := obS_bd hE.good hb.2 (nextO L (sn : Int))
          have hsn : ((L[nextO L (sn : Int)]?.getD (0, 0)).1 : Int) = obS L (nextO L (sn : Int)) := rfl
          rw [hsn] at hcl
          obtain ⟨s1, hs1⟩ : ∃ v, v = obS L (findO L (sn : Int)) := ⟨_, rfl⟩
          obtain ⟨z1, hz1⟩ : ∃ v, v = obZ L (findO L (sn : Int)) := ⟨_, rfl⟩
          obtain ⟨f1, hf1⟩ : ∃ v, v = decide (findO L (sn : Int) < L.length) := ⟨_, rfl⟩
          obtain ⟨s2, hs2⟩ : ∃ v, v = obS L (nextO L (sn : Int)) := ⟨_, rfl⟩
          obtain ⟨z2, hz2⟩ : ∃ v, v = obZ L (nextO L (sn : Int)) := ⟨_, rfl⟩
          obtain ⟨f2, hf2⟩ : ∃ v, v = decide (nextO L (sn : Int) < L.length) := ⟨_, rfl⟩
          have HF : Hid (tellO L (findO L (sn : Int)) = .tuple #[.int .i64 s1, .int .i64 z1, .bool f1]) := ⟨by rw [hs1, hz1, hf1]; rfl⟩
          have HN : Hid (tellO L (nextO L (sn : Int)) = .tuple #[.int .i64 s2, .int .i64 z2, .bool f2]) := ⟨by rw [hs2, hz2, hf2]; rfl⟩
          rw [← hf1, ← hf2, ← hs2] at hcl
          rw [← hs2, ← hz2] at hbn
          have hzb : zn ≤ 1048576 ∧ sn ≤ 1048576 ∧ sn + zn ≤ n := by omega
          have hadd : ∀ c, clashB L (sn : Int) (zn : Int) = c → addE L n (sn : Int) (zn : Int) = if c then 7 else 0 := fun c hc => by
            unfold addE; rw [if_neg h0, if_neg (by omega), hc]
          clear hs1 hz1 hf1 hs2 hz2 hf2 hsn
          cases hc : clashB L (sn : Int) (zn : Int) with
          | true =>
            have HR := hid (addEnd_no hE (s := (sn : Int)) (z := (zn : Int)) (c := 7) (hadd true hc) (by decide))
            rw [hc] at hcl
            clear hE hT hadd hc
            cases f1 with
            | true =>
              clear hcl
              go_enter Tryz.func148, Tryz.ntmps148
              go_wp2_with (first
                | (go_at_call 151; refine (ext_none HE.out).mono ?_; rintro e w' ⟨rfl, rfl⟩)
                | (go_at_call 147; refine (ext_words HE.out).mono ?_; rintro e w' ⟨rfl, rfl⟩)
                | (go_at_call 111; refine (ext_find HE.out HT.out _).mono ?_; rintro e w' ⟨rfl, rfl⟩; rw [HF.out])
                | (go_at_call 144; refine (ext_next HE.out HT.out _).mono ?_; rintro e w' ⟨rfl, rfl⟩; rw [HN.out]))
              go_ret
              exact HR.out
            | false =>
              have hf2 : f2 = true ∧ s2 < (sn : Int) + zn := by simpa using hcl.symm
              obtain ⟨rfl, hlt⟩ := hf2
              have d4 : decide (s2 < (sn : Int) + (zn : Int)) = true := by simp [hlt]
              clear hcl
              go_enter Tryz.func148, Tryz.ntmps148
              go_wp2_with (first
                | (go_at_call 151; refine (ext_none HE.out).mono ?_; rintro e w' ⟨rfl, rfl⟩)
                | (go_at_call 147; refine (ext_words HE.out).mono ?_; rintro e w' ⟨rfl, rfl⟩)
                | (go_at_call 111; refine (ext_find HE.out HT.out _).mono ?_; rintro e w' ⟨rfl, rfl⟩; rw [HF.out])
                | (go_at_call 144; refine (ext_next HE.out HT.out _).mono ?_; rintro e w' ⟨rfl, rfl⟩; rw [HN.out]))
              go_ret
              exact HR.out
          | false =>
            have hap := add_apart (L := L) (s := (sn : Int)) (z := (zn : Int)) (by omega) (by omega) hc
            simp only [Int.toNat_natCast] at hap
            have hz1 : 1 ≤ zn := by omega
            have hgood := insO_good hE.good (o := (sn, zn)) hz1 hzb.2.2 hap
            have hst := starts_ins hE.good (o := (sn, zn)) hz1 hzb.2.2 hap
            have hen := ends_ins hE.good (o := (sn, zn)) hz1 hzb.2.2 hap
            have hlen := insO_len L (sn, zn)
            have hadd0 : addE L n (sn : Int) (zn : Int) = 0 := hadd false hc
            have hL : addL L n (sn : Int) (zn : Int) = insO L (sn, zn) := by unfold addL; rw [if_pos hadd0]; rfl
            rw [hc] at hcl
            obtain ⟨rfl, hor⟩ : f1 = false ∧ (f2 = false ∨ (f2 = true ∧ (sn : Int) + zn ≤ s2)) := by
              cases f1 with
              | true => rw [Bool.true_or] at hcl; cases hcl
              | false =>
                refine ⟨rfl, ?_⟩
                cases f2 with
                | false => exact .inl rfl
                | true =>
                  right
                  rw [Bool.false_or, Bool.true_and] at hcl
                  have := of_decide_eq_false hcl.symm
                  exact ⟨rfl, by omega⟩
            obtain ⟨e, he⟩ : ∃ e, e = sn + zn - 1 := ⟨_, rfl⟩
            have HIE : Hid ((sn : Int) + (zn : Int) - 1 = (e : Int)) := ⟨by omega⟩
            have hen' : endsL n (insO L (sn, zn)) = (endsL n L).set e true := by rw [he]; exact hen
            have hst' : startsL n (insO L (sn, zn)) = (startsL n L).set sn true := hst
            have K1 : Hid (sn < (startsL n L).length) := ⟨by rw [startsL_len]; omega⟩
            have K2 : Hid (e < (endsL n L).length) := ⟨by rw [endsL_len]; omega⟩
            have KG := hid hgood
            have KS := hid hst'
            have KE := hid hen'
            have KL := hid (And.intro hlen (And.intro hadd0 hL))
            obtain ⟨a1, a2, a3, a4⟩ := hE.am
            obtain ⟨a5, a6, a7⟩ := hE.ab
            have hmw := hE.hm
            have cc1 := hE.c1
            have cc2 := hE.c2
            have cfr := hE.fr
            have cc0 := hE.c0
            have HA : Hid (m ≠ b1 ∧ m ≠ b2 ∧ p2 ≠ b1 ∧ b2 ≠ b1) := ⟨⟨a2, a4, a6, fun h => a7 h.symm⟩⟩
            have hLn := hE.good.len
            clear hE hT hadd hc hcl hap hgood hst hen hen' hst' hlen hadd0 hL he a1 a2 a3 a4 a5 a6 a7
            rcases hor with rfl | ⟨rfl, hge⟩
            all_goals try have d4 : decide (s2 < (sn : Int) + (zn : Int)) = false := by simp; omega
            all_goals
              go_enter Tryz.func148, Tryz.ntmps148
              go_wp2_with (first
                | (go_at_call 151; refine (ext_none HE.out).mono ?_; rintro e w' ⟨rfl, rfl⟩)
                | (go_at_call 147; refine (ext_words HE.out).mono ?_; rintro e w' ⟨rfl, rfl⟩)
                | (go_at_call 111; refine (ext_find HE.out HT.out _).mono ?_; rintro e w' ⟨rfl, rfl⟩; rw [HF.out])
                | (go_at_call 144; refine (ext_next HE.out HT.out _).mono ?_; rintro e w' ⟨rfl, rfl⟩; rw [HN.out])
                | (go_at_call 195; rw [HIE.out]; refine (set_in (HE.out.v2.touch HT1.out HA.out.2.2.1 HA.out.2.2.2) e K2.out).mono ?_; rintro e' w2 ⟨rfl, ht2, hv2⟩; rw [← KE.out] at hv2; have e2 := (ht2.cell HM1.out HA.out.2.1 2).trans e12; have ef := (ht2.frozen HM1.out HA.out.2.1 2).trans ef1; have HT2 := hid ht2; have HV2 := hid hv2; clear ht2 hv2)
                | (go_at_call 195; refine (set_in HE.out.v1 sn K1.out).mono ?_; rintro e' w1 ⟨rfl, ht1, hv1⟩; rw [← KS.out] at hv1; have e11 := (ht1.cell hmw HA.out.1 1).trans cc1; have e12 := (ht1.cell hmw HA.out.1 2).trans cc2; have ef1 := (ht1.frozen hmw HA.out.1 2).trans cfr; have HT1 := hid ht1; have HV1 := hid hv1; have HM1 := hid (Nat.lt_of_lt_of_le hmw ht1.size); clear ht1 hv1))
              go_ret
              have hch := HE.out.changed KG.out HT1.out HV1.out HT2.out HV2.out (z := ((L.length : Int) + 1)) (by rw [KL.out.1]; push_cast; rfl)
              exact ⟨by rw [KL.out.2.1]; rfl, hch.2, by rw [KL.out.2.2]; exact hch.1⟩

/-! Drop -/
theorem none_raw {w : World} {m p : Nat} (c0 : w.cell? ⟨m, 0, none⟩ = some (.pointer (some ⟨p, 0, none⟩))) : Calls Tryz.prog 151 #[.pointer (some ⟨m, 0, none⟩)] w fun e w' => e = .returned (.bool false) ∧ w = w' := by
  go_enter Tryz.func151, Tryz.ntmps151
  go_wp2
  go_ret
  exact ⟨rfl, rfl⟩
theorem words_raw {w : World} {m p b n : Nat} {l : List Bool} (c0 : w.cell? ⟨m, 0, none⟩ = some (.pointer (some ⟨p, 0, none⟩))) (hV : Vec w p b l) (hl : l.length = n) :
    Calls Tryz.prog 147 #[.pointer (some ⟨m, 0, none⟩)] w fun e w' => e = .returned (.int .i64 n) ∧ w = w' := by
  have HL := hid hl
  have HV := hid hV
  clear hl hV
  go_enter Tryz.func147, Tryz.ntmps147
  go_wp2_with (first
    | (go_at_call 151; refine (none_raw c0).mono ?_; rintro e w' ⟨rfl, rfl⟩)
    | (go_at_call 194; refine (len_vec HV.out).mono ?_; rintro e w' ⟨rfl, rfl⟩; rw [HL.out]))
  go_ret
  exact ⟨rfl, rfl⟩
/-! Wipe -/
theorem lay_all_off (l : List Bool) (n : Nat) (h : l.length = n) : layL l 0 n false = List.replicate n false :=
  ext_at (by rw [layL_length, h]; simp) (fun i hi => by
    rw [layL_length] at hi
    rw [layL_at _ _ _ _ _ hi, if_pos (by omega)]
    simp [at_, List.getD_eq_getElem?_getD, List.getElem?_replicate]; split <;> rfl)
def WipeEnd (w : World) (m p1 b1 p2 b2 n : Nat) (e : Ending) (w' : World) : Prop := e = .returned (.tuple #[]) ∧ Touch (mine m b1 b2) w w' ∧ Ext w' m p1 b1 p2 b2 n []
set_option maxRecDepth 100000 in
set_option maxHeartbeats 1600000 in
theorem ext_wipe (hE : Ext w m p1 b1 p2 b2 n L) :
    Calls Tryz.prog 179 #[.pointer (some ⟨m, 0, none⟩)] w (WipeEnd w m p1 b1 p2 b2 n) := by
  have hb := hE.nb
  have HE := hid hE
  have cc0 := hE.c0
  have cc1 := hE.c1
  have cc2 := hE.c2
  have cfr := hE.fr
  obtain ⟨a1, a2, a3, a4⟩ := hE.am
  obtain ⟨a5, a6, a7⟩ := hE.ab
  have hmw := hE.hm
  have HA : Hid (m ≠ b1 ∧ m ≠ b2 ∧ p2 ≠ b1 ∧ b2 ≠ b1) := ⟨⟨a2, a4, a6, fun h => a7 h.symm⟩⟩
  have KS : Hid (layL (startsL n L) 0 (n : Int) false = startsL n []) := ⟨by rw [lay_all_off _ n (startsL_len ..), starts_nil]⟩
  have KE : Hid (layL (endsL n L) 0 (n : Int) false = endsL n []) := ⟨by rw [lay_all_off _ n (endsL_len ..), ends_nil]⟩
  clear hE a1 a2 a3 a4 a5 a6 a7
  go_enter Tryz.func179, Tryz.ntmps179
  go_upto_region 1 with (go_at_call 151; refine (ext_none HE.out).mono ?_; rintro e w' ⟨rfl, rfl⟩)
  obtain ⟨S, hS⟩ : ∃ S : World → Prop, S = fun W' => W'.cell? ⟨m, 0, none⟩ = some (.pointer (some ⟨p1, 0, none⟩)) := ⟨_, rfl⟩
  have x0 : ∀ p : Held S, p.w.cell? ⟨m, 0, none⟩ = some (.pointer (some ⟨p1, 0, none⟩)) := fun p => Held.get hS p
  have hS0 : S w.drew := by rw [hS]; exact cc0
  have inst : Inhabited (Held S) := ⟨⟨_, hS0⟩⟩
  clear hS
  refine wp_region_mixS S 6 [([0, 1, 2, 3, 4], 5), ([], 6)] [] (by kernel_rfl) (by kernel_rfl) hS0 ?_
  refine segs_step ?_
  simp only [opsAt, List.getElem?_cons_zero, List.getElem?_cons_succ]
  repeat (go_big_quiet_step (fail))
  refine wpQuiet_nil ?_
  go_wp2_with (go_at_call 147; refine (ext_words (HE.out.gr (Gr.refl w).drew)).mono ?_; rintro e w' ⟨rfl, rfl⟩)
  refine ⟨.inr (Held.of hS0), ?_⟩
  refine segs_step ?_
  simp only [opsAt, List.getElem?_cons_zero, List.getElem?_cons_succ]
  refine wpQuiet_nil ?_
  go_wp2_with (go_at_call 207; refine (wipe_vec (HE.out.v1.gr (Gr.refl w).drew) 0 (n : Int) (by decide)).mono ?_; rintro e' w1 ⟨rfl, ht1, hv1⟩; rw [KS.out] at hv1; have hg0 := ((Gr.refl w).drew.touch (fun k => k = b1)).trans ht1; have e11 := (hg0.cell hmw HA.out.1 1).trans cc1; have e12 := (hg0.cell hmw HA.out.1 2).trans cc2; have e10 := (hg0.cell hmw HA.out.1 0).trans cc0; have ef1 := (hg0.frozen hmw HA.out.1 2).trans cfr; have HT1 := hid hg0; have HV1 := hid hv1; have HM1 := hid (Nat.lt_of_lt_of_le hmw hg0.size); clear ht1 hv1 hg0)
  refine ⟨.inl trivial, ?_⟩
  refine segs_end ?_
  refine wpQuiet_nil ?_
  refine NoPanic.normal ?_
  clear x0 hS0 inst
  clear S
  go_upto_region 2 with (fail)
  obtain ⟨S, hS⟩ : ∃ S : World → Prop, S = fun W' => W'.cell? ⟨m, 1, none⟩ = some (.pointer (some ⟨p2, 0, none⟩)) := ⟨_, rfl⟩
  have x0 : ∀ p : Held S, p.w.cell? ⟨m, 1, none⟩ = some (.pointer (some ⟨p2, 0, none⟩)) := fun p => Held.get hS p
  have hS0 : S w1.drew := by rw [hS]; exact e11
  have inst : Inhabited (Held S) := ⟨⟨_, hS0⟩⟩
  clear hS
  refine wp_region_mixS S 6 [([0, 1, 2, 3, 4], 5), ([], 6)] [] (by kernel_rfl) (by kernel_rfl) hS0 ?_
  refine segs_step ?_
  simp only [opsAt, List.getElem?_cons_zero, List.getElem?_cons_succ]
  repeat (go_big_quiet_step (fail))
  refine wpQuiet_nil ?_
  go_wp2_with (go_at_call 147; refine (words_raw (w := w1.drew) e10 (HV1.out.gr (Gr.refl w1).drew) (startsL_len n [])).mono ?_; rintro e w' ⟨rfl, rfl⟩)
  refine ⟨.inr (Held.of hS0), ?_⟩
  refine segs_step ?_
  simp only [opsAt, List.getElem?_cons_zero, List.getElem?_cons_succ]
  refine wpQuiet_nil ?_
  go_wp2_with (go_at_call 207; refine (wipe_vec ((HE.out.v2.touch HT1.out HA.out.2.2.1 HA.out.2.2.2).gr (Gr.refl w1).drew) 0 (n : Int) (by decide)).mono ?_; rintro e' w2 ⟨rfl, ht2, hv2⟩; rw [KE.out] at hv2; have hg0 := ((Gr.refl w1).drew.touch (fun k => k = b2)).trans ht2; have e2 := (hg0.cell HM1.out HA.out.2.1 2).trans e12; have ef := (hg0.frozen HM1.out HA.out.2.1 2).trans ef1; have HT2 := hid hg0; have HV2 := hid hv2; clear ht2 hv2 hg0)
  refine ⟨.inl trivial, ?_⟩
  refine segs_end ?_
  refine wpQuiet_nil ?_
  refine NoPanic.normal ?_
  clear x0 hS0 inst
  clear S
  go_wp2
  refine bodyPost_end (results_none rfl _ _ _) rfl ?_
  have hch := HE.out.changed (Good.nil n) HT1.out HV1.out HT2.out HV2.out (z := 0) rfl
  exact ⟨rfl, hch.2, hch.1⟩

/-! New -/
def NewExt (w : World) (n : Nat) (e : Ending) (w' : World) : Prop :=
  ∃ m p1 b1 p2 b2, e = .returned (.tuple #[.pointer (some ⟨m, 0, none⟩), .int .i64 0]) ∧ Gr w w' ∧ Ext w' m p1 b1 p2 b2 n [] ∧ w.heap.size ≤ m ∧ w.heap.size ≤ p1 ∧ w.heap.size ≤ b1 ∧ w.heap.size ≤ p2 ∧ w.heap.size ≤ b2
set_option maxRecDepth 100000 in
set_option maxHeartbeats 800000 in
theorem ext_new (n : Nat) (h1 : 1 ≤ n) (h2 : n ≤ 1048576) (w : World) : Calls Tryz.prog 131 #[.int .i64 n] w (NewExt w n) := by
  have HN := hid (And.intro h1 h2)
  clear h1 h2
  go_enter Tryz.func131, Tryz.ntmps131
  go_wp2_with (first
    | (go_at_call 177; refine (new_vec n HN.out.1 HN.out.2 w1).mono ?_; rintro e w2 ⟨p2, b2, rfl, hg2, hV2, hp2, hb2⟩)
    | (go_at_call 177; refine (new_vec n HN.out.1 HN.out.2 _).mono ?_; rintro e w1 ⟨p1, b1, rfl, hg1, hV1, hp1, hb1⟩))
  go_ret2
  have hV1' := hV1.gr hg2
  have s1 := hV1.hp
  have s2 := hV1.hb
  have s3 := hV2.hp
  have s4 := hV2.hb
  have sg1 := hg1.size
  have sg2 := hg2.size
  refine ⟨_, p1, b1, p2, b2, ret2 rfl rfl, (hg1.trans hg2).alloc _, ⟨Good.nil n, ?_, ?_, by simp, World.cell?_alloc_new .., World.cell?_alloc_new .., World.cell?_alloc_new .., World.frozen?_alloc_new .., by omega, by omega⟩, by omega, by omega, by omega, by omega, by omega⟩
  · rw [starts_nil]; exact hV1'.gr ((Gr.refl _).alloc _)
  · rw [ends_nil]; exact hV2.gr ((Gr.refl _).alloc _)
end
end Go.Proofs.YtbmidhlilafgeaaGreatDoor
end

section
namespace Go.Proofs.YtbmidhlilafgeaaGreatDoor
open Go.RowKit Go.Shelf Word
attribute [local go_sem] Oper.semAt_some

/-- What the iterator of a vector wants of the world. -/
def OnesInv (box p b N : Nat) (s : List Bool × Nat) (W : World) : Prop :=
  Vec W p b s.1 ∧ s.1.length = N ∧ TabAt W ∧ W.cell? ⟨box, 0, none⟩ = some (.pointer (some ⟨p, 0, none⟩)) ∧ s.2 ≤ N
def OnesGives (s : List Bool × Nat) (x : Nat) : Prop := x = nextL s.1 s.2 ∧ nextL s.1 s.2 < s.1.length
def OnesNext (_ : List Bool × Nat) (x : Nat) (s' : List Bool × Nat) : Prop := s'.2 = x + 1
theorem next_at {l : List Bool} {a : Int} (h : nextL l a < l.length) : at_ l (nextL l a) = true ∧ a ≤ (nextL l a : Nat) := by
  have := first_at (fun i => at_ l i && decide (a ≤ (i : Nat))) l.length h
  simp only [Bool.and_eq_true, decide_eq_true_eq] at this
  exact this
theorem next_ge {l : List Bool} {a : Int} (h : nextL l a < l.length) : a ≤ (nextL l a : Nat) := (next_at h).2
def okOf : Value → Bool
  | .bool b => b
  | _ => false
def OnesFin (s : List Bool × Nat) : Prop := ¬ nextL s.1 s.2 < s.1.length

set_option maxRecDepth 100000 in
set_option maxHeartbeats 1600000 in
theorem ones_seq (n : Nat) (box p b N : Nat) (l0 : List Bool) (w : World) :
    SeqS Fence.wide n Tryz.prog 197 #[.pointer (some ⟨box, 0, none⟩)] (fun x : Nat => #[.int .i64 (x : Int)]) (OnesInv box p b N) OnesGives OnesNext OnesFin (l0, 0) w := by
  intro l J Jx W hg hJ hJx hI hY h0
  refine callsIn_of_wp Tryz.func197 rfl trivial ?_ rfl
  have hi0 := hI _ _ h0
  have c0 := hi0.2.2.2.1
  have HI0 := hid hi0
  clear hi0
  simp only [Tryz.ntmps197, List.size_toArray, List.length_cons, List.length_nil, Nat.reduceAdd, Nat.reduceSub, Array.replicate_succ, Array.replicate_zero, List.push_toArray, List.append_toArray, List.nil_append, List.cons_append]
  gi_wp2_with (refine ⟨trivial, fun h => Bool.noConfusion h, ?_⟩; gi_at_call 191; refine (callsIn_wide.2 (next_vec HI0.out.1 HI0.out.2.2.1 _)).mono ?_; rintro e w1 ⟨rfl, rfl⟩)
  gi_loopw [3, 4] (fun x3 x4 wr => ∃ s : List Bool × Nat, J s wr ∧ x3 = .int .i64 (valN s.1.length (nextL s.1 s.2)) ∧ x4 = .bool (decide (nextL s.1 s.2 < s.1.length))) (fun x3 x4 _ => if okOf x4 then N - (intOf x3).toNat + 1 else 0)
  case atStart => exact ⟨(l0, 0), h0, rfl, rfl⟩
  case round =>
    obtain ⟨s, hs, rfl, rfl⟩ := hrel
    have hi := hI _ _ hs
    have c1 := hi.2.2.2.1
    have HI := hid hi
    clear hi
    by_cases hlt : nextL s.1 s.2 < s.1.length
    · obtain ⟨x, hx⟩ : ∃ x, x = nextL s.1 s.2 := ⟨_, rfl⟩
      obtain ⟨fn, tmps, assign, body, hy, hR⟩ := hY s x wr hs ⟨hx, hlt⟩
      have e1 : valN s.1.length (nextL s.1 s.2) = (x : Int) := by rw [hx]; exact valN_yes hlt
      have e2 : decide (nextL s.1 s.2 < s.1.length) = true := by simp [hlt]
      rw [e1, e2]
      have hxN : x < N := by rw [← HI.out.2.1, hx]; exact hlt
      have HN := hid hI
      have HX := hid hx
      clear hx e1 e2 hI
      gi_wp2
      refine ⟨fun h => Bool.noConfusion h, hR.mono ?_⟩
      rintro e W3 (⟨rfl, s', hn', hJ'⟩ | ⟨rfl, hx'⟩)
      · have hi' := HN.out _ _ hJ'
        have c3 := hi'.2.2.2.1
        have HI' := hid hi'
        have hn2 : s'.2 = x + 1 := hn'
        have hN2 : (N : Int) ≤ 1048576 := by have := hi'.1.n2; have := hi'.2.1; omega
        have hx2 : (x : Int) < N := by omega
        have HS' := hid hn2
        clear hi' hn2 hn'
        gi_wp2_with (refine ⟨trivial, fun h => Bool.noConfusion h, ?_⟩; gi_at_call 191; refine (callsIn_wide.2 (next_vec HI'.out.1 HI'.out.2.2.1 ((x : Int) + 1))).mono ?_; rintro e w1 ⟨rfl, rfl⟩)
        go_roundw
        case rel => exact ⟨s', hJ', by rw [HS'.out]; rfl, by rw [HS'.out]; rfl⟩
        case measure =>
          have e0 : okOf (Value.bool true) = true := rfl
          rw [if_pos e0]
          by_cases h : nextL s'.1 ((x : Int) + 1) < s'.1.length
          · have hge := next_ge h
            have h2 := HI'.out.2.1
            rw [valN_yes h, if_pos (by simp [okOf, h])]
            simp only [intOf]
            omega
          · rw [if_neg (by simp [okOf]; omega)]
            omega
      · gi_wp2
        go_end0
        exact ⟨⟨_, rfl⟩, .inr hx'⟩
    · have e1 : valN s.1.length (nextL s.1 s.2) = 0 := valN_no hlt
      have e2 : decide (nextL s.1 s.2 < s.1.length) = false := by simp; omega
      rw [e1, e2]
      gi_wp2
      refine ⟨fun _ h => (by cases h), ?_⟩
      gi_wp2
      go_end0
      exact ⟨⟨_, rfl⟩, .inl ⟨s, hlt, hs⟩⟩
/-- Ones: the iterator's value; its box is new. -/
theorem ones_call {w : World} (q : Option Addr) :
    Calls Tryz.prog 152 #[.pointer q] w fun e w' => e = .returned (.func (.func 197) #[] #[.pointer (some ⟨w.heap.size, 0, none⟩)]) ∧ w' = w.alloc (.cells #[.pointer q] 198) := by
  have hmf : ∀ (fn : Fn) (first cap : Array Value) (w : World), (Instr.makeFunc fn first cap).run Tryz.prog w = .ok (.func fn first cap) w := fun _ _ _ _ => rfl
  go_enter Tryz.func152, Tryz.ntmps152
  go_wp2
  go_ret
  exact ⟨rfl, rfl⟩
end Go.Proofs.YtbmidhlilafgeaaGreatDoor
end

section
namespace Go.Proofs.YtbmidhlilafgeaaGreatDoor
open Go.RowKit Go.Shelf Word
attribute [local go_sem] Oper.semAt_some

def AllInv (box m p1 b1 p2 b2 n : Nat) (L : List Ob) (j : Nat) (W : World) : Prop :=
  Ext W m p1 b1 p2 b2 n L ∧ TabAt W ∧ W.cell? ⟨box, 0, none⟩ = some (.pointer (some ⟨m, 0, none⟩)) ∧ j ≤ L.length
def AllGives (L : List Ob) (j : Nat) (x : Ob) : Prop := L[j]? = some x
def encO (x : Ob) : Array Value := #[.int .i64 (x.1 : Nat), .int .i64 (x.2 : Nat)]
theorem next_succ_ob {n : Nat} {L : List Ob} (h : Good n L) {j : Nat} (hj : j < L.length) : nextO L ((L[j].1 : Int) + 1) = j + 1 := by
  refine nextO_eq (by omega) (fun i hi hij => ?_) (fun h2 => ?_)
  · rcases Nat.lt_or_ge i j with h1 | h1
    · have := h.at hi hj h1; omega
    · have : i = j := by omega
      subst this; omega
  · have := h.at hj h2 (Nat.lt_succ_self j); have := h.sz _ (List.getElem_mem hj); omega
theorem yieldAt_wide {m m' l l2 : Nat} {P : Program} {args : Array Value} {W : World} {R : Ending → World → Prop} (h : YieldAt Fence.wide m P l args W R) : YieldAt (Fence.wide.inRound l2) m' P l args W R := by
  obtain ⟨fn, tmps, assign, body, hy, hR⟩ := h
  exact ⟨fn, tmps, assign, body, hy, hR.1, fun c cs _ => hR.2 c cs (room_wide _)⟩
/-- Between two rounds of the inner loop. -/
structure InAll (n : Nat) (L : List Ob) (J : Nat → World → Prop) (B0 B1 p1 : Nat) (y : Value) (s : List Bool × Nat) (A : World) : Prop where
  st : s.1 = startsL n L
  ps : s.2 ≤ n
  j : ∃ j, J j A ∧ nextO L (s.2 : Int) = j
  y : A.cell? ⟨B0, 0, none⟩ = some y
  v : A.cell? ⟨B1, 0, none⟩ = some (.pointer (some ⟨p1, 0, none⟩))

set_option maxRecDepth 100000 in
set_option maxHeartbeats 3200000 in
theorem all_seq (n' : Nat) (box m p1 b1 p2 b2 n : Nat) (L : List Ob) (w : World) :
    SeqT Fence.wide n' Tryz.prog 150 #[.pointer (some ⟨box, 0, none⟩)] encO (AllInv box m p1 b1 p2 b2 n L) (AllGives L) (fun j _ j' => j' = j + 1) (fun j => j = L.length) 0 w := by
  intro l J Jx W hg hJ hJx hI hY h0
  refine callsIn_wide.2 ((callsIn_wide (n := 5)).1 ?_)
  refine callsIn_of_wp_marks Tryz.func150 rfl trivial ?_ rfl
  have hi0 := hI _ _ h0
  have c0 := hi0.2.2.1
  have k0 := hi0.1.c0
  have HI0 := hid hi0
  have HJ0 := hid h0
  have HII := hid hI
  clear hi0 h0 hI
  simp only [Tryz.ntmps150, List.size_toArray, List.length_cons, List.length_nil, Nat.reduceAdd, Nat.reduceSub, Array.replicate_succ, Array.replicate_zero, List.push_toArray, List.append_toArray, List.nil_append, List.cons_append]
  have hbox : box < W.heap.size := lt_cell c0
  have hmw := HI0.out.1.hm
  gi_wp2_with (first
    | (refine ⟨trivial, ?_⟩; gi_at_call 151; refine (callsIn_wide.2 (ext_none (HI0.out.1.gr ((Gr.refl W).alloc _)))).mono ?_; rintro e w1 ⟨rfl, rfl⟩)
    | (refine ⟨trivial, ?_⟩; gi_at_call 152; refine (callsIn_wide.2 (ones_call (some ⟨p1, 0, none⟩))).mono ?_; rintro e w1 ⟨rfl, rfl⟩))
  obtain ⟨W0, hW0⟩ : ∃ W0, W0 = (W.alloc (.cells #[.func (.yield l) #[] #[]] 56)).alloc (.cells #[.pointer (some ⟨p1, 0, none⟩)] 198) := ⟨_, rfl⟩
  have hg0 : Gr W W0 := by rw [hW0]; exact ((Gr.refl W).alloc _).alloc _
  have hsz0 : W0.heap.size = W.heap.size + 2 := by rw [hW0]; simp
  have bY : W0.cell? ⟨W.heap.size, 0, none⟩ = some (.func (.yield l) #[] #[]) := by rw [hW0]; exact ((Boxed.new W _ _).alloc _).cell
  have bV : W0.cell? ⟨W.heap.size + 1, 0, none⟩ = some (.pointer (some ⟨p1, 0, none⟩)) := by
    rw [hW0]
    have := Boxed.new (W.alloc (.cells #[.func (.yield l) #[] #[]] 56)) 198 (.pointer (some ⟨p1, 0, none⟩))
    rw [World.size_alloc] at this
    exact this.cell
  rw [← hW0]
  have hgood := HI0.out.1.good
  have hnb := HI0.out.1.nb
  have hJ00 : J 0 W0 := hJ _ _ _ HJ0.out (hg0.touch _)
  have HH0 := hid hW0
  clear hW0 c0 k0
  have hn0 : nextO L ((0 : Nat) : Int) = 0 := nextO_eq (Nat.zero_le _) (fun i hi h => by omega) (fun h => by omega)
  have tI : ∀ s A B, InAll n L J W.heap.size (W.heap.size + 1) p1 (.func (.yield l) #[] #[]) s A → Touch (fun k => W0.heap.size ≤ k) A B → InAll n L J W.heap.size (W.heap.size + 1) p1 (.func (.yield l) #[] #[]) s B := fun s A B h t =>
    ⟨h.st, h.ps, by obtain ⟨j, hj, e⟩ := h.j; exact ⟨j, hJ _ _ _ hj (t.mono (fun k _ h => by omega)), e⟩, (t.cell (lt_cell h.y) (by show ¬ W0.heap.size ≤ W.heap.size; omega) 0).trans h.y, (t.cell (lt_cell h.v) (by show ¬ W0.heap.size ≤ W.heap.size + 1; omega) 0).trans h.v⟩
  refine range_lawT (s0 := (startsL n L, 0)) rfl (by omega) (gf := 197) (lb := #[.pointer (some ⟨W.heap.size + 1, 0, none⟩)]) rfl trivial (enters_of Tryz.func197 (by kernel_rfl) rfl)
    (ones_seq _ (W.heap.size + 1) p1 b1 n (startsL n L) _).toT (fun _ => rfl)
    (InAll n L J W.heap.size (W.heap.size + 1) p1 (.func (.yield l) #[] #[])) (fun c A => c = .ret ∧ Jx A) tI (fun c A B h t => ⟨h.1, hJx _ _ h.2 (t.mono (fun k _ h => by omega))⟩)
    (fun s A h => by
      obtain ⟨j, hj, -⟩ := h.j
      have hi := HII.out _ _ hj
      exact ⟨by rw [h.st]; exact hi.1.v1, by rw [h.st, startsL_len], hi.2.1, h.v, h.ps⟩)
    ⟨rfl, Nat.zero_le _, ⟨0, hJ00, hn0⟩, bY, bV⟩ ?round ?done ?stop
  case round =>
    intro lp s x W3 hsz3 hI3 hgv
    gi_wp2
    refine ⟨Gr.refl _, fun W4 ht4 hI4 => ?_⟩
    obtain ⟨hst, hps, ⟨j, hj, hnx⟩, hy, hv⟩ := hI4
    obtain ⟨hx, hlt⟩ := hgv
    have hi4 := HII.out _ _ hj
    rw [hst] at hx hlt
    have hjl : j < L.length := by
      rcases Nat.lt_or_ge j L.length with h | h
      · exact h
      · have := next_start_no hgood (a := (s.2 : Int)) (by rw [hnx]; omega)
        omega
    have hxj : x = L[j].1 := by
      have := (next_start_yes hgood (a := (s.2 : Int)) (by rw [hnx]; exact hjl)).1
      rw [hx, this]; congr 2
    subst hxj
    have hJd : J j W4.drew := hJ _ _ _ hj ((Gr.refl W4).drew.touch _)
    have hsz4 : W.heap.size ≤ W4.drew.heap.size := Nat.le_of_lt (lt_cell hy)
    obtain ⟨fn, tmps, assign, body, hyy, hR⟩ := yieldAt_wide (m' := 2) (l2 := lp) (hY j L[j] W4.drew hJd hsz4 (List.getElem?_eq_getElem hjl))
    have HZ := hid (ext_size (hi4.1.gr (Gr.refl W4).drew) ((Gr.refl W4).drew.tab hi4.2.1.lt hi4.2.1) hjl)
    have cbx := hi4.2.2.1
    have hbxs := hsz0
    have HS := hid (And.intro hst (And.intro hnx hjl))
    clear hst hnx hj hi4 hx hlt hI3
    dsimp only [encO] at hyy
    have hR2 := hR.mono (R' := fun e W' => ∃ bb : Bool, e = .returned (.bool bb) ∧ ((bb = true ∧ J (j + 1) W') ∨ (bb = false ∧ Jx W')) ∧ Touch (fun k => k < W.heap.size) W4.drew W') (by
      rintro e W' ⟨⟨he, s', rfl, hs'⟩ | ⟨he, hx⟩, ht⟩
      · exact ⟨true, he, .inl ⟨rfl, hs'⟩, ht⟩
      · exact ⟨false, he, .inr ⟨rfl, hx⟩, ht⟩)
    clear hR
    gi_wp2
    obtain ⟨Sx, hSx⟩ : ∃ S : World → Prop, S = fun A => A.cell? ⟨W.heap.size, 0, none⟩ = some (.func (.yield l) #[] #[]) := ⟨_, rfl⟩
    have x1 : ∀ p : Held Sx, p.w.cell? ⟨W.heap.size, 0, none⟩ = some (.func (.yield l) #[] #[]) := fun p => Held.get hSx p
    have hS0 : Sx W4.drew := by rw [hSx]; exact hy
    have HSx := hid hSx
    clear hSx
    have inst : Inhabited (Held Sx) := ⟨⟨_, hS0⟩⟩
    refine wpIn_region_mixS Sx 7 [([0, 1, 3], 2), ([], 4), ([], 5)] [6] (fun _ => trivial) (by kernel_rfl) (by kernel_rfl) hS0 ?_
    refine segsIn_step ?_
    simp only [opsAt, List.getElem?_cons_zero, List.getElem?_cons_succ]
    repeat (go_big_quiet_step (fail))
    refine wpQuiet_nil ?_
    gi_wp2
    refine ⟨.inr (Held.of hS0), ?_⟩
    refine segsIn_step ?_
    simp only [opsAt, List.getElem?_cons_zero, List.getElem?_cons_succ]
    refine wpQuiet_nil ?_
    gi_wp2_with (refine ⟨trivial, ?_⟩; gi_at_call 153; refine (CallsIn.inRound lp (callsIn_wide.2 HZ.out)).mono ?_; rintro e w' ⟨rfl, rfl⟩)
    refine ⟨.inr (Held.of hS0), ?_⟩
    refine segsIn_step ?_
    simp only [opsAt, List.getElem?_cons_zero, List.getElem?_cons_succ]
    refine wpQuiet_nil ?_
    gi_wp2
    refine hR2.mono ?_
    rintro e W5 ⟨bb, rfl, hor, ht5⟩
    have hy5 := (ht5.cell (lt_cell hy) (Nat.lt_irrefl _) 0).trans hy
    have hv5 := (ht5.cell (lt_cell hv) (by show ¬ W.heap.size + 1 < W.heap.size; omega) 0).trans hv
    gi_wp2
    refine ⟨.inr (Held.of (by rw [HSx.out]; exact hy5)), ?_⟩
    refine segsIn_end ?_
    simp only [opsAt, List.getElem?_cons_zero, List.getElem?_cons_succ]
    repeat (go_big_quiet_step (fail))
    refine wpQuiet_nil ?_
    refine NoPanic.normal ?_
    have T5 := hid (((Gr.refl W4).drew.touch (fun k => k < W0.heap.size)).trans (ht5.mono (fun k _ h => by omega)))
    have HSZ := hid (hgood.sz _ (List.getElem_mem hjl))
    clear x1 hS0 HSx inst hR2 ht5
    clear Sx
    cases bb with
    | true =>
      have hJ5 : J (j + 1) W5 := by
        rcases hor with ⟨_, h⟩ | ⟨h, _⟩
        · exact h
        · cases h
      have HJ5 := hid hJ5
      clear hor hJ5
      gi_wp2
      exact ⟨T5.out, (startsL n L, L[j].1 + 1), rfl, rfl, by have := HSZ.out; show L[j].1 + 1 ≤ n; omega, ⟨j + 1, HJ5.out, by have := next_succ_ob hgood hjl; push_cast; exact this⟩, hy5, hv5⟩
    | false =>
      have hJ5 : Jx W5 := by
        rcases hor with ⟨h, _⟩ | ⟨_, h⟩
        · cases h
        · exact h
      have HJ5 := hid hJ5
      clear hor hJ5
      gi_wp2
      exact ⟨T5.out, rfl, HJ5.out⟩
  case done =>
    rintro D s W3 hD hfin hI3 hK
    obtain ⟨hst, hps, ⟨j, hj, hnx⟩, hy, hv⟩ := hI3
    have hjl : ¬ j < L.length := fun h => by
      have := next_start_yes hgood (a := (s.2 : Int)) (by rw [hnx]; exact h)
      unfold OnesFin at hfin
      rw [hst] at hfin
      exact hfin this.2
    have hje : j = L.length := by have := nextO_le L (s.2 : Int); omega
    have HE := hid (And.intro hje hj)
    have HK := hid hK
    have HD := hid hD
    clear hst hps hnx hy hv hfin hje hj hK hD hjl
    gi_wp2
    refine ⟨by simp, .inl ⟨_, _, rfl, run_takeDeferred HK.out, ?_⟩⟩
    refine ⟨.tuple #[], results_none rfl _ _ _, ⟨_, rfl⟩, .inl ⟨j, HE.out.1, hJ _ _ _ HE.out.2 ((touch_putObj W3 D _ (Nat.le_refl D)).mono (fun k _ h => by have := HD.out; omega))⟩⟩
  case stop =>
    rintro D c W3 hD ⟨rfl, hx⟩ hK
    have HE := hid hx
    have HK := hid hK
    have HD := hid hD
    clear hx hK hD
    gi_wp2
    refine ⟨by simp, .inl ⟨_, _, rfl, run_takeDeferred HK.out, ?_⟩⟩
    refine ⟨.tuple #[], results_none rfl _ _ _, ⟨_, rfl⟩, .inr (hJx _ _ HE.out ((touch_putObj W3 D _ (Nat.le_refl D)).mono (fun k _ h => by have := HD.out; omega)))⟩
end Go.Proofs.YtbmidhlilafgeaaGreatDoor
end

section
namespace Go.Proofs.YtbmidhlilafgeaaGreatDoor
open Go.RowKit Go.Shelf Word
attribute [local go_sem] Oper.semAt_some

theorem all_call {w : World} (q : Option Addr) :
    Calls Tryz.prog 86 #[.pointer q] w fun e w' => e = .returned (.func (.func 150) #[] #[.pointer (some ⟨w.heap.size, 0, none⟩)]) ∧ w' = w.alloc (.cells #[.pointer q] 124) := by
  have hmf : ∀ (fn : Fn) (first cap : Array Value) (w : World), (Instr.makeFunc fn first cap).run Tryz.prog w = .ok (.func fn first cap) w := fun _ _ _ _ => rfl
  go_enter Tryz.func86, Tryz.ntmps86
  go_wp2
  go_ret
  exact ⟨rfl, rfl⟩
theorem TabAt.touch' {S : Nat → Prop} {w W : World} (ht : TabAt w) (h : Touch S w W) (hS : ¬ S 0) : TabAt W := h.tab ht.lt hS ht
end Go.Proofs.YtbmidhlilafgeaaGreatDoor
end

section
namespace Go.Proofs.YtbmidhlilafgeaaGreatDoor
open Go.RowKit Go.Shelf Word
attribute [local go_sem] Oper.semAt_some

end Go.Proofs.YtbmidhlilafgeaaGreatDoor
end
end
section
namespace Go.Proofs.YtbmidhlilafgeaaGreatDoor
open Word

def liveL (n : Nat) (L : List Ob) : List Bool := (List.range n).map (liveB L)
theorem liveL_len (n : Nat) (L : List Ob) : (liveL n L).length = n := by simp [liveL]
theorem at_live {n : Nat} {L : List Ob} (h : Good n L) (i : Nat) : at_ (liveL n L) i = liveB L i := by
  unfold liveL
  rw [at_map_range]
  by_cases hi : i < n
  · rw [decide_eq_true hi]; rfl
  · rw [decide_eq_false hi]
    cases hb : liveB L i with
    | false => rfl
    | true =>
      obtain ⟨o, ho, h1, h2⟩ := liveB_iff.1 hb
      have := h.sz o ho
      omega
theorem countL_live {n : Nat} {L : List Ob} (h : Good n L) (f t : Int) : ((countL (liveL n L) f t : Nat) : Int) = overs L f t := by
  rw [← liveN_eq h, countL_eq, liveL_len]
  congr 1
  exact cntI_congr (fun i _ => by rw [at_live h])
theorem cnt_live {n : Nat} {L : List Ob} (h : Good n L) (k : Nat) (hk : k ≤ n) : ((cnt (at_ (liveL n L)) k : Nat) : Int) = overs L 0 k := by
  rw [← countL_live h, countL_upto _ (by rw [liveL_len]; exact hk)]
/-- One more object laid. -/
theorem live_take {n : Nat} {L : List Ob} {j : Nat} (hj : j < L.length) : liveL n (L.take (j + 1)) = layL (liveL n (L.take j)) (L[j].1 : Nat) ((L[j].1 : Int) + (L[j].2 : Int)) true := by
  refine ext_at (by rw [layL_length, liveL_len, liveL_len]) (fun i hi => ?_)
  rw [liveL_len] at hi
  rw [layL_at _ _ _ _ _ (by rw [liveL_len]; exact hi)]
  unfold liveL
  rw [at_map_range, at_map_range, decide_eq_true hi]
  unfold liveB
  rw [List.take_succ_eq_append_getElem hj, List.any_append]
  by_cases hin : (L[j].1 : Int) ≤ i ∧ (i : Int) < (L[j].1 : Int) + (L[j].2 : Int)
  · rw [if_pos hin]
    have : L[j].1 ≤ i ∧ i < L[j].1 + L[j].2 := by omega
    simp [this]
  · rw [if_neg hin]
    have : ¬ (L[j].1 ≤ i ∧ i < L[j].1 + L[j].2) := by omega
    simp [this]
theorem live_none (n : Nat) : liveL n [] = List.replicate n false := by
  unfold liveL
  exact ext_at (by simp) (fun i hi => by rw [at_map_range]; simp [at_, List.getD_eq_getElem?_getD, List.getElem?_replicate, liveB]; split <;> rfl)
end Go.Proofs.YtbmidhlilafgeaaGreatDoor

namespace Go.Proofs.YtbmidhlilafgeaaGreatDoor
open Go.RowKit Word

/-- A table t lies in w, all of it from block F on: of the words of the objects L, blocks of B. -/
def OffT (w : World) (F t n B : Nat) (L : List Ob) : Prop :=
  Good n L ∧ t < w.heap.size ∧ F ≤ t ∧ ∃ v vb x p b a, w.cell? ⟨t, 0, none⟩ = some (.pointer (some ⟨v, 0, none⟩)) ∧ w.cell? ⟨t, 1, none⟩ = some (.pointer (some ⟨x, 0, none⟩)) ∧ Vec w v vb (liveL n L) ∧ Idx w x p b a (liveL n L) B ∧
    F ≤ v ∧ F ≤ vb ∧ F ≤ x ∧ F ≤ p ∧ F ≤ b ∧ F ≤ a
theorem OffT.touch {S : Nat → Prop} {w w' : World} {F t n B : Nat} {L : List Ob} (h : OffT w F t n B L) (ht : Touch S w w') (hS : ∀ k, F ≤ k → k < w.heap.size → ¬ S k) : OffT w' F t n B L := by
  obtain ⟨hg, h1, h2, v, vb, x, p, b, a, c0, c1, hV, hX, k1, k2, k3, k4, k5, k6⟩ := h
  exact ⟨hg, Nat.lt_of_lt_of_le h1 ht.size, h2, v, vb, x, p, b, a, (ht.cell h1 (hS t h2 h1) 0).trans c0, (ht.cell h1 (hS t h2 h1) 1).trans c1, hV.touch ht (hS v k1 hV.hp) (hS vb k2 hV.hb), hX.touch ht (hS x k3 hX.hx) (hS p k4 hX.vec.hp) (hS b k5 hX.vec.hb) (hS a k6 hX.ha), k1, k2, k3, k4, k5, k6⟩
theorem OffT.gr {w w' : World} {F t n B : Nat} {L : List Ob} (h : OffT w F t n B L) (g : Gr w w') : OffT w' F t n B L := h.touch (g.touch (fun _ => False)) (fun _ _ _ h => h)
section
variable {w : World} {F t n B : Nat} {L : List Ob}
theorem off_before (hO : OffT w F t n B L) (i : Int) : Gets Tryz.prog 156 #[.pointer (some ⟨t, 0, none⟩), .int .i64 i] w (.int .i64 (overs L 0 i)) := by
  obtain ⟨hg, h1, h2, v, vb, x, p, b, a, c0, c1, hV, hX, -⟩ := hO
  rw [← countL_live hg]
  have HX := hid hX
  clear hX hV
  unfold Gets
  go_enter Tryz.func156, Tryz.ntmps156
  go_wp2_with (go_at_call 199; refine (rank_before HX.out i).mono ?_; rintro e w1 ⟨rfl, hg1⟩)
  go_ret
  exact ⟨rfl, hg1⟩
theorem off_is (hO : OffT w F t n B L) (i : Int) : Calls Tryz.prog 155 #[.pointer (some ⟨t, 0, none⟩), .int .i64 i] w fun e w' => e = .returned (.bool (decide (0 ≤ i) && liveB L i.toNat)) ∧ w = w' := by
  obtain ⟨hg, h1, h2, v, vb, x, p, b, a, c0, c1, hV, hX, -⟩ := hO
  rw [← at_live hg]
  have HV := hid hV
  clear hX hV
  go_enter Tryz.func155, Tryz.ntmps155
  go_wp2_with (go_at_call 198; refine (test_any HV.out i).mono ?_; rintro e w1 ⟨rfl, rfl⟩)
  go_ret
  exact ⟨rfl, rfl⟩
theorem off_live (hO : OffT w F t n B L) : Calls Tryz.prog 149 #[.pointer (some ⟨t, 0, none⟩)] w fun e w' => e = .returned (.int .i64 (sizes L : Nat)) ∧ w = w' := by
  obtain ⟨hg, h1, h2, v, vb, x, p, b, a, c0, c1, hV, hX, -⟩ := hO
  have HX := hid hX
  have HL : Hid (cnt (at_ (liveL n L)) (liveL n L).length = sizes L) := ⟨by
    have := cnt_live hg n (Nat.le_refl n)
    rw [overs_all hg] at this
    rw [liveL_len]; omega⟩
  clear hX hV
  go_enter Tryz.func149, Tryz.ntmps149
  go_wp2_with (go_at_call 196; refine (rank_ones HX.out).mono ?_; rintro e w1 ⟨rfl, rfl⟩; rw [HL.out])
  go_ret
  exact ⟨rfl, rfl⟩
end
end Go.Proofs.YtbmidhlilafgeaaGreatDoor

namespace Go.Proofs.YtbmidhlilafgeaaGreatDoor
open Go.RowKit Go.Shelf Word
attribute [local go_sem] Oper.semAt_some

/-- Between two rounds of New. -/
structure OffI (W0 : World) (v vb n : Nat) (L : List Ob) (j : Nat) (A : World) : Prop where
  t : Touch (fun i => i = vb ∨ W0.heap.size ≤ i) W0 A
  jl : j ≤ L.length
  vec : Vec A v vb (liveL n (L.take j))
def NewOff (w : World) (n : Nat) (L : List Ob) (k : Int) (e : Ending) (w' : World) : Prop :=
  Gr w w' ∧ ((blockOk k = false ∧ e = .returned (.tuple #[.pointer none, .int .i64 5])) ∨ (blockOk k = true ∧ ∃ t B : Nat, k = B ∧ e = .returned (.tuple #[.pointer (some ⟨t, 0, none⟩), .int .i64 0]) ∧ OffT w' w.heap.size t n B L))
set_option maxRecDepth 100000 in
set_option maxHeartbeats 3200000 in
theorem off_new {w : World} {m p1 b1 p2 b2 n : Nat} {L : List Ob} (hE : Ext w m p1 b1 p2 b2 n L) (hT : TabAt w) (k : Int) (hk : k ≤ 9223372036854775807) :
    Calls Tryz.prog 146 #[.pointer (some ⟨m, 0, none⟩), .int .i64 k] w (NewOff w n L k) := by
  have HE := hid hE
  have HT := hid hT
  obtain ⟨hn1, hn2⟩ := hE.nb
  have hn0 : ((n : Int) == 0) = false := beq_eq_false_iff_ne.2 (by omega)
  clear hE hT
  refine (callsIn_wide (n := 5)).1 ?_
  refine callsIn_of_wp_marks Tryz.func146 rfl trivial ?_ rfl
  simp only [Tryz.ntmps146, List.size_toArray, List.length_cons, List.length_nil, Nat.reduceAdd, Nat.reduceSub, Array.replicate_succ, Array.replicate_zero, List.push_toArray, List.append_toArray, List.nil_append, List.cons_append]
  gi_wp2_with (first
    | (refine ⟨trivial, ?_⟩; gi_at_call 147; refine (callsIn_wide.2 (ext_words HE.out)).mono ?_; rintro e w1 ⟨rfl, rfl⟩)
    | (refine ⟨trivial, ?_⟩; gi_at_call 177; refine (callsIn_wide.2 (new_vec n hn1 hn2 _)).mono ?_; rintro e w1 ⟨v, vb, rfl, hg1, hV1, hv, hvb⟩; have HG1 := hid hg1; have HV1 := hid hV1; have HP := hid (And.intro hv hvb); clear hg1 hV1 hv hvb)
    | (refine ⟨trivial, ?_⟩; gi_at_call 86; refine (callsIn_wide.2 (all_call (some ⟨m, 0, none⟩))).mono ?_; rintro e w2 ⟨rfl, rfl⟩))
  obtain ⟨X, hX⟩ : ∃ X, X = w1.heap.size := ⟨_, rfl⟩
  obtain ⟨W0, hW0⟩ : ∃ W0, W0 = (w1.alloc (.cells #[.pointer (some ⟨v, 0, none⟩)] 198)).alloc (.cells #[.pointer (some ⟨m, 0, none⟩)] 124) := ⟨_, rfl⟩
  have hg0 : Gr w1 W0 := by rw [hW0]; exact ((Gr.refl w1).alloc _).alloc _
  have hs0 : W0.heap.size = X + 2 := by rw [hW0, hX]; simp
  have e0 : W0.cell? ⟨X, 0, none⟩ = some (.pointer (some ⟨v, 0, none⟩)) := by rw [hW0, hX]; exact ((Boxed.new w1 _ _).alloc _).cell
  have e1 : W0.cell? ⟨X + 1, 0, none⟩ = some (.pointer (some ⟨m, 0, none⟩)) := by
    rw [hW0, hX]
    have := Boxed.new (w1.alloc (.cells #[.pointer (some ⟨v, 0, none⟩)] 198)) 124 (.pointer (some ⟨m, 0, none⟩))
    rw [World.size_alloc] at this
    exact this.cell
  have hz1 := HG1.out.size
  have hz2 := HV1.out.hp
  have hz3 := HV1.out.hb
  have hz4 := HP.out.1
  have hz5 := HP.out.2
  rw [← hX] at hz1 hz2 hz3
  have o1 := HE.out.hm
  have o2 := HE.out.v1.hp
  have o3 := HE.out.v1.hb
  have o4 := HE.out.v2.hp
  have o5 := HE.out.v2.hb
  have o6 := HT.out.lt
  have HG0 := hid (HG1.out.trans hg0)
  have HE0 := hid (HE.out.gr (HG1.out.trans hg0))
  have HV0 := hid (HV1.out.gr hg0)
  have hgood := HE.out.good
  have HC0 := hid (And.intro e0 e1)
  rw [← hW0, ← hX]
  clear hW0 hX hg0 e0 e1
  have h00 : OffI W0 v vb n L 0 W0 := ⟨Touch.refl _ _, Nat.zero_le _, by show Vec W0 v vb (liveL n []); rw [live_none]; exact HV0.out⟩
  have tI : ∀ j A B, OffI W0 v vb n L j A → Touch (fun i => W0.heap.size ≤ i) A B → OffI W0 v vb n L j B := fun j A B h t =>
    ⟨h.t.trans (t.mono (fun i _ h => .inr h)), h.jl, h.vec.touch t (by omega) (by omega)⟩
  refine range_lawT (s0 := 0) rfl (by omega) (gf := 150) (lb := #[.pointer (some ⟨X + 1, 0, none⟩)]) rfl trivial (enters_of Tryz.func150 (by kernel_rfl) rfl)
    (all_seq _ (X + 1) m p1 b1 p2 b2 n L _) (fun _ => rfl)
    (OffI W0 v vb n L) (fun _ _ => False) tI (fun _ _ _ h _ => h)
    (fun j A h => ⟨HE0.out.touch h.t (by omega) (by omega) (by omega) (by omega) (by omega), (HG0.out.tab HT.out.lt HT.out).touch' h.t (by omega), (h.t.cell (by omega) (by omega) 0).trans HC0.out.2, h.jl⟩)
    h00 ?round ?done (fun _ _ _ _ h _ => h.elim)
  case round =>
    intro lp j x W3 hsz3 hI3 hgv
    dsimp only [encO]
    gi_wp2
    refine ⟨Gr.refl _, fun W4 ht4 hI4 => ?_⟩
    have hjl : j < L.length := by
      rcases Nat.lt_or_ge j L.length with h | h
      · exact h
      · unfold AllGives at hgv; rw [List.getElem?_eq_none h] at hgv; cases hgv
    obtain rfl : x = L[j] := by unfold AllGives at hgv; rw [List.getElem?_eq_getElem hjl] at hgv; exact (Option.some.inj hgv).symm
    have hsz' := hgood.sz _ (List.getElem_mem hjl)
    have HLV := hid (live_take (n := n) hjl)
    have c6 := (hI4.t.cell (b := X) (by omega) (by omega) 0).trans HC0.out.1
    have HI4 := hid hI4
    clear hI4 hI3 ht4 hgv
    gi_wp2_with (refine ⟨trivial, ?_⟩; gi_at_call 192; refine (CallsIn.inRound lp (callsIn_wide.2 (fill_vec HI4.out.vec _ _ (by omega)))).mono ?_; rintro e w5 ⟨rfl, ht5, hv5⟩)
    rw [← HLV.out] at hv5
    exact ⟨ht5.mono (fun i _ h => by have h : i = vb := h; omega), j + 1, rfl, HI4.out.t.trans (ht5.mono (fun i _ h => .inl h)), by omega, hv5⟩
  case done =>
    rintro D j W3 hD rfl hI3 hK
    have c6 := (hI3.t.cell (b := X) (by omega) (by omega) 0).trans HC0.out.1
    have hV3 := hI3.vec
    rw [List.take_length] at hV3
    have HV3 := hid hV3
    have HT3 := hid hI3.t
    have HK := hid hK
    have HD := hid hD
    have hg3 : Gr w W3 := ((HG0.out.touch (fun _ => False)).trans' hI3.t (fun i hi h => by omega)).gr
    have HG3 := hid hg3
    have hz6 := hI3.t.size
    clear hV3 hI3 hK hD hg3
    cases hb : blockOk k with
    | false =>
      have HB := hid hb
      gi_wp2_with (refine ⟨trivial, ?_⟩; gi_at_call 193; refine (callsIn_wide.2 (rank_new_bad HV3.out k HB.out hk)).mono ?_; rintro e w4 ⟨rfl, rfl⟩)
      refine ⟨by simp, .inl ⟨_, _, rfl, run_takeDeferred HK.out, ?_⟩⟩
      refine ⟨.tuple #[.pointer none, .int .i64 5], ?_, ((HG3.out.touch (fun _ => False)).trans' (touch_putObj _ D _ (Nat.le_refl D)) (fun i hi h => by have := HD.out; omega)).gr, .inl ⟨HB.out, rfl⟩⟩
      simp [results, Tryz.f146, go_sem]
    | true =>
      have hbp := blockOk_pos hb
      obtain ⟨B, rfl⟩ : ∃ B : Nat, k = B := ⟨k.toNat, by omega⟩
      have HB := hid hb
      gi_wp2_with (refine ⟨trivial, ?_⟩; gi_at_call 193; refine (callsIn_wide.2 (rank_new_in HV3.out B HB.out)).mono ?_; rintro e w4 ⟨x, p, b, a, rfl, hg4, hX4, hx1, hx2, hx3, hx4⟩; have c64 := (hg4.cell (lt_cell c6) 0).trans c6; have HG4 := hid hg4; have HX4 := hid hX4; have HZ4 := hid (And.intro hx1 (And.intro hx2 (And.intro hx3 hx4))); clear hg4 hX4 hx1 hx2 hx3 hx4)
      have hD5 : (w4.alloc (.cells #[.pointer (some ⟨v, 0, none⟩), .pointer (some ⟨x, 0, none⟩)] 253)).heap[D]? = some (.deferred (some [])) :=
        (((HG4.out.alloc _).block (Array.getElem?_eq_some_iff.1 HK.out).1)).trans HK.out
      have tt := ((HG3.out.trans (HG4.out.alloc (.cells #[.pointer (some ⟨v, 0, none⟩), .pointer (some ⟨x, 0, none⟩)] 253))).touch (fun _ => False)).trans' (touch_putObj _ D (.deferred none) (Nat.le_refl D)) (fun i hi h => by have := HD.out; omega)
      refine ⟨by simp, .inl ⟨_, _, rfl, run_takeDeferred hD5, ?_⟩⟩
      refine ⟨.tuple #[.pointer (some ⟨w4.heap.size, 0, none⟩), .int .i64 0], ?_, tt.gr, .inr ⟨HB.out, w4.heap.size, B, rfl, rfl, ?_⟩⟩
      · simp [results, Tryz.f146, go_sem]
      · have t5 := touch_put1 (w4.alloc (.cells #[.pointer (some ⟨v, 0, none⟩), .pointer (some ⟨x, 0, none⟩)] 253)) D (.deferred none)
        have hs4 := HG4.out.size
        have hz := HZ4.out
        have hdl := (Array.getElem?_eq_some_iff.1 HK.out).1
        have hd := HD.out
        have hl : w4.heap.size < (w4.alloc (.cells #[.pointer (some ⟨v, 0, none⟩), .pointer (some ⟨x, 0, none⟩)] 253)).heap.size := by rw [World.size_alloc]; omega
        exact ⟨hgood, Nat.lt_of_lt_of_le hl t5.size, by omega, v, vb, x, p, b, a, (t5.cell (b := w4.heap.size) hl (by omega) 0).trans (World.cell?_alloc_new ..), (t5.cell (b := w4.heap.size) hl (by omega) 1).trans (World.cell?_alloc_new ..),
          ((HV3.out.gr HG4.out).gr ((Gr.refl _).alloc _)).touch t5 (by omega) (by omega), (HX4.out.gr ((Gr.refl _).alloc _)).touch t5 (by omega) (by omega) (by omega) (by omega), by omega, by omega, by omega, by omega, by omega, by omega⟩
end Go.Proofs.YtbmidhlilafgeaaGreatDoor
end
section
namespace Go.Proofs.YtbmidhlilafgeaaGreatDoor
open Word

theorem sizes_take_le (L : List Ob) (j : Nat) : sizes (L.take j) ≤ sizes L := by
  induction L generalizing j with
  | nil => simp [sizes]
  | cons o r ih =>
    cases j with
    | zero => simp [sizes]
    | succ j => have := ih j; simp only [List.take_succ_cons, sizes]; omega
theorem sizes_mid {L : List Ob} {j : Nat} (hj : j < L.length) : sizes (L.take j) + L[j].2 ≤ sizes L := by
  rw [← sizes_take hj]; exact sizes_take_le L (j + 1)

/-! To -/
def toV (L : List Ob) (base a : Int) : Int := if findO L a < L.length then base + overs L 0 a else 0
def toE (L : List Ob) (a : Int) : Int := if findO L a < L.length then 0 else 6
theorem toV_at {n : Nat} {L : List Ob} (h : Good n L) {base a : Int} {j : Nat} (hj : j < L.length) (h1 : (L[j].1 : Int) ≤ a) (h2 : a < L[j].1 + L[j].2) :
    toV L base a = base + sizes (L.take j) + a - (L[j].1 : Nat) ∧ toE L a = 0 := by
  have e := findO_eq h hj h1 h2
  have hs := overs_upto h hj (i := (a - L[j].1).toNat) (by omega)
  rw [show (L[j].1 : Int) + ((a - L[j].1).toNat : Nat) = a by omega] at hs
  unfold toV toE
  rw [if_pos (by omega), if_pos (by omega), hs]
  exact ⟨by omega, rfl⟩
theorem toV_no {L : List Ob} {base a : Int} (h : ¬ findO L a < L.length) : toV L base a = 0 ∧ toE L a = 6 := by
  unfold toV toE; rw [if_neg h, if_neg h]; exact ⟨rfl, rfl⟩
theorem live_find {L : List Ob} (a : Int) : (decide (0 ≤ a) && liveB L a.toNat) = decide (findO L a < L.length) := by
  by_cases h : 0 ≤ a
  · rw [decide_eq_true h, liveB_find, show ((a.toNat : Nat) : Int) = a by omega]; rfl
  · rw [decide_eq_false h]
    rw [findO_none (fun o _ => by omega)]
    simp

/-! From -/
/-! Objects added in order -/
theorem insO_end {M : List Ob} {o : Ob} (h : ∀ y ∈ M, ¬ o.1 < y.1) : insO M o = M ++ [o] := by
  induction M with
  | nil => rfl
  | cons y r ih =>
    unfold insO
    rw [if_neg (h y (List.mem_cons_self ..)), ih (fun z hz => h z (List.mem_cons_of_mem _ hz))]; rfl
theorem add_next {n : Nat} {L : List Ob} (h : Good n L) {j : Nat} (hj : j < L.length) : addL (L.take j) n (L[j].1 : Nat) (L[j].2 : Nat) = L.take (j + 1) := by
  have hs := h.sz _ (List.getElem_mem hj)
  have hle : ∀ o ∈ L.take j, o.1 + o.2 ≤ L[j].1 := fun o ho => by
    obtain ⟨i, hi, hij, rfl⟩ := mem_take_lt ho
    exact h.at hi hj hij
  have hc : clashB (L.take j) (L[j].1 : Nat) (L[j].2 : Nat) = false := by
    cases e : clashB (L.take j) (L[j].1 : Nat) (L[j].2 : Nat) with
    | false => rfl
    | true => obtain ⟨o, ho, h1, h2⟩ := clash_iff.1 e; have := hle o ho; omega
  have he : addE (L.take j) n (L[j].1 : Nat) (L[j].2 : Nat) = 0 := by
    unfold addE; rw [if_neg (by omega), if_neg (by omega), hc]; rfl
  unfold addL
  rw [if_pos he, Int.toNat_natCast, Int.toNat_natCast, insO_end (fun y hy => by have := hle y hy; omega), List.take_succ_eq_append_getElem hj]
end Go.Proofs.YtbmidhlilafgeaaGreatDoor
end
section
namespace Go.Proofs.YtbmidhlilafgeaaGreatDoor
open Go.RowKit Word

/-- A forwarding map f lies in w, all of it from block F on. -/
def Fwd (w : World) (F f n B : Nat) (base : Nat) (L : List Ob) : Prop :=
  f < w.heap.size ∧ F ≤ f ∧ base < 2147483648 ∧ ∃ t o p1 b1 p2 b2, w.cell? ⟨f, 0, none⟩ = some (.pointer (some ⟨t, 0, none⟩)) ∧ w.cell? ⟨f, 1, none⟩ = some (.pointer (some ⟨o, 0, none⟩)) ∧ w.cell? ⟨f, 2, none⟩ = some (.int .i64 base) ∧
    OffT w F t n B L ∧ Ext w o p1 b1 p2 b2 n L ∧ F ≤ o ∧ F ≤ p1 ∧ F ≤ b1 ∧ F ≤ p2 ∧ F ≤ b2
theorem Fwd.touch {S : Nat → Prop} {w w' : World} {F f n B base : Nat} {L : List Ob} (h : Fwd w F f n B base L) (t : Touch S w w') (hS : ∀ k, F ≤ k → k < w.heap.size → ¬ S k) : Fwd w' F f n B base L := by
  obtain ⟨h1, h2, h3, tt, o, p1, b1, p2, b2, c0, c1, c2, hO, hE, k1, k2, k3, k4, k5⟩ := h
  exact ⟨Nat.lt_of_lt_of_le h1 t.size, h2, h3, tt, o, p1, b1, p2, b2, (t.cell h1 (hS f h2 h1) 0).trans c0, (t.cell h1 (hS f h2 h1) 1).trans c1, (t.cell h1 (hS f h2 h1) 2).trans c2, hO.touch t hS, hE.touch t (hS _ k1 hE.hm) (hS _ k2 hE.v1.hp) (hS _ k3 hE.v1.hb) (hS _ k4 hE.v2.hp) (hS _ k5 hE.v2.hb), k1, k2, k3, k4, k5⟩
theorem Fwd.gr {w w' : World} {F f n B base : Nat} {L : List Ob} (h : Fwd w F f n B base L) (g : Gr w w') : Fwd w' F f n B base L := h.touch (g.touch (fun _ => False)) (fun _ _ _ h => h)
theorem Fwd.good {w : World} {F f n B base : Nat} {L : List Ob} (h : Fwd w F f n B base L) : Good n L ∧ n ≤ 1048576 := by
  obtain ⟨_, _, _, _, _, _, _, _, _, _, _, _, hO, hE, _⟩ := h
  exact ⟨hE.good, hE.nb.2⟩
theorem overs_to {n : Nat} {L : List Ob} (h : Good n L) (hn : n ≤ 1048576) (a : Int) : 0 ≤ overs L 0 a ∧ overs L 0 a ≤ 1048576 := by
  rw [← liveN_eq h]
  have : liveN L n 0 a ≤ n := cnt_le _ _
  omega
section
variable {w : World} {F f n B base : Nat} {L : List Ob}
set_option maxRecDepth 100000 in
set_option maxHeartbeats 800000 in
theorem fwd_to (hF : Fwd w F f n B base L) (a : Int) : Gets Tryz.prog 89 #[.pointer (some ⟨f, 0, none⟩), .int .i64 a] w (.tuple #[.int .i64 (toV L base a), .int .i64 (toE L a)]) := by
  obtain ⟨hg, hn⟩ := hF.good
  obtain ⟨h1, h2, h3, t, o, p1, b1, p2, b2, c0, c1, c2, hO, hE, -⟩ := hF
  have HO := hid hO
  have hov := overs_to hg hn a
  have hl := live_find (L := L) a
  clear hO hE hg
  by_cases hf : findO L a < L.length
  · have HV : Hid (toV L base a = base + overs L 0 a ∧ toE L a = 0) := ⟨by unfold toV toE; rw [if_pos hf, if_pos hf]; exact ⟨rfl, rfl⟩⟩
    have HL : Hid ((decide (0 ≤ a) && liveB L a.toNat) = true) := ⟨by rw [hl, decide_eq_true hf]⟩
    rw [HV.out.1, HV.out.2]
    obtain ⟨ov, hov2⟩ : ∃ ov, ov = overs L 0 a := ⟨_, rfl⟩
    rw [← hov2] at hov ⊢
    have HOV := hid hov2.symm
    have z0 : ∀ xs m, (grow w xs m).cell? ⟨f, 0, none⟩ = some (.pointer (some ⟨t, 0, none⟩)) := fun xs m => ((grown w xs m).cell h1 0).trans c0
    have z2 : ∀ xs m, (grow w xs m).cell? ⟨f, 2, none⟩ = some (.int .i64 base) := fun xs m => ((grown w xs m).cell h1 2).trans c2
    have hwr : IntKind.i64.wrap ((base : Int) + ov) = (base : Int) + ov := IntWalk.i64_in _ (by omega)
    clear hl hf hov2
    unfold Gets
    go_enter Tryz.func89, Tryz.ntmps89
    go_wp2_with (go_at_call 155; refine (off_is HO.out a).mono ?_; rintro e w1 ⟨rfl, rfl⟩; rw [HL.out])
    refine wp_region_by (by kernel_rfl) (by kernel_rfl) ?_
    repeat (go_big_quiet_step ((go_at_call 156; have hc := fun xs m => off_before (HO.out.gr (grown w xs m)) a; simp only [HOV.out] at hc; exact Gets.grown (hc _ _))))
    refine wpQuiet_nil ?_
    intro _ hw'
    obtain ⟨⟨xs, nq⟩, hw''⟩ := hw'
    subst hw''
    go_wp2
    go_ret2
    exact ⟨rfl, grown w _ _⟩
  · have HV := hid (toV_no (base := base) hf)
    have HL : Hid ((decide (0 ≤ a) && liveB L a.toNat) = false) := ⟨by rw [hl, decide_eq_false hf]⟩
    rw [HV.out.1, HV.out.2]
    clear hl hf
    unfold Gets
    go_enter Tryz.func89, Tryz.ntmps89
    go_wp2_with (go_at_call 155; refine (off_is HO.out a).mono ?_; rintro e w1 ⟨rfl, rfl⟩; rw [HL.out])
    go_ret2
    exact ⟨rfl, Gr.refl _⟩
set_option maxHeartbeats 800000 in
theorem fwd_top (hF : Fwd w F f n B base L) : Gets Tryz.prog 85 #[.pointer (some ⟨f, 0, none⟩)] w (.int .i64 ((base : Int) + (sizes L : Nat))) := by
  obtain ⟨hg, hn⟩ := hF.good
  have hs := sizes_le hg
  obtain ⟨h1, h2, h3, t, o, p1, b1, p2, b2, c0, c1, c2, hO, -⟩ := hF
  have HO := hid hO
  clear hO hg
  have z0 : ∀ xs m, (grow w xs m).cell? ⟨f, 0, none⟩ = some (.pointer (some ⟨t, 0, none⟩)) := fun xs m => ((grown w xs m).cell h1 0).trans c0
  have z2 : ∀ xs m, (grow w xs m).cell? ⟨f, 2, none⟩ = some (.int .i64 base) := fun xs m => ((grown w xs m).cell h1 2).trans c2
  have hwr : IntKind.i64.wrap ((base : Int) + (sizes L : Nat)) = (base : Int) + (sizes L : Nat) := IntWalk.i64_in _ (by omega)
  unfold Gets
  go_enter Tryz.func85, Tryz.ntmps85
  go_wp2
  refine wp_region_by (by kernel_rfl) (by kernel_rfl) ?_
  repeat (go_big_quiet_step ((go_at_call 149; have hc := fun xs m => off_live (HO.out.gr (grown w xs m)); exact Gets.grown_same (hc _ _))))
  refine wpQuiet_nil ?_
  intro _ hw'
  obtain ⟨⟨xs, nq⟩, hw''⟩ := hw'
  subst hw''
  go_wp2
  go_ret
  exact ⟨rfl, grown w _ _⟩
end
end Go.Proofs.YtbmidhlilafgeaaGreatDoor
end
section
namespace Go.Proofs.YtbmidhlilafgeaaGreatDoor
open Go.RowKit Go.Shelf Word
attribute [local go_sem] Oper.semAt_some

/-- Between two rounds of New. -/
structure FwdI (W0 : World) (o p1 b1 p2 b2 n : Nat) (L : List Ob) (j : Nat) (A : World) : Prop where
  t : Touch (fun i => mine o b1 b2 i ∨ W0.heap.size ≤ i) W0 A
  jl : j ≤ L.length
  ext : Ext A o p1 b1 p2 b2 n (L.take j)
def baseOk (b : Int) : Bool := decide (0 ≤ b) && decide (b < 2147483648)
def NewFwd (w : World) (n : Nat) (L : List Ob) (k b : Int) (e : Ending) (w' : World) : Prop :=
  Gr w w' ∧ (((blockOk k && baseOk b) = false ∧ e = .returned (.tuple #[.pointer none, .int .i64 5])) ∨ ((blockOk k && baseOk b) = true ∧ ∃ f B base : Nat, k = B ∧ b = base ∧ e = .returned (.tuple #[.pointer (some ⟨f, 0, none⟩), .int .i64 0]) ∧ Fwd w' w.heap.size f n B base L))
theorem fwd_new_bad {w : World} {m p1 b1 p2 b2 n : Nat} {L : List Ob} (hE : Ext w m p1 b1 p2 b2 n L) (hT : TabAt w) (k b : Int) (hk : k ≤ 9223372036854775807) (hbad : (blockOk k && baseOk b) = false) :
    Calls Tryz.prog 84 #[.pointer (some ⟨m, 0, none⟩), .int .i64 k, .int .i64 b] w (NewFwd w n L k b) := by
  have HE := hid hE
  have HT := hid hT
  clear hE hT
  have HB := hid hbad
  refine (callsIn_wide (n := 5)).1 ?_
  refine callsIn_of_wp_marks Tryz.func84 rfl trivial ?_ rfl
  simp only [Tryz.ntmps84, List.size_toArray, List.length_cons, List.length_nil, Nat.reduceAdd, Nat.reduceSub, Array.replicate_succ, Array.replicate_zero, List.push_toArray, List.append_toArray, List.nil_append, List.cons_append]
  cases hok : blockOk k with
  | false =>
    have HO := hid hok
    clear hbad hok
    gi_wp2_with (refine ⟨trivial, ?_⟩; gi_at_call 146; refine (callsIn_wide.2 (off_new HE.out HT.out k hk)).mono ?_; rintro e w1 ⟨hg1, ⟨-, rfl⟩ | ⟨hb, -⟩⟩; rotate_left; (rw [HO.out] at hb; cases hb); have HG1 := hid hg1; clear hg1)
    refine ⟨.tuple #[.pointer none, .int .i64 5], ?_, HG1.out, .inl ⟨HB.out, rfl⟩⟩
    simp [results, Tryz.f84, go_sem]
  | true =>
    rw [hok, Bool.true_and] at hbad
    have HO := hid hok
    clear hok
    by_cases h0 : b < 0
    · have d0 : decide (b < 0) = true := decide_eq_true h0
      clear hbad
      gi_wp2_with (refine ⟨trivial, ?_⟩; gi_at_call 146; refine (callsIn_wide.2 (off_new HE.out HT.out k hk)).mono ?_; rintro e w1 ⟨hg1, ⟨hb, -⟩ | ⟨-, t, B, hkB, rfl, hO⟩⟩; (rw [HO.out] at hb; cases hb); have HG1 := hid hg1; clear hg1 hO hkB)
      refine ⟨.tuple #[.pointer none, .int .i64 5], ?_, HG1.out, .inl ⟨HB.out, rfl⟩⟩
      simp [results, Tryz.f84, go_sem]
    · have h1 : 2147483648 ≤ b := by
        unfold baseOk at hbad
        rw [decide_eq_true (by omega), Bool.true_and] at hbad
        have := of_decide_eq_false hbad
        omega
      have d0 : decide (b < 0) = false := decide_eq_false h0
      have d1 : decide ((2147483648 : Int) ≤ b) = true := decide_eq_true h1
      clear hbad
      gi_wp2_with (refine ⟨trivial, ?_⟩; gi_at_call 146; refine (callsIn_wide.2 (off_new HE.out HT.out k hk)).mono ?_; rintro e w1 ⟨hg1, ⟨hb, -⟩ | ⟨-, t, B, hkB, rfl, hO⟩⟩; (rw [HO.out] at hb; cases hb); have HG1 := hid hg1; clear hg1 hO hkB)
      refine ⟨.tuple #[.pointer none, .int .i64 5], ?_, HG1.out, .inl ⟨HB.out, rfl⟩⟩
      simp [results, Tryz.f84, go_sem]
set_option maxRecDepth 100000 in
set_option maxHeartbeats 3200000 in
theorem fwd_new {w : World} {m p1 b1 p2 b2 n : Nat} {L : List Ob} (hE : Ext w m p1 b1 p2 b2 n L) (hT : TabAt w) (k b : Int) (hk : k ≤ 9223372036854775807) :
    Calls Tryz.prog 84 #[.pointer (some ⟨m, 0, none⟩), .int .i64 k, .int .i64 b] w (NewFwd w n L k b) := by
  cases hgo : (blockOk k && baseOk b) with
  | false => exact fwd_new_bad hE hT k b hk hgo
  | true =>
    have HGO := hid hgo
    obtain ⟨hok, hbo⟩ := Bool.and_eq_true_iff.1 hgo
    have hb01 : 0 ≤ b ∧ b < 2147483648 := by unfold baseOk at hbo; simpa using hbo
    obtain ⟨base, rfl⟩ : ∃ base : Nat, b = base := ⟨b.toNat, by omega⟩
    obtain ⟨hb0, hb1⟩ := hb01
    have d0 : decide ((base : Int) < 0) = false := decide_eq_false (by omega)
    have d1 : decide ((2147483648 : Int) ≤ (base : Int)) = false := decide_eq_false (by omega)
    have HO := hid hok
    have HE := hid hE
    have HT := hid hT
    obtain ⟨hn1, hn2⟩ := hE.nb
    have hTl := hT.lt
    clear hE hT hok hbo hgo
    refine (callsIn_wide (n := 5)).1 ?_
    refine callsIn_of_wp_marks Tryz.func84 rfl trivial ?_ rfl
    simp only [Tryz.ntmps84, List.size_toArray, List.length_cons, List.length_nil, Nat.reduceAdd, Nat.reduceSub, Array.replicate_succ, Array.replicate_zero, List.push_toArray, List.append_toArray, List.nil_append, List.cons_append]
    gi_wp2_with (first
      | (refine ⟨trivial, ?_⟩; gi_at_call 146; refine (callsIn_wide.2 (off_new HE.out HT.out k hk)).mono ?_; rintro e w1 ⟨hg1, ⟨hb, -⟩ | ⟨-, t, B, hkB, rfl, hO⟩⟩; (rw [HO.out] at hb; cases hb); have HG1 := hid hg1; have HOT := hid hO; have HKB := hid hkB; clear hg1 hO hkB)
      | (refine ⟨trivial, ?_⟩; gi_at_call 147; refine (callsIn_wide.2 (ext_words (HE.out.gr HG1.out))).mono ?_; rintro e w2 ⟨rfl, rfl⟩)
      | (refine ⟨trivial, ?_⟩; gi_at_call 131; refine (callsIn_wide.2 (ext_new n hn1 hn2 _)).mono ?_; rintro e w2 ⟨o, q1, r1, q2, r2, rfl, hg2, hE2, hx1, hx2, hx3, hx4, hx5⟩; have HG2 := hid hg2; have HE2 := hid hE2; have HX := hid (And.intro hx1 (And.intro hx2 (And.intro hx3 (And.intro hx4 hx5)))); clear hg2 hE2 hx1 hx2 hx3 hx4 hx5)
      | (refine ⟨trivial, ?_⟩; gi_at_call 86; refine (callsIn_wide.2 (all_call (some ⟨m, 0, none⟩))).mono ?_; rintro e w3 ⟨rfl, rfl⟩))
    obtain ⟨X, hX⟩ : ∃ X, X = w2.heap.size := ⟨_, rfl⟩
    obtain ⟨W0, hW0⟩ : ∃ W0, W0 = (w2.alloc (.cells #[.pointer (some ⟨o, 0, none⟩)] 124)).alloc (.cells #[.pointer (some ⟨m, 0, none⟩)] 124) := ⟨_, rfl⟩
    have hg0 : Gr w2 W0 := by rw [hW0]; exact ((Gr.refl w2).alloc _).alloc _
    have hs0 : W0.heap.size = X + 2 := by rw [hW0, hX]; simp
    have e0 : W0.cell? ⟨X, 0, none⟩ = some (.pointer (some ⟨o, 0, none⟩)) := by rw [hW0, hX]; exact ((Boxed.new w2 _ _).alloc _).cell
    have e1 : W0.cell? ⟨X + 1, 0, none⟩ = some (.pointer (some ⟨m, 0, none⟩)) := by
      rw [hW0, hX]
      have := Boxed.new (w2.alloc (.cells #[.pointer (some ⟨o, 0, none⟩)] 124)) 124 (.pointer (some ⟨m, 0, none⟩))
      rw [World.size_alloc] at this
      exact this.cell
    have hz1 := HG1.out.size
    have hz2 := HG2.out.size
    have o1 := HE.out.hm
    have o2 := HE.out.v1.hp
    have o3 := HE.out.v1.hb
    have o4 := HE.out.v2.hp
    have o5 := HE.out.v2.hb
    have j1 := HE2.out.hm
    have j2 := HE2.out.v1.hp
    have j3 := HE2.out.v1.hb
    have j4 := HE2.out.v2.hp
    have j5 := HE2.out.v2.hb
    have hx := HX.out
    rw [← hX] at hz2 j1 j2 j3 j4 j5
    have HG0 := hid ((HG1.out.trans HG2.out).trans hg0)
    have HE0 := hid (HE.out.gr HG0.out)
    have HEO := hid (HE2.out.gr hg0)
    have HOG := hid (HG2.out.trans hg0)
    have hgood := HE.out.good
    have HC0 := hid (And.intro e0 e1)
    have HW1 := hid (show w.heap.size ≤ w1.heap.size from hz1)
    rw [← hW0, ← hX]
    clear hW0 hX hg0 e0 e1
    have hml : ∀ i, mine o r1 r2 i → w1.heap.size ≤ i ∧ i < X := fun i h => by rcases h with rfl | rfl | rfl <;> omega
    have h00 : FwdI W0 o q1 r1 q2 r2 n L 0 W0 := ⟨Touch.refl _ _, Nat.zero_le _, HEO.out⟩
    have tI : ∀ j A B, FwdI W0 o q1 r1 q2 r2 n L j A → Touch (fun i => W0.heap.size ≤ i) A B → FwdI W0 o q1 r1 q2 r2 n L j B := fun j A B h t =>
      ⟨h.t.trans (t.mono (fun i _ h => .inr h)), h.jl, h.ext.touch t (by omega) (by omega) (by omega) (by omega) (by omega)⟩
    refine range_lawT (s0 := 0) rfl (by omega) (gf := 150) (lb := #[.pointer (some ⟨X + 1, 0, none⟩)]) rfl trivial (enters_of Tryz.func150 (by kernel_rfl) rfl)
      (all_seq _ (X + 1) m p1 b1 p2 b2 n L _) (fun _ => rfl)
      (FwdI W0 o q1 r1 q2 r2 n L) (fun _ _ => False) tI (fun _ _ _ h _ => h)
      (fun j A h => ⟨HE0.out.touch h.t (fun h => by rcases h with h | h; have := hml _ h; omega; omega) (fun h => by rcases h with h | h; have := hml _ h; omega; omega) (fun h => by rcases h with h | h; have := hml _ h; omega; omega) (fun h => by rcases h with h | h; have := hml _ h; omega; omega) (fun h => by rcases h with h | h; have := hml _ h; omega; omega),
        (HG0.out.tab HT.out.lt HT.out).touch' h.t (fun h => by rcases h with h | h; have := hml _ h; omega; omega), (h.t.cell (by omega) (fun h => by rcases h with h | h; have := hml _ h; omega; omega) 0).trans HC0.out.2, h.jl⟩)
      h00 ?round ?done (fun _ _ _ _ h _ => h.elim)
    case round =>
      intro lp j x W3 hsz3 hI3 hgv
      dsimp only [encO]
      gi_wp2
      refine ⟨Gr.refl _, fun W4 ht4 hI4 => ?_⟩
      have hjl : j < L.length := by
        rcases Nat.lt_or_ge j L.length with h | h
        · exact h
        · unfold AllGives at hgv; rw [List.getElem?_eq_none h] at hgv; cases hgv
      obtain rfl : x = L[j] := by unfold AllGives at hgv; rw [List.getElem?_eq_getElem hjl] at hgv; exact (Option.some.inj hgv).symm
      have hsz' := hgood.sz _ (List.getElem_mem hjl)
      have HLV := hid (add_next hgood hjl)
      have c6 := (hI4.t.cell (b := X) (by omega) (fun h => by rcases h with h | h; have := hml _ h; omega; omega) 0).trans HC0.out.1
      have HTA := hid ((HG0.out.tab HT.out.lt HT.out).touch' hI4.t (fun h => by rcases h with h | h; have := hml _ h; omega; omega))
      have HI4 := hid hI4
      clear hI4 hI3 ht4 hgv
      gi_wp2_with (refine ⟨trivial, ?_⟩; gi_at_call 148; refine (CallsIn.inRound lp (callsIn_wide.2 (ext_add HI4.out.ext HTA.out _ _))).mono ?_; rintro e w5 ⟨rfl, ht5, hv5⟩)
      rw [HLV.out] at hv5
      exact ⟨ht5.mono (fun i _ h => by have := hml _ h; omega), j + 1, rfl, HI4.out.t.trans (ht5.mono (fun i _ h => .inl h)), by omega, hv5⟩
    case done =>
      rintro D j W3 hD rfl hI3 hK
      have c6 := (hI3.t.cell (b := X) (by omega) (fun h => by rcases h with h | h; have := hml _ h; omega; omega) 0).trans HC0.out.1
      have hE3 := hI3.ext
      rw [List.take_length] at hE3
      have HE3 := hid hE3
      have HS3 := hid ((HOG.out.touch (fun i => w1.heap.size ≤ i)).trans' hI3.t (fun i hi h => by rcases h with h | h; exact (hml _ h).1; omega))
      have HK := hid hK
      have HD := hid hD
      have hg3 : Gr w W3 := ((HG0.out.touch (fun _ => False)).trans' hI3.t (fun i hi h => by rcases h with h | h; have := hml _ h; omega; omega)).gr
      have HG3 := hid hg3
      have hz6 := hI3.t.size
      clear hE3 hI3 hK hD hg3
      gi_wp2
      obtain ⟨O, hO⟩ : ∃ O : Obj, O = .cells #[.pointer (some ⟨t, 0, none⟩), .pointer (some ⟨o, 0, none⟩), .int .i64 base] 195 := ⟨_, rfl⟩
      rw [← hO]
      have hD5 : (W3.alloc O).heap[D]? = some (.deferred (some [])) := (((Gr.refl W3).alloc _).block (Array.getElem?_eq_some_iff.1 HK.out).1).trans HK.out
      have tt := ((HG3.out.alloc O).touch (fun _ => False)).trans' (touch_putObj _ D (.deferred none) (Nat.le_refl D)) (fun i hi h => by have := HD.out; have := HG0.out.size; omega)
      refine ⟨by simp, .inl ⟨_, _, rfl, run_takeDeferred hD5, ?_⟩⟩
      refine ⟨.tuple #[.pointer (some ⟨W3.heap.size, 0, none⟩), .int .i64 0], ?_, tt.gr, .inr ⟨HGO.out, W3.heap.size, B, base, HKB.out, rfl, rfl, ?_⟩⟩
      · simp [results, Tryz.f84, go_sem]
      · have t5 := touch_put1 (W3.alloc O) D (.deferred none)
        have hdl := (Array.getElem?_eq_some_iff.1 HK.out).1
        have hd := HD.out
        have hl : W3.heap.size < (W3.alloc O).heap.size := by rw [World.size_alloc]; omega
        subst hO
        exact ⟨Nat.lt_of_lt_of_le hl t5.size, by omega, by omega, t, o, q1, r1, q2, r2, (t5.cell (b := W3.heap.size) hl (by omega) 0).trans (World.cell?_alloc_new ..), (t5.cell (b := W3.heap.size) hl (by omega) 1).trans (World.cell?_alloc_new ..), (t5.cell (b := W3.heap.size) hl (by omega) 2).trans (World.cell?_alloc_new ..),
          HOT.out.touch ((HS3.out.trans (((Gr.refl W3).alloc _).touch _)).trans' t5 (fun i hi h => by omega)) (fun k _ h1 h2 => by omega), (HE3.out.gr ((Gr.refl _).alloc _)).touch t5 (by omega) (by omega) (by omega) (by omega) (by omega), by omega, by omega, by omega, by omega, by omega⟩
end Go.Proofs.YtbmidhlilafgeaaGreatDoor
end
