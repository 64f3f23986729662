/- The reference of layer 13: a row of objects. What only reads. The reference of layer 13: Word; a row of objects that grows. The reference of layer 13: Drop, Add. The reference of layer 13: Add; told. -/
import Derived.Test.YtbmidhlilafgeaaGreatDoorK5
import Derived.Test.YtbmidhlilafgeaaGreatDoorK2
import Derived.Test.YtbmidhlilafgeaaGreatDoorK4
import Derived.Test.YtbmidhlilafgeaaGreatDoorK7
section
namespace Go.Proofs.YtbmidhlilafgeaaGreatDoor
open Go.RowKit Word

/-- The objects L lie behind A, two cells each. -/
def ObjsAt (w : World) (A : Option Addr) (L : List Ob) : Prop := ∀ i (h : i < L.length), ∃ g, A = some ⟨g, 0, none⟩ ∧ g < w.heap.size ∧
  w.cell? ⟨g, i * 2, none⟩ = some (.int .i64 (L[i].1 : Nat)) ∧ w.cell? ⟨g, i * 2 + 1, none⟩ = some (.int .i64 (L[i].2 : Nat))
theorem ObjsAt.touch {S : Nat → Prop} {w w' : World} {A : Option Addr} {L : List Ob} (h : ObjsAt w A L) (t : Touch S w w') (hS : ∀ a, A = some a → ¬ S a.block) : ObjsAt w' A L := fun i hi => by
  obtain ⟨g, rfl, h1, h2, h3⟩ := h i hi
  have hn := hS _ rfl
  exact ⟨g, rfl, Nat.lt_of_lt_of_le h1 t.size, (t.cell h1 hn _).trans h2, (t.cell h1 hn _).trans h3⟩
theorem ObjsAt.gr {w w' : World} {A : Option Addr} {L : List Ob} (h : ObjsAt w A L) (t : Gr w w') : ObjsAt w' A L := h.touch (t.touch (fun _ => False)) (fun _ _ h => h)
/-- The place number j, -1 behind the last. -/
def idxI (L : List Ob) (j : Nat) : Int := if j < L.length then j else -1

set_option maxRecDepth 100000 in
set_option maxHeartbeats 800000 in
theorem ref13_find {w : World} {A : Option Addr} {c : Nat} {L : List Ob} (hA : ObjsAt w A L) {n : Nat} (hg : Good n L) (hn : n ≤ 1048576) (a : Int) (ha : a ≤ 9223372036854775807) :
    Gets Tryz.prog 188 #[.slice A L.length c, .int .i64 a] w (.int .i64 (idxI L (findO L a))) := by
  unfold Gets
  have HA := hid hA
  have HG := hid hg
  have hlen := hg.len
  clear hA hg
  go_enter Tryz.func188, Tryz.ntmps188
  go_wp2
  go_loopw [5] (fun i wr => ∃ k : Nat, k ≤ L.length ∧ Hid (Gr w wr) ∧ Hid (∀ i (h : i < L.length), i < k → ¬ ((L[i].1 : Int) ≤ a ∧ a < L[i].1 + L[i].2)) ∧ i = .int .i64 k) (fun i _ => L.length - (intOf i).toNat)
  case atStart => exact ⟨0, by omega, ⟨Gr.refl w⟩, ⟨fun i _ h => by omega⟩, rfl⟩
  case round =>
    obtain ⟨k, hk, hgr, hno, rfl⟩ := hrel
    by_cases hlt : k < L.length
    · obtain ⟨g, rfl, -, q1, q2⟩ := (HA.out.gr hgr.out) k hlt
      have hsz := HG.out.sz _ (List.getElem_mem hlt)
      obtain ⟨s, hs⟩ : ∃ s, s = L[k].1 := ⟨_, rfl⟩
      obtain ⟨z, hz⟩ : ∃ z, z = L[k].2 := ⟨_, rfl⟩
      rw [← hs] at q1
      rw [← hz] at q2
      rw [← hs, ← hz] at hsz
      by_cases h1 : (s : Int) ≤ a
      · have d1 : decide ((s : Int) ≤ a) = true := by simp [h1]
        by_cases h2 : a - s < z
        · have d2 : decide (a - (s : Int) < (z : Int)) = true := by simp [h2]
          have E : Hid (findO L a = k) := ⟨findO_eq HG.out hlt (by rw [← hs]; exact h1) (by rw [← hs, ← hz]; omega)⟩
          clear hs hz hno
          go_wp2
          go_quiet (fail)
          go_wp2
          go_ret
          exact ⟨ret_int (by rw [E.out]; unfold idxI; rw [if_pos hlt]), hgr.out.drewN _⟩
        · have d2 : decide (a - (s : Int) < (z : Int)) = false := by simp; omega
          have HN : Hid (∀ i (h : i < L.length), i < k + 1 → ¬ ((L[i].1 : Int) ≤ a ∧ a < L[i].1 + L[i].2)) := ⟨fun i h hi => by
            rcases Nat.lt_or_ge i k with h3 | h3
            · exact hno.out i h h3
            · obtain rfl : i = k := by omega
              rw [← hs, ← hz]; omega⟩
          clear hs hz hno
          go_wp2
          go_quiet (fail)
          go_wp2
          go_roundw
          case rel => exact ⟨k + 1, by omega, ⟨hgr.out.drewN _⟩, HN, by go_num⟩
          case measure => simp [intOf]; omega
      · have d1 : decide ((s : Int) ≤ a) = false := by simp; omega
        have HN : Hid (∀ i (h : i < L.length), i < k + 1 → ¬ ((L[i].1 : Int) ≤ a ∧ a < L[i].1 + L[i].2)) := ⟨fun i h hi => by
          rcases Nat.lt_or_ge i k with h3 | h3
          · exact hno.out i h h3
          · obtain rfl : i = k := by omega
            rw [← hs, ← hz]; omega⟩
        clear hs hz hno
        go_wp2
        go_quiet (fail)
        go_wp2
        go_roundw
        case rel => exact ⟨k + 1, by omega, ⟨hgr.out.drewN _⟩, HN, by go_num⟩
        case measure => simp [intOf]; omega
    · have E : Hid (findO L a = L.length) := ⟨findO_none (fun o ho => by
        obtain ⟨i, hi, rfl⟩ := List.getElem_of_mem ho
        exact hno.out i hi (by omega))⟩
      clear hno
      go_wp2
      go_ret
      exact ⟨ret_int (by rw [E.out]; unfold idxI; rw [if_neg (Nat.lt_irrefl _)]), hgr.out⟩

theorem liveN_succ (L : List Ob) (n : Nat) (f t : Int) : liveN L (n + 1) f t = liveN L n f t + if f ≤ n ∧ (n : Int) < t ∧ findO L n < L.length then 1 else 0 := by
  unfold liveN
  rw [cnt_succ, liveB_find]
  by_cases h1 : f ≤ (n : Int) <;> by_cases h2 : (n : Int) < t <;> by_cases h3 : findO L n < L.length <;> simp [h1, h2, h3]
theorem idxI_ge (L : List Ob) (j : Nat) : decide (0 ≤ idxI L j) = decide (j < L.length) := by unfold idxI; split <;> simp_all
end Go.Proofs.YtbmidhlilafgeaaGreatDoor
end

section
namespace Go.Proofs.YtbmidhlilafgeaaGreatDoor
open Go.RowKit Word

/-- Of a negative number it may tell anything. -/
def Tells2 (e : Ending) : Prop := ∃ x b, e = .returned (.tuple #[.int .i64 x, .bool b])
/-! A row that grows -/
def flatO (L : List Ob) : List Value := L.flatMap fun o => [.int .i64 (o.1 : Nat), .int .i64 (o.2 : Nat)]
theorem flatO_append (L M : List Ob) : flatO (L ++ M) = flatO L ++ flatO M := by simp [flatO]
theorem flatO_len (L : List Ob) : (flatO L).length = L.length * 2 := by
  induction L with
  | nil => rfl
  | cons o r ih => simp [flatO] at ih ⊢; omega
theorem flatO_at {L : List Ob} {i : Nat} (h : i < L.length) : (flatO L)[i * 2]? = some (.int .i64 (L[i].1 : Nat)) ∧ (flatO L)[i * 2 + 1]? = some (.int .i64 (L[i].2 : Nat)) := by
  induction L generalizing i with
  | nil => exact absurd h (Nat.not_lt_zero _)
  | cons o r ih =>
    have e : flatO (o :: r) = .int .i64 (o.1 : Nat) :: .int .i64 (o.2 : Nat) :: flatO r := rfl
    rw [e]
    cases i with
    | zero => exact ⟨rfl, rfl⟩
    | succ i =>
      have := ih (i := i) (by simpa using h)
      rw [show (i + 1) * 2 = i * 2 + 1 + 1 by omega]
      simpa using this
def OwnO (w : World) (base : Nat) (v : Value) (L : List Ob) : Prop := w.ownsRow base 120 2 v L.length (flatO L)
theorem own_objs {w : World} {base : Nat} {v : Value} {L : List Ob} (h : OwnO w base v L) : ∃ A c, v = .slice A L.length c ∧ ObjsAt w A L ∧ ∀ a, A = some a → base ≤ a.block := by
  by_cases hn : L.length = 0
  · obtain ⟨_, ⟨rfl, _⟩ | ⟨g, c, cur, rfl, e2, _⟩⟩ := h
    · exact ⟨none, 0, by rw [hn], fun i hi => by omega, fun a e => by cases e⟩
    · exact ⟨some ⟨g, 0, none⟩, c, rfl, fun i hi => by omega, fun a e => by cases e; exact e2⟩
  · obtain ⟨g, c, rfl, h1, _, _, h4⟩ := own_form h hn
    exact ⟨_, c, rfl, fun i hi => ⟨g, rfl, h4, own_cell h (flatO_at hi).1, own_cell h (flatO_at hi).2⟩, fun a e => by cases e; exact h1⟩
theorem insO_step {M : List Ob} {o x : Ob} : (∃ y ∈ M, o.1 < y.1) → insO (M ++ [x]) o = insO M o ++ [x] := by
  induction M with
  | nil => rintro ⟨y, h, _⟩; cases h
  | cons q r ih =>
    rintro ⟨y, hy, hl⟩
    show insO (q :: (r ++ [x])) o = insO (q :: r) o ++ [x]
    unfold insO
    by_cases h : o.1 < q.1
    · rw [if_pos h, if_pos h]; rfl
    · rw [if_neg h, if_neg h]
      rcases List.mem_cons.1 hy with rfl | hy
      · exact absurd hl h
      · rw [ih ⟨y, hy, hl⟩]; rfl
theorem insO_last {M : List Ob} {o : Ob} (h : ∀ y ∈ M, ¬ o.1 < y.1) : insO M o = M ++ [o] := by
  induction M with
  | nil => rfl
  | cons q r ih =>
    unfold insO
    rw [if_neg (h q (by simp)), ih (fun y hy => h y (by simp [hy]))]; rfl
theorem insO_here {M : List Ob} {o x : Ob} (h : ∀ y ∈ M, ¬ o.1 < y.1) (hx : o.1 < x.1) : insO (M ++ [x]) o = M ++ [o] ++ [x] := by
  induction M with
  | nil => show insO [x] o = _; unfold insO; rw [if_pos hx]; rfl
  | cons q r ih =>
    show insO (q :: (r ++ [x])) o = _
    unfold insO
    rw [if_neg (h q (by simp)), ih (fun y hy => h y (by simp [hy]))]; rfl
theorem infoOb : (Tryz.prog.info? 120).map (fun i => (i.zero, i.size, i.bytes)) = some (some (.agg #[.int .i64 0, .int .i64 0]), 2, 16) := by kernel_rfl
end Go.Proofs.YtbmidhlilafgeaaGreatDoor
end

section
namespace Go.Proofs.YtbmidhlilafgeaaGreatDoor
open Go.RowKit Word

theorem OwnO.push {w : World} {base : Nat} {v : Value} {M : List Ob} {o : Ob} (h : w.ownsRow base 120 2 v (M.length + 1) (flatO M ++ [.int .i64 (o.1 : Nat), .int .i64 (o.2 : Nat)])) : OwnO w base v (M ++ [o]) := by
  unfold OwnO
  rw [flatO_append, List.length_append]
  exact h
theorem OwnO.gr {w w' : World} {base : Nat} {v : Value} {M : List Ob} (h : OwnO w base v M) (t : Gr w w') : OwnO w' base v M := own_gr h t
theorem OwnO.nil (w : World) (base : Nat) : OwnO w base (.slice none 0 0) [] := own_nil w base _ _
/-- Behind one more element. -/
theorem push_touch {w wr w1 : World} {o : Obj} {v : Value} {M : List Ob} (ht : Touch (fun k => w.heap.size ≤ k) w wr) (ho : OwnO wr w.heap.size v M) (hg : (wr.alloc o).grownBy w1 v.ownBlock) : Touch (fun k => w.heap.size ≤ k) w w1 :=
  (ht.alloc o).trans (grown_touch hg _ (fun _ e _ => (own_lt ho e).1))
theorem touch_old {w w' : World} (h : Touch (fun k => w.heap.size ≤ k) w w') : Gr w w' := (h.mono (T := fun _ => False) (fun k hk h => by omega)).gr

/-- Where Drop's loop stands. -/
def dropS (L : List Ob) (s : Int) (k : Nat) (z : Int) (b : Bool) : Prop :=
  (∃ j, ∃ h : j < L.length, j < k ∧ (L[j].1 : Int) = s ∧ z = (L[j].2 : Nat) ∧ b = true) ∨ ((∀ j (h : j < L.length), j < k → (L[j].1 : Int) ≠ s) ∧ z = 0 ∧ b = false)
theorem dropS_end {n : Nat} {L : List Ob} (hg : Good n L) {s z : Int} {b : Bool} (h : dropS L s L.length z b) : z = dropV L s ∧ b = decide (startO L s < L.length) := by
  rcases h with ⟨j, hj, _, h1, rfl, rfl⟩ | ⟨h1, rfl, rfl⟩
  · have hs : startO L s < L.length := by
      rcases Nat.lt_or_ge (startO L s) L.length with h | h
      · exact h
      · exact absurd h1 (startO_no (by omega) _ (List.getElem_mem hj))
    have e := hg.inj (List.getElem_mem hj) (List.getElem_mem hs) (by have := startO_yes hs; omega)
    unfold dropV
    rw [dif_pos hs, decide_eq_true hs, ← e]
    exact ⟨rfl, rfl⟩
  · have hs : ¬ startO L s < L.length := fun h => h1 _ h h (startO_yes h)
    unfold dropV
    rw [dif_neg hs, decide_eq_false hs]
    exact ⟨rfl, rfl⟩
theorem drop_take_eq {L : List Ob} {k : Nat} (hk : k < L.length) {s : Int} (h : (L[k].1 : Int) = s) : dropL (L.take (k + 1)) s = dropL (L.take k) s := by
  unfold dropL
  rw [List.take_succ_eq_append_getElem hk, List.filter_append]
  simp [h]
theorem drop_take_ne {L : List Ob} {k : Nat} (hk : k < L.length) {s : Int} (h : (L[k].1 : Int) ≠ s) : dropL (L.take (k + 1)) s = dropL (L.take k) s ++ [L[k]] := by
  unfold dropL
  rw [List.take_succ_eq_append_getElem hk, List.filter_append]
  simp [h]
theorem drop_take_le (L : List Ob) (k : Nat) (s : Int) : (dropL (L.take k) s).length ≤ L.length := by
  unfold dropL
  exact Nat.le_trans (List.length_filter_le _ _) (by rw [List.length_take]; omega)

/-- What a list that comes back is: it lies, and its block is the old one or new. -/
def BackO (w : World) (A : Option Addr) (L : List Ob) (v : Value) (w' : World) : Prop :=
  Gr w w' ∧ ∃ A' c, v = .slice A' L.length c ∧ ObjsAt w' A' L ∧ ∀ a, A' = some a → A = some a ∨ w.heap.size ≤ a.block
theorem backO_own {w w' : World} {A : Option Addr} {L : List Ob} {v : Value} (ht : Touch (fun k => w.heap.size ≤ k) w w') (h : OwnO w' w.heap.size v L) : BackO w A L v w' := by
  obtain ⟨A', c, rfl, h1, h2⟩ := own_objs h
  exact ⟨touch_old ht, A', c, rfl, h1, fun a e => .inr (h2 a e)⟩
def DropBack (w : World) (A : Option Addr) (L : List Ob) (s : Int) (e : Ending) (w' : World) : Prop :=
  ∃ v, e = .returned (.tuple #[v, .int .i64 (dropV L s), .bool (decide (startO L s < L.length))]) ∧ BackO w A (dropL L s) v w'

end Go.Proofs.YtbmidhlilafgeaaGreatDoor
end

section
namespace Go.Proofs.YtbmidhlilafgeaaGreatDoor
open Go.RowKit Word

/-- Where Add's second loop stands. -/
def addS (L : List Ob) (o : Ob) (k : Nat) (d : Bool) (M : List Ob) : Prop :=
  (d = false ∧ M = L.take k ∧ ∀ y ∈ L.take k, ¬ o.1 < y.1) ∨ (d = true ∧ M = insO (L.take k) o ∧ ∃ y ∈ L.take k, o.1 < y.1)
theorem addS_len {L : List Ob} {o : Ob} {k : Nat} {d : Bool} {M : List Ob} (h : addS L o k d M) : M.length ≤ L.length + 1 := by
  rcases h with ⟨_, rfl, _⟩ | ⟨_, rfl, _⟩
  · rw [List.length_take]; omega
  · rw [insO_len, List.length_take]; omega
theorem addS_here {L : List Ob} {o : Ob} {k : Nat} (hk : k < L.length) {M : List Ob} (h : addS L o k false M) (hl : o.1 < L[k].1) : addS L o (k + 1) true (M ++ [o] ++ [L[k]]) := by
  rcases h with ⟨_, rfl, h⟩ | ⟨h, _⟩
  · refine .inr ⟨rfl, ?_, L[k], ?_, hl⟩
    · rw [List.take_succ_eq_append_getElem hk, insO_here h hl]
    · rw [List.take_succ_eq_append_getElem hk]; exact List.mem_append_right _ (List.mem_singleton.2 rfl)
  · cases h
theorem addS_next {L : List Ob} {o : Ob} {k : Nat} (hk : k < L.length) {M : List Ob} (h : addS L o k false M) (hl : ¬ o.1 < L[k].1) : addS L o (k + 1) false (M ++ [L[k]]) := by
  rcases h with ⟨_, rfl, h⟩ | ⟨h, _⟩
  · refine .inl ⟨rfl, (List.take_succ_eq_append_getElem hk).symm, fun y hy => ?_⟩
    rw [List.take_succ_eq_append_getElem hk] at hy
    rcases List.mem_append.1 hy with hy | hy
    · exact h y hy
    · rw [List.mem_singleton.1 hy]; exact hl
  · cases h
theorem addS_on {L : List Ob} {o : Ob} {k : Nat} (hk : k < L.length) {M : List Ob} (h : addS L o k true M) : addS L o (k + 1) true (M ++ [L[k]]) := by
  rcases h with ⟨h, _⟩ | ⟨_, rfl, y, hy, hl⟩
  · cases h
  · refine .inr ⟨rfl, ?_, y, ?_, hl⟩
    · rw [List.take_succ_eq_append_getElem hk, insO_step ⟨y, hy, hl⟩]
    · rw [List.take_succ_eq_append_getElem hk]; exact List.mem_append_left _ hy
theorem addS_end {L : List Ob} {o : Ob} {M : List Ob} (h : addS L o L.length false M) : M ++ [o] = insO L o := by
  rcases h with ⟨_, rfl, h⟩ | ⟨h, _⟩
  · rw [List.take_length] at h ⊢; rw [insO_last h]
  · cases h
theorem addS_done {L : List Ob} {o : Ob} {M : List Ob} (h : addS L o L.length true M) : M = insO L o := by
  rcases h with ⟨h, _⟩ | ⟨_, rfl, _⟩
  · cases h
  · rw [List.take_length]

def AddBack (w : World) (A : Option Addr) (L : List Ob) (n : Nat) (s z : Int) (e : Ending) (w' : World) : Prop :=
  ∃ v, e = .returned (.tuple #[v, .int .i64 (addE L n s z)]) ∧ BackO w A (addL L n s z) v w'
theorem addBack_no {w w' : World} {A : Option Addr} {c : Nat} {L : List Ob} {n : Nat} {s z k : Int} (hA : ObjsAt w A L) (h : addE L n s z = k) (hk : k ≠ 0) (hg : Gr w w') : AddBack w A L n s z (.returned (.tuple #[.slice A L.length c, .int .i64 k])) w' := by
  refine ⟨_, by rw [h], hg, A, c, ?_, ?_, fun a e => .inl e⟩
  · unfold addL; rw [if_neg (by rw [h]; exact hk)]
  · unfold addL; rw [if_neg (by rw [h]; exact hk)]; exact hA.gr hg
set_option maxRecDepth 100000 in
set_option maxHeartbeats 3200000 in
theorem ref13_add {w : World} {A : Option Addr} {c : Nat} {L : List Ob} (hA : ObjsAt w A L) {n : Nat} (hg : Good n L) (hn : n ≤ 1048576) (s z : Int) :
    Calls Tryz.prog 141 #[.slice A L.length c, .int .i64 n, .int .i64 s, .int .i64 z] w (AddBack w A L n s z) := by
  have HA := hid hA
  have HG := hid hg
  have hlen := hg.len
  clear hA hg
  by_cases h0 : z < 1
  · have E : Hid (addE L n s z = 15) := ⟨by unfold addE; rw [if_pos h0]⟩
    go_enter Tryz.func141, Tryz.ntmps141
    go_wp2
    go_ret2
    exact addBack_no HA.out E.out (by decide) (Gr.refl _)
  by_cases h1 : s < 0 ∨ (n : Int) ≤ s ∨ (n : Int) - s < z
  · have E : Hid (addE L n s z = 11) := ⟨by unfold addE; rw [if_neg h0, if_pos h1]⟩
    by_cases h2 : s < 0
    · clear h1
      go_enter Tryz.func141, Tryz.ntmps141
      go_wp2
      go_ret2
      exact addBack_no HA.out E.out (by decide) (Gr.refl _)
    · by_cases h3 : (n : Int) ≤ s
      · clear h1
        go_enter Tryz.func141, Tryz.ntmps141
        go_wp2
        go_ret2
        exact addBack_no HA.out E.out (by decide) (Gr.refl _)
      · have h4 : (n : Int) - s < z := by omega
        clear h1
        go_enter Tryz.func141, Tryz.ntmps141
        go_wp2
        go_ret2
        exact addBack_no HA.out E.out (by decide) (Gr.refl _)
  · obtain ⟨s, rfl⟩ : ∃ q : Nat, s = q := ⟨s.toNat, by omega⟩
    obtain ⟨z, rfl⟩ : ∃ q : Nat, z = q := ⟨z.toNat, by omega⟩
    have hs : s < n := by omega
    have hz1 : 1 ≤ z := by omega
    have hz2 : s + z ≤ n := by omega
    have hz3 : (z : Int) ≤ (n : Int) - (s : Int) := by omega
    have hd0 : decide ((z : Int) < 1) = false := by simp; omega
    have hd1 : decide ((n : Int) - (s : Int) < (z : Int)) = false := by simp; omega
    have hd2 : decide ((s : Int) < 0) = false := by simp
    have hd3 : decide (n ≤ s) = false := by simp; omega
    have EE : Hid (∀ b, clashB L s z = b → addE L n s z = if b then 7 else 0) := ⟨fun b hb => by unfold addE; rw [if_neg h0, if_neg h1, hb]⟩
    clear h0 h1
    obtain ⟨i0, hi, hi0, hi1, hi2⟩ := info_parts infoOb
    go_enter Tryz.func141, Tryz.ntmps141
    go_wp2
    go_loopw [10] (fun s10 wr => ∃ k : Nat, k ≤ z ∧ Hid (Gr w wr) ∧ Hid (∀ o ∈ L, ∀ a : Nat, s ≤ a → a < s + k → ¬ (o.1 ≤ a ∧ a < o.1 + o.2)) ∧ s10 = .int .i64 ((s + k : Nat) : Int)) (fun s10 _ => 1048577 - (intOf s10).toNat)
    case atStart => exact ⟨0, by omega, ⟨Gr.refl w⟩, ⟨fun o _ a h1 h2 => by omega⟩, rfl⟩
    case round =>
      obtain ⟨k, hk, hgr, hno, rfl⟩ := hrel
      by_cases hlt : k < z
      · obtain ⟨a, ha⟩ : ∃ a, a = s + k := ⟨_, rfl⟩
        have hak : a < s + z := by omega
        rw [← ha]
        by_cases hf : findO L a < L.length
        · have E : Hid (addE L n s z = 7) := ⟨EE.out true (clash_iff.2 ⟨_, List.getElem_mem hf, by have := findO_yes hf; omega, by have := findO_yes hf; omega⟩)⟩
          have HD : Hid (idxI L (findO L a) = (findO L a : Nat)) := ⟨if_pos hf⟩
          have HA2 := hid (HA.out.gr hgr.out)
          clear hno hf ha
          go_wp2_with (go_at_call 188; refine (ref13_find HA2.out HG.out hn _ (by omega)).mono ?_; rintro e w1 ⟨rfl, hg1⟩; rw [HD.out]; have HG1 := hid (hgr.out.trans hg1); clear hg1)
          go_ret2
          exact addBack_no HA.out E.out (by decide) HG1.out
        · have HD : Hid (idxI L (findO L a) = -1) := ⟨if_neg hf⟩
          have HN : Hid (∀ o ∈ L, ∀ a : Nat, s ≤ a → a < s + (k + 1) → ¬ (o.1 ≤ a ∧ a < o.1 + o.2)) := ⟨fun o ho b h1 h2 => by
            rcases Nat.lt_or_ge b (s + k) with h3 | h3
            · exact hno.out o ho b h1 h3
            · obtain rfl : b = a := by omega
              obtain ⟨i, hi, rfl⟩ := List.getElem_of_mem ho
              have := findO_no (L := L) (a := b) (i := i) (by have := findO_le L b; omega) hi
              omega⟩
          have HA2 := hid (HA.out.gr hgr.out)
          have e1 : Hid (a + 1 = s + (k + 1)) := ⟨by omega⟩
          clear hno hf ha
          go_wp2_with (go_at_call 188; refine (ref13_find HA2.out HG.out hn _ (by omega)).mono ?_; rintro e w1 ⟨rfl, hg1⟩; rw [HD.out]; have HG1 := hid (hgr.out.trans hg1); clear hg1)
          go_roundw
          case rel => exact ⟨k + 1, by omega, HG1, HN, vint (by rw [← e1.out]; omega)⟩
          case measure => simp [intOf]; omega
      · obtain rfl : k = z := by omega
        have hcl : clashB L s k = false := by
          cases hc : clashB L s k with
          | false => rfl
          | true =>
            obtain ⟨o, ho, c1, c2⟩ := clash_iff.1 hc
            have hsz := HG.out.sz _ ho
            exact absurd ⟨by omega, by omega⟩ (hno.out o ho (max o.1 s) (by omega) (by omega))
        have E : Hid (addE L n s k = 0) := ⟨EE.out false hcl⟩
        have EL : Hid (addL L n s k = insO L (s, k)) := ⟨by unfold addL; rw [if_pos E.out, Int.toNat_natCast, Int.toNat_natCast]⟩
        have HG2 := hid (hgr.out.touch (fun k => w.heap.size ≤ k))
        clear hno hcl hgr EE
        rename Nat => z
        obtain ⟨ez, hez⟩ : ∃ e : Nat, e = s + z := ⟨_, rfl⟩
        have hd4 : decide ((ez : Int) < (s : Int) + (z : Int)) = false := by simp; omega
        rw [← hez]
        clear hez
        go_wp2
        go_loopw [11, 12, 13] (fun s11 s12 i w2 => ∃ (k : Nat) (d : Bool) (M : List Ob), k ≤ L.length ∧ Hid (addS L (s, z) k d M) ∧ Hid (OwnO w2 w.heap.size s11 M) ∧ Hid (Touch (fun k => w.heap.size ≤ k) w w2) ∧ s12 = .bool d ∧ i = .int .i64 k) (fun _ _ i _ => L.length - (intOf i).toNat)
        case atStart => exact ⟨0, false, [], by omega, ⟨.inl ⟨rfl, rfl, fun y hy => by cases hy⟩⟩, ⟨OwnO.nil _ _⟩, HG2, rfl, rfl⟩
        case round =>
          obtain ⟨k, d, M, hk, hS, hO, ht, rfl, rfl⟩ := hrel
          have hMl := addS_len hS.out
          have hws := ht.out.size
          by_cases hlt : k < L.length
          · obtain ⟨g, rfl, hgl, q1, q2⟩ := HA.out k hlt
            have q1 := (ht.out.cell hgl (by omega) _).trans q1
            have q2 := (ht.out.cell hgl (by omega) _).trans q2
            have HLT := hid hlt
            cases d with
            | false =>
              by_cases hl : s < L[k].1
              · have HS := hid (addS_here hlt hS.out hl)
                have d1 : decide ((s : Int) < (L[k].1 : Int)) = true := by simp; omega
                obtain ⟨o, ho⟩ : ∃ o, o = L[k] := ⟨_, rfl⟩
                rw [← ho] at q1 q2 hl d1 HS
                have HQ := hid (And.intro hgl (And.intro q1 q2))
                clear ho hS
                go_upto_region 18 with (first
                  | (at_builtin; refine wpList_append_own _ rfl _ _ 59 rfl w.heap.size 120 i0 _ 2 16 Tryz.underlying59 hi hi0 hi1 hi2 rfl (by decide) u11 _ (flatO M) rfl (hO.out.gr ((Gr.refl _).alloc _)) ⟨wr.heap.size, 0, none⟩ 1 1 [.int .i64 (s : Nat), .int .i64 (z : Nat)] rfl rfl (World.news_of_block (cs := #[.int .i64 (s : Nat), .int .i64 (z : Nat)]) (t := 120) (fr := (0, 0)) (heap_alloc_new wr _)) (by simp [Value.oneCell']) (by (try simp only [List.length_append, List.length_cons, List.length_nil]); unfold maxLen; omega) (by (try simp only [List.length_append, List.length_cons, List.length_nil]); omega) (by simp only [World.size_alloc]; omega) ?_; intro v1 x1 hown1 hgrow1 _; have HO1 := hid (OwnO.push (o := (s, z)) hown1); have HT1 := hid (push_touch ht.out hO.out hgrow1); have hws1 := HT1.out.size; clear hown1 hgrow1))
                have q1 := (HT1.out.cell HQ.out.1 (by omega) _).trans ((ht.out.cell HQ.out.1 (by omega) _).symm.trans HQ.out.2.1)
                have q2 := (HT1.out.cell HQ.out.1 (by omega) _).trans ((ht.out.cell HQ.out.1 (by omega) _).symm.trans HQ.out.2.2)
                go_wp2_with (first
                  | (at_builtin; refine wpList_append_own _ rfl _ _ 59 rfl w.heap.size 120 i0 _ 2 16 Tryz.underlying59 hi hi0 hi1 hi2 rfl (by decide) v1 _ (flatO (M ++ [(s, z)])) rfl (HO1.out.gr ((Gr.refl _).alloc _)) ⟨x1.heap.size, 0, none⟩ 1 1 [.int .i64 (o.1 : Nat), .int .i64 (o.2 : Nat)] rfl rfl (World.news_of_block (cs := #[.int .i64 (o.1 : Nat), .int .i64 (o.2 : Nat)]) (t := 120) (fr := (0, 0)) (heap_alloc_new x1 _)) (by simp [Value.oneCell']) (by (try simp only [List.length_append, List.length_cons, List.length_nil]); unfold maxLen; omega) (by (try simp only [List.length_append, List.length_cons, List.length_nil]); omega) (by simp only [World.size_alloc]; omega) ?_; intro v2 x2 hown2 hgrow2 _; have HO2 := hid (OwnO.push (o := o) hown2); have HT2 := hid (push_touch HT1.out HO1.out hgrow2); clear hown2 hgrow2))
                go_roundw
                case rel => exact ⟨k + 1, _, _, by omega, HS, HO2, HT2, rfl, by go_num⟩
                case measure => simp [intOf]; omega
              · have HS := hid (addS_next hlt hS.out hl)
                have d1 : decide ((s : Int) < (L[k].1 : Int)) = false := by simp; omega
                obtain ⟨o, ho⟩ : ∃ o, o = L[k] := ⟨_, rfl⟩
                rw [← ho] at q1 q2 hl d1 HS
                clear ho hS
                go_wp2_with (first
                  | (at_builtin; refine wpList_append_own _ rfl _ _ 59 rfl w.heap.size 120 i0 _ 2 16 Tryz.underlying59 hi hi0 hi1 hi2 rfl (by decide) u11 _ (flatO M) rfl (hO.out.gr ((Gr.refl _).alloc _)) ⟨wr.heap.size, 0, none⟩ 1 1 [.int .i64 (o.1 : Nat), .int .i64 (o.2 : Nat)] rfl rfl (World.news_of_block (cs := #[.int .i64 (o.1 : Nat), .int .i64 (o.2 : Nat)]) (t := 120) (fr := (0, 0)) (heap_alloc_new wr _)) (by simp [Value.oneCell']) (by (try simp only [List.length_append, List.length_cons, List.length_nil]); unfold maxLen; omega) (by (try simp only [List.length_append, List.length_cons, List.length_nil]); omega) (by simp only [World.size_alloc]; omega) ?_; intro v1 x1 hown1 hgrow1 _; have HO1 := hid (OwnO.push (o := o) hown1); have HT1 := hid (push_touch ht.out hO.out hgrow1); clear hown1 hgrow1))
                go_roundw
                case rel => exact ⟨k + 1, _, _, by omega, HS, HO1, HT1, rfl, by go_num⟩
                case measure => simp [intOf]; omega
            | true =>
              have HS := hid (addS_on hlt hS.out)
              obtain ⟨o, ho⟩ : ∃ o, o = L[k] := ⟨_, rfl⟩
              rw [← ho] at q1 q2 HS
              clear ho hS
              go_wp2_with (first
                | (at_builtin; refine wpList_append_own _ rfl _ _ 59 rfl w.heap.size 120 i0 _ 2 16 Tryz.underlying59 hi hi0 hi1 hi2 rfl (by decide) u11 _ (flatO M) rfl (hO.out.gr ((Gr.refl _).alloc _)) ⟨wr.heap.size, 0, none⟩ 1 1 [.int .i64 (o.1 : Nat), .int .i64 (o.2 : Nat)] rfl rfl (World.news_of_block (cs := #[.int .i64 (o.1 : Nat), .int .i64 (o.2 : Nat)]) (t := 120) (fr := (0, 0)) (heap_alloc_new wr _)) (by simp [Value.oneCell']) (by (try simp only [List.length_append, List.length_cons, List.length_nil]); unfold maxLen; omega) (by (try simp only [List.length_append, List.length_cons, List.length_nil]); omega) (by simp only [World.size_alloc]; omega) ?_; intro v1 x1 hown1 hgrow1 _; have HO1 := hid (OwnO.push (o := o) hown1); have HT1 := hid (push_touch ht.out hO.out hgrow1); clear hown1 hgrow1))
              go_roundw
              case rel => exact ⟨k + 1, _, _, by omega, HS, HO1, HT1, rfl, by go_num⟩
              case measure => simp [intOf]; omega
          · obtain rfl : k = L.length := by omega
            cases d with
            | false =>
              have HS := hid (addS_end hS.out)
              clear hS
              go_wp2_with (first
                | (at_builtin; refine wpList_append_own _ rfl _ _ 59 rfl w.heap.size 120 i0 _ 2 16 Tryz.underlying59 hi hi0 hi1 hi2 rfl (by decide) u11 _ (flatO M) rfl (hO.out.gr ((Gr.refl _).alloc _)) ⟨wr.heap.size, 0, none⟩ 1 1 [.int .i64 (s : Nat), .int .i64 (z : Nat)] rfl rfl (World.news_of_block (cs := #[.int .i64 (s : Nat), .int .i64 (z : Nat)]) (t := 120) (fr := (0, 0)) (heap_alloc_new wr _)) (by simp [Value.oneCell']) (by (try simp only [List.length_append, List.length_cons, List.length_nil]); unfold maxLen; omega) (by (try simp only [List.length_append, List.length_cons, List.length_nil]); omega) (by simp only [World.size_alloc]; omega) ?_; intro v1 x1 hown1 hgrow1 _; have HO1 := hid (OwnO.push (o := (s, z)) hown1); have HT1 := hid (push_touch ht.out hO.out hgrow1); have hws1 := HT1.out.size; clear hown1 hgrow1))
              go_ret2
              exact ⟨v1, by rw [E.out]; rfl, backO_own HT1.out (by rw [EL.out, ← HS.out]; exact HO1.out)⟩
            | true =>
              have HS := hid (addS_done hS.out)
              clear hS
              go_wp2
              go_ret2
              exact ⟨u11, by rw [E.out]; rfl, backO_own ht.out (by rw [EL.out, ← HS.out]; exact hO.out)⟩
end Go.Proofs.YtbmidhlilafgeaaGreatDoor
end
