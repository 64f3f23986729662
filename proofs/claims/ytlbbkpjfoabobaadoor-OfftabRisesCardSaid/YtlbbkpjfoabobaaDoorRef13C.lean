/- The reference of layer 13: Drop, Add. -/
import Derived.Test.YtlbbkpjfoabobaaDoorRef13B
namespace Go.Proofs.YtlbbkpjfoabobaaDoor
open Go.RowKit Word

theorem OwnO.push {w : World} {base : Nat} {v : Value} {M : List Ob} {o : Ob} (h : w.ownsRow base 96 2 v (M.length + 1) (flatO M ++ [.int .i64 (o.1 : Nat), .int .i64 (o.2 : Nat)])) : OwnO w base v (M ++ [o]) := by
  unfold OwnO
  rw [flatO_append, List.length_append]
  exact h
theorem OwnO.gr {w w' : World} {base : Nat} {v : Value} {M : List Ob} (h : OwnO w base v M) (t : Gr w w') : OwnO w' base v M := own_gr h t
theorem OwnO.nil (w : World) (base : Nat) : OwnO w base (.slice none 0 0) [] := own_nil w base _ _
/-- Behind one more element. -/
theorem push_touch {w wr w1 : World} {o : Obj} {v : Value} {M : List Ob} (ht : Touch (fun k => w.heap.size ≤ k) w wr) (ho : OwnO wr w.heap.size v M) (hg : (wr.alloc o).grownBy w1 v.ownBlock) : Touch (fun k => w.heap.size ≤ k) w w1 :=
  (ht.alloc o).trans (grown_touch hg _ (fun _ e _ => (own_lt ho e).1))
theorem touch_old {w w' : World} (h : Touch (fun k => w.heap.size ≤ k) w w') : Gr w w' := (h.mono (T := fun _ => False) (fun k hk h => by omega)).gr

/-- Where Drop's loop stands. -/
def dropS (L : List Ob) (s : Int) (k : Nat) (z : Int) (b : Bool) : Prop :=
  (∃ j, ∃ h : j < L.length, j < k ∧ (L[j].1 : Int) = s ∧ z = (L[j].2 : Nat) ∧ b = true) ∨ ((∀ j (h : j < L.length), j < k → (L[j].1 : Int) ≠ s) ∧ z = 0 ∧ b = false)
theorem dropS_end {n : Nat} {L : List Ob} (hg : Good n L) {s z : Int} {b : Bool} (h : dropS L s L.length z b) : z = dropV L s ∧ b = decide (startO L s < L.length) := by
  rcases h with ⟨j, hj, _, h1, rfl, rfl⟩ | ⟨h1, rfl, rfl⟩
  · have hs : startO L s < L.length := by
      rcases Nat.lt_or_ge (startO L s) L.length with h | h
      · exact h
      · exact absurd h1 (startO_no (by omega) _ (List.getElem_mem hj))
    have e := hg.inj (List.getElem_mem hj) (List.getElem_mem hs) (by have := startO_yes hs; omega)
    unfold dropV
    rw [dif_pos hs, decide_eq_true hs, ← e]
    exact ⟨rfl, rfl⟩
  · have hs : ¬ startO L s < L.length := fun h => h1 _ h h (startO_yes h)
    unfold dropV
    rw [dif_neg hs, decide_eq_false hs]
    exact ⟨rfl, rfl⟩
theorem drop_take_eq {L : List Ob} {k : Nat} (hk : k < L.length) {s : Int} (h : (L[k].1 : Int) = s) : dropL (L.take (k + 1)) s = dropL (L.take k) s := by
  unfold dropL
  rw [List.take_succ_eq_append_getElem hk, List.filter_append]
  simp [h]
theorem drop_take_ne {L : List Ob} {k : Nat} (hk : k < L.length) {s : Int} (h : (L[k].1 : Int) ≠ s) : dropL (L.take (k + 1)) s = dropL (L.take k) s ++ [L[k]] := by
  unfold dropL
  rw [List.take_succ_eq_append_getElem hk, List.filter_append]
  simp [h]
theorem drop_take_le (L : List Ob) (k : Nat) (s : Int) : (dropL (L.take k) s).length ≤ L.length := by
  unfold dropL
  exact Nat.le_trans (List.length_filter_le _ _) (by rw [List.length_take]; omega)

/-- What a list that comes back is: it lies, and its block is the old one or new. -/
def BackO (w : World) (A : Option Addr) (L : List Ob) (v : Value) (w' : World) : Prop :=
  Gr w w' ∧ ∃ A' c, v = .slice A' L.length c ∧ ObjsAt w' A' L ∧ ∀ a, A' = some a → A = some a ∨ w.heap.size ≤ a.block
theorem backO_own {w w' : World} {A : Option Addr} {L : List Ob} {v : Value} (ht : Touch (fun k => w.heap.size ≤ k) w w') (h : OwnO w' w.heap.size v L) : BackO w A L v w' := by
  obtain ⟨A', c, rfl, h1, h2⟩ := own_objs h
  exact ⟨touch_old ht, A', c, rfl, h1, fun a e => .inr (h2 a e)⟩
def DropBack (w : World) (A : Option Addr) (L : List Ob) (s : Int) (e : Ending) (w' : World) : Prop :=
  ∃ v, e = .returned (.tuple #[v, .int .i64 (dropV L s), .bool (decide (startO L s < L.length))]) ∧ BackO w A (dropL L s) v w'

set_option maxRecDepth 100000 in
set_option maxHeartbeats 1600000 in
theorem ref13_drop {w : World} {A : Option Addr} {c : Nat} {L : List Ob} (hA : ObjsAt w A L) {n : Nat} (hg : Good n L) (hn : n ≤ 1048576) (s : Int) :
    Calls Tryd.prog 55 #[.slice A L.length c, .int .i64 s] w (DropBack w A L s) := by
  obtain ⟨i0, hi, hz0, hz1, hz2⟩ := info_parts infoOb
  have HA := hid hA
  have HG := hid hg
  have hlen := hg.len
  clear hA hg
  go_enter Tryd.func55, Tryd.ntmps55
  go_wp2
  go_loopw [7, 8, 9, 10] (fun s7 s8 s9 i wr => ∃ (k : Nat) (M : List Ob) (z : Int) (b : Bool), k ≤ L.length ∧ Hid (M = dropL (L.take k) s) ∧ Hid (OwnO wr w.heap.size s7 M) ∧ Hid (Touch (fun k => w.heap.size ≤ k) w wr) ∧ Hid (dropS L s k z b) ∧ s8 = .int .i64 z ∧ s9 = .bool b ∧ i = .int .i64 k) (fun _ _ _ i _ => L.length - (intOf i).toNat)
  case atStart => exact ⟨0, [], 0, false, by omega, ⟨rfl⟩, ⟨OwnO.nil _ _⟩, ⟨Touch.refl _ _⟩, ⟨.inr ⟨fun j _ h => by omega, rfl, rfl⟩⟩, rfl, rfl, rfl⟩
  case round =>
    obtain ⟨k, M, z, b, hk, hM, hO, ht, hD, rfl, rfl, rfl⟩ := hrel
    by_cases hlt : k < L.length
    · obtain ⟨g, rfl, hgl, q1, q2⟩ := HA.out k hlt
      have q1 := (ht.out.cell hgl (by omega) _).trans q1
      have q2 := (ht.out.cell hgl (by omega) _).trans q2
      by_cases he : (L[k].1 : Int) = s
      · have HM : Hid (M = dropL (L.take (k + 1)) s) := ⟨by rw [drop_take_eq hlt he, hM.out]⟩
        have HD : Hid (dropS L s (k + 1) (L[k].2 : Nat) true) := ⟨.inl ⟨k, hlt, by omega, he, rfl, rfl⟩⟩
        have d1 : ((L[k].1 : Int) == s) = true := by simp [he]
        have hsz := HG.out.sz _ (List.getElem_mem hlt)
        clear he hM hD
        generalize L[k].1 = s1 at *
        generalize L[k].2 = z1 at *
        go_wp2
        go_roundw
        case rel => exact ⟨k + 1, M, _, _, by omega, HM, hO, ht, HD, rfl, rfl, by go_num⟩
        case measure => simp [intOf]; omega
      · have HM : Hid (M ++ [L[k]] = dropL (L.take (k + 1)) s) := ⟨by rw [drop_take_ne hlt he, hM.out]⟩
        have HD : Hid (dropS L s (k + 1) z b) := ⟨by
          rcases hD.out with ⟨j, hj, h1, h2⟩ | ⟨h1, h2⟩
          · exact .inl ⟨j, hj, by omega, h2⟩
          · refine .inr ⟨fun j hj h => ?_, h2⟩
            rcases Nat.lt_or_ge j k with h3 | h3
            · exact h1 j hj h3
            · obtain rfl : j = k := by omega
              exact he⟩
        have d1 : ((L[k].1 : Int) == s) = false := beq_eq_false_iff_ne.2 he
        have hMl : M.length ≤ L.length := by rw [hM.out]; exact drop_take_le L k s
        have hws := ht.out.size
        clear he hM hD
        obtain ⟨o, ho⟩ : ∃ o, o = L[k] := ⟨_, rfl⟩
        rw [← ho] at q1 q2 d1 HM
        clear ho
        go_wp2_with (at_builtin; refine wpList_append_own _ rfl _ _ 77 rfl w.heap.size 96 i0 _ 2 16 Tryd.underlying77 hi hz0 hz1 hz2 rfl (by decide) u7 M.length (flatO M) rfl (hO.out.gr ((Gr.refl _).alloc _)) ⟨wr.heap.size, 0, none⟩ 1 1 [.int .i64 (o.1 : Nat), .int .i64 (o.2 : Nat)] rfl rfl (World.news_of_block (cs := #[.int .i64 (o.1 : Nat), .int .i64 (o.2 : Nat)]) (t := 96) (fr := (0, 0)) (heap_alloc_new wr _)) (by simp [Value.oneCell']) (by unfold maxLen; omega) (by omega) (by simp; omega) ?_; intro v' w1 hown1 hgrow1 _)
        have HO1 := hid (OwnO.push hown1)
        have HT1 := hid (push_touch ht.out hO.out hgrow1)
        clear hown1 hgrow1
        go_wp2
        go_roundw
        case rel => exact ⟨k + 1, _, _, _, by omega, HM, HO1, HT1, HD, rfl, rfl, by go_num⟩
        case measure => simp [intOf]; omega
    · obtain rfl : k = L.length := by omega
      have E := hid (dropS_end HG.out hD.out)
      have HM : Hid (M = dropL L s) := ⟨by rw [hM.out, List.take_length]⟩
      clear hD hM
      go_wp2
      go_ret3
      refine ⟨u7, ?_, backO_own ht.out (by rw [← HM.out]; exact hO.out)⟩
      rw [← E.out.1, ← E.out.2]
      rfl
end Go.Proofs.YtlbbkpjfoabobaaDoor
