/- The reference of layer 13: Word; a row of objects that grows. -/
import Derived.Test.YtlbbkpjfoabobaaDoorRef13
import Derived.Test.YtlbbkpjfoabobaaDoorOwn
import Derived.Test.YtlbbkpjfoabobaaDoorVecF
namespace Go.Proofs.YtlbbkpjfoabobaaDoor
open Go.RowKit Word

set_option maxRecDepth 100000 in
set_option maxHeartbeats 800000 in
theorem ref13_word {w : World} {A : Option Addr} {c : Nat} {L : List Ob} (hA : ObjsAt w A L) {n : Nat} (hg : Good n L) (hn : n ≤ 1048576) (k : Int) (hk0 : 0 ≤ k) (hk1 : k ≤ 9223372036854775807) :
    Calls Tryd.prog 63 #[.slice A L.length c, .int .i64 k] w fun e w' => e = .returned (.tuple #[.int .i64 (wordV L k), .bool (wordY L k)]) ∧ w = w' := by
  obtain ⟨q, rfl⟩ : ∃ q : Nat, k = q := ⟨k.toNat, by omega⟩
  have e1 : wordV L q = ((wordO L q).getD 0 : Nat) := by unfold wordV; rw [if_neg (by omega), Int.toNat_natCast]
  have e2 : wordY L q = (wordO L q).isSome := by unfold wordY; rw [decide_eq_true (by omega), Int.toNat_natCast]; rfl
  rw [e1, e2]
  have HA := hid hA
  have HG := hid hg
  have hlen := hg.len
  clear hA hg e1 e2 hk0
  go_enter Tryd.func63, Tryd.ntmps63
  go_wp2
  go_loop [1, 6] (fun s1 i => ∃ j K : Nat, j ≤ L.length ∧ Hid (q = sizes (L.take j) + K) ∧ K ≤ q ∧ s1 = .int .i64 K ∧ i = .int .i64 j) (fun _ i => L.length - (intOf i).toNat)
  case atStart => exact ⟨0, q, by omega, ⟨by simp [sizes]⟩, by omega, rfl, rfl⟩
  case round =>
    obtain ⟨j, K, hj, hq, hKq, rfl, rfl⟩ := hrel
    by_cases hlt : j < L.length
    · obtain ⟨g, rfl, -, q1, q2⟩ := HA.out j hlt
      have hsz := HG.out.sz _ (List.getElem_mem hlt)
      have HT : Hid (∀ i, i < L[j].2 → wordO L (sizes (L.take j) + i) = some (L[j].1 + i)) := ⟨fun i hi => wordO_take hlt hi⟩
      have HS := hid (sizes_take hlt)
      generalize L[j].1 = s at *
      generalize L[j].2 = z at *
      go_wp2
      go_loop [1, 7] (fun s1 a => ∃ x K : Nat, x ≤ z ∧ Hid (q = sizes (L.take j) + x + K) ∧ K ≤ q ∧ s1 = .int .i64 K ∧ a = .int .i64 x) (fun _ a => z - (intOf a).toNat)
      case atStart => exact ⟨0, K, by omega, ⟨by have := hq.out; omega⟩, hKq, rfl, rfl⟩
      case round =>
        obtain ⟨x, K2, hx, hq2, hK2, rfl, rfl⟩ := hrel
        clear hq
        by_cases hxz : x < z
        · by_cases hK : K2 = 0
          · subst hK
            have E : Hid (wordO L q = some (s + x)) := ⟨by rw [hq2.out, Nat.add_zero]; exact HT.out x hxz⟩
            clear hq2
            go_wp2
            go_ret2
            exact ⟨ret2 (vint (by rw [E.out]; simp)) (vbool (by rw [E.out]; rfl)), rfl⟩
          · have d1 : ((K2 : Int) == 0) = false := beq_eq_false_iff_ne.2 (by omega)
            have HQ : Hid (q = sizes (L.take j) + (x + 1) + (K2 - 1)) := ⟨by have := hq2.out; omega⟩
            clear hq2
            go_wp2
            go_round
            case rel => exact ⟨x + 1, K2 - 1, by omega, HQ, by omega, vint (by omega), by go_num⟩
            case measure => simp [intOf]; omega
        · obtain rfl : x = z := by omega
          have HQ : Hid (q = sizes (L.take (j + 1)) + K2) := ⟨by have := hq2.out; have := HS.out; omega⟩
          clear hq2
          go_wp2
          go_round
          case rel => exact ⟨j + 1, K2, by omega, HQ, by omega, rfl, by go_num⟩
          case measure => simp [intOf]; omega
    · obtain rfl : j = L.length := by omega
      have E : Hid (wordO L q = none) := ⟨wordO_none.2 (by have := hq.out; rw [List.take_length] at this; omega)⟩
      clear hq
      go_wp2
      go_ret2
      exact ⟨ret2 (vint (by rw [E.out]; rfl)) (vbool (by rw [E.out]; rfl)), rfl⟩
/-- Of a negative number it may tell anything. -/
def Tells2 (e : Ending) : Prop := ∃ x b, e = .returned (.tuple #[.int .i64 x, .bool b])
theorem ref13_word_neg {w : World} {A : Option Addr} {c : Nat} {L : List Ob} (hA : ObjsAt w A L) {n : Nat} (hg : Good n L) (hn : n ≤ 1048576) (k : Int) :
    Calls Tryd.prog 63 #[.slice A L.length c, .int .i64 k] w fun e w' => Tells2 e ∧ w = w' := by
  have HA := hid hA
  have HG := hid hg
  have hlen := hg.len
  clear hA hg
  go_enter Tryd.func63, Tryd.ntmps63
  go_wp2
  go_loop [1, 6] (fun s1 i => ∃ (j : Nat) (K : Int), j ≤ L.length ∧ s1 = .int .i64 K ∧ i = .int .i64 j) (fun _ i => L.length - (intOf i).toNat)
  case atStart => exact ⟨0, k, by omega, rfl, rfl⟩
  case round =>
    obtain ⟨j, K, hj, rfl, rfl⟩ := hrel
    by_cases hlt : j < L.length
    · obtain ⟨g, rfl, -, q1, q2⟩ := HA.out j hlt
      have hsz := HG.out.sz _ (List.getElem_mem hlt)
      generalize L[j].1 = s at *
      generalize L[j].2 = z at *
      go_wp2
      go_loop [1, 7] (fun s1 a => ∃ (x : Nat) (K : Int), x ≤ z ∧ s1 = .int .i64 K ∧ a = .int .i64 x) (fun _ a => z - (intOf a).toNat)
      case atStart => exact ⟨0, K, by omega, rfl, rfl⟩
      case round =>
        obtain ⟨x, K2, hx, rfl, rfl⟩ := hrel
        by_cases hxz : x < z
        · by_cases hK : K2 = 0
          · subst hK
            go_wp2
            go_ret2
            exact ⟨⟨_, _, ret2 rfl rfl⟩, rfl⟩
          · have d1 : (K2 == 0) = false := beq_eq_false_iff_ne.2 hK
            go_wp2
            go_round
            case rel => exact ⟨x + 1, _, by omega, rfl, by go_num⟩
            case measure => simp [intOf]; omega
        · obtain rfl : x = z := by omega
          go_wp2
          go_round
          case rel => exact ⟨j + 1, K2, by omega, rfl, by go_num⟩
          case measure => simp [intOf]; omega
    · obtain rfl : j = L.length := by omega
      go_wp2
      go_ret2
      exact ⟨⟨_, _, ret2 rfl rfl⟩, rfl⟩

/-! A row that grows -/
def flatO (L : List Ob) : List Value := L.flatMap fun o => [.int .i64 (o.1 : Nat), .int .i64 (o.2 : Nat)]
theorem flatO_append (L M : List Ob) : flatO (L ++ M) = flatO L ++ flatO M := by simp [flatO]
theorem flatO_len (L : List Ob) : (flatO L).length = L.length * 2 := by
  induction L with
  | nil => rfl
  | cons o r ih => simp [flatO] at ih ⊢; omega
theorem flatO_at {L : List Ob} {i : Nat} (h : i < L.length) : (flatO L)[i * 2]? = some (.int .i64 (L[i].1 : Nat)) ∧ (flatO L)[i * 2 + 1]? = some (.int .i64 (L[i].2 : Nat)) := by
  induction L generalizing i with
  | nil => exact absurd h (Nat.not_lt_zero _)
  | cons o r ih =>
    have e : flatO (o :: r) = .int .i64 (o.1 : Nat) :: .int .i64 (o.2 : Nat) :: flatO r := rfl
    rw [e]
    cases i with
    | zero => exact ⟨rfl, rfl⟩
    | succ i =>
      have := ih (i := i) (by simpa using h)
      rw [show (i + 1) * 2 = i * 2 + 1 + 1 by omega]
      simpa using this
def OwnO (w : World) (base : Nat) (v : Value) (L : List Ob) : Prop := w.ownsRow base 96 2 v L.length (flatO L)
theorem own_objs {w : World} {base : Nat} {v : Value} {L : List Ob} (h : OwnO w base v L) : ∃ A c, v = .slice A L.length c ∧ ObjsAt w A L ∧ ∀ a, A = some a → base ≤ a.block := by
  by_cases hn : L.length = 0
  · obtain ⟨_, ⟨rfl, _⟩ | ⟨g, c, cur, rfl, e2, _⟩⟩ := h
    · exact ⟨none, 0, by rw [hn], fun i hi => by omega, fun a e => by cases e⟩
    · exact ⟨some ⟨g, 0, none⟩, c, rfl, fun i hi => by omega, fun a e => by cases e; exact e2⟩
  · obtain ⟨g, c, rfl, h1, _, _, h4⟩ := own_form h hn
    exact ⟨_, c, rfl, fun i hi => ⟨g, rfl, h4, own_cell h (flatO_at hi).1, own_cell h (flatO_at hi).2⟩, fun a e => by cases e; exact h1⟩
theorem insO_step {M : List Ob} {o x : Ob} : (∃ y ∈ M, o.1 < y.1) → insO (M ++ [x]) o = insO M o ++ [x] := by
  induction M with
  | nil => rintro ⟨y, h, _⟩; cases h
  | cons q r ih =>
    rintro ⟨y, hy, hl⟩
    show insO (q :: (r ++ [x])) o = insO (q :: r) o ++ [x]
    unfold insO
    by_cases h : o.1 < q.1
    · rw [if_pos h, if_pos h]; rfl
    · rw [if_neg h, if_neg h]
      rcases List.mem_cons.1 hy with rfl | hy
      · exact absurd hl h
      · rw [ih ⟨y, hy, hl⟩]; rfl
theorem insO_last {M : List Ob} {o : Ob} (h : ∀ y ∈ M, ¬ o.1 < y.1) : insO M o = M ++ [o] := by
  induction M with
  | nil => rfl
  | cons q r ih =>
    unfold insO
    rw [if_neg (h q (by simp)), ih (fun y hy => h y (by simp [hy]))]; rfl
theorem insO_here {M : List Ob} {o x : Ob} (h : ∀ y ∈ M, ¬ o.1 < y.1) (hx : o.1 < x.1) : insO (M ++ [x]) o = M ++ [o] ++ [x] := by
  induction M with
  | nil => show insO [x] o = _; unfold insO; rw [if_pos hx]; rfl
  | cons q r ih =>
    show insO (q :: (r ++ [x])) o = _
    unfold insO
    rw [if_neg (h q (by simp)), ih (fun y hy => h y (by simp [hy]))]; rfl
theorem infoOb : (Tryd.prog.info? 96).map (fun i => (i.zero, i.size, i.bytes)) = some (some (.agg #[.int .i64 0, .int .i64 0]), 2, 16) := by kernel_rfl
end Go.Proofs.YtlbbkpjfoabobaaDoor
