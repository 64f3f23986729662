/- append of so many zeros ('append(s, make([]T, n)...)'), and clear of a part of a row. -/
import Derived.WalkKit
import Derived.Deep.AppendLies
namespace Go.Proofs.YtlkifhoedfjlaaaGreatDoor
open Go.RowKit

theorem zeroCells_one (z : Value) (n : Nat) : (Builtin.zeroCells #[z] n).toList = List.replicate n z := by
  unfold Builtin.zeroCells
  apply List.ext_getElem
  · simp
  · intro j h1 h2
    simp [Nat.mod_one]
section
variable {P : Program} (w : World)
theorem run_append_zeros (t it ty e : TypeId) (k : IntKind) (base : Nat) (i : TypeInfo) (z : Value) (ht : P.underlying t = some (.slice e)) (hit : P.underlying it = some (.int k)) (hi : P.info? e = some i) (hz : i.zero = some z)
    (hsize : i.size = 1) (hzs : z.cells = #[z]) (hz1 : z.oneCell' = true)
    (v : Value) (n : Nat) (xs : List Value) (hown : w.ownsRow base e 1 v n xs) (m : Nat) (hm : 0 < m) (h63 : n + m ≤ maxLen) (hbytes : (n + m) * i.bytes ≤ 140737488355328) (hbase : base ≤ w.heap.size) :
    ∃ g cap w', (Builtin.append_ #[t, it] ty #[v, .int .i64 m]).run P w = .ok (.slice (some ⟨g, 0, none⟩) (n + m) cap) w' ∧
      w'.ownsRow base e 1 (.slice (some ⟨g, 0, none⟩) (n + m) cap) (n + m) (xs ++ List.replicate m z) ∧ w.grownBy w' v.ownBlock ∧ (v.ownBlock = some g ∨ g = w.heap.size) ∧ g < w'.heap.size := by
  have hsmall : n + m ≤ 9223372036854775807 := by simp only [maxLen] at h63; omega
  have hmb : (m : Int) * (i.bytes : Int) ≤ 281474976710656 := by
    have h1 : m * i.bytes ≤ (n + m) * i.bytes := Nat.mul_le_mul_right _ (by omega)
    have h2 : ((m * i.bytes : Nat) : Int) = (m : Int) * (i.bytes : Int) := by push_cast; rfl
    omega
  have hw : IntKind.i64.wrap (m : Int) = (m : Int) := IntWalk.i64_in _ (by omega)
  have hm0 : ¬ (m : Int) < 0 := by omega
  have hmb' : ¬ (281474976710656 : Int) < (m : Int) * (i.bytes : Int) := by omega
  have hai : ∀ (w : World), (asInt (Value.int .i64 (m : Int))).run P w = .ok (m : Int) w := fun _ => by simp [asInt, asIntOf]
  have hmle : ¬ (m : Int) ≤ 0 := by omega
  have hmm : max (m : Int) 0 = (m : Int) := by omega
  have hmn : ¬ m = 0 := by omega
  have hne : ¬ m * i.size = 0 := by rw [hsize]; omega
  have hl : xs.length = n := by have := hown.1; omega
  have hxl : (xs ++ List.replicate m z).length = n + m := by simp [hl]
  have grown : ∀ (old : Nat) (row : Option Nat),
      (w.drew.alloc (.cells ((xs ++ List.replicate m z).toArray ++ Builtin.zeroCells z.cells (grownCap w (n + m) old e - (n + m))) e)).ownsRow base e 1
        (.slice (some ⟨w.heap.size, 0, none⟩) (n + m) (grownCap w (n + m) old e)) (n + m) (xs ++ List.replicate m z) ∧
      w.grownBy (w.drew.alloc (.cells ((xs ++ List.replicate m z).toArray ++ Builtin.zeroCells z.cells (grownCap w (n + m) old e - (n + m))) e)) row := by
    intro old row
    have hge := grownCap_ge w (n + m) old e
    have hcm : grownCap w (n + m) old e ≤ maxLen := grownCap_le_maxLen w (n + m) old e h63
    refine ⟨⟨by omega, .inr ⟨w.heap.size, _, _, rfl, hbase, heap_alloc_new w.drew _, hge, hcm, ?_, ?_⟩⟩, ⟨rfl, rfl, rfl, by simp, fun k hk _ => Below.heap_alloc w.drew _ k hk⟩⟩
    · rw [Array.size_append, size_zeroCells, hzs, List.size_toArray, hxl]
      simp; omega
    · rw [Array.toList_append, List.toList_toArray, Nat.mul_one, ← hxl]
      exact List.take_left
  have hzc : Builtin.zeroCells z.cells m = (List.replicate m z).toArray := by rw [hzs]; apply Array.ext'; rw [zeroCells_one]
  rcases hown.2 with ⟨rfl, rfl⟩ | ⟨g, cap, cur, rfl, hbg, hg, hnc, hcm, hcs, htake⟩
  · obtain rfl : xs = [] := List.eq_nil_of_length_eq_zero hl
    have h48' : ¬ (281474976710656 < Builtin.nextslicecap m 0 * i.bytes) := by rw [nextslicecap_zero hm]; have := hbytes; simp only [Nat.zero_add] at this; omega
    have h63' : ¬ (9223372036854775807 < (m : Int)) := by omega
    have hgr := grown 0 none
    simp only [Nat.zero_add, List.nil_append] at hgr ⊢
    refine ⟨_, _, _, ?_, hgr.1, ?_, .inr rfl, by simp⟩
    · simp [Builtin.append_, run_underlying ht, run_underlying hit, sizeOf, typeInfo, zeroValue, hi, hz, hw, hm0, hmb', h63', h48', Question.forced, run_firstCells_none, newRow, grownCap, hsize, hai, hmm, hmn]
      rw [hzc]; simp
    · exact hgr.2
  · by_cases hroom : n + m ≤ cap
    · have hfit : n * i.size + 0 + (List.replicate m z).length ≤ cur.size := by rw [hsize, hcs]; simp; omega
      have hst := run_storeCells_at P g (n * i.size) e (List.replicate m z) 0 cur w hg (by simpa using hfit) (fun u hu => by rw [List.eq_of_mem_replicate hu]; exact hz1)
      simp only [Nat.add_zero, hsize, Nat.mul_one] at hst
      refine ⟨g, cap, w.setRow g (cur.toList.take n ++ List.replicate m z ++ cur.toList.drop (n + (List.replicate m z).length)).toArray, ?_, ⟨by omega, .inr ⟨g, cap, _, rfl, hbg, setRow_heap w g cur _ e _ hg, hroom, hcm, ?_, ?_⟩⟩, ⟨rfl, rfl, rfl, by simp, fun k _ hk => setRow_other w g k _ (fun e => hk (by simp [Value.ownBlock, e]))⟩, .inl rfl, ?_⟩
      · simp [Builtin.append_, run_underlying ht, run_underlying hit, sizeOf, typeInfo, zeroValue, hi, hz, hw, hm0, hmb', hsize, hai, hmn, hroom, hzc, Addr.add_lit]
        simp at hst
        simp [hst]
      · rw [Nat.mul_one] at hcs
        simp; omega
      · rw [Nat.mul_one] at htake hcs
        rw [Nat.mul_one, List.toList_toArray, htake, List.append_assoc, ← List.append_assoc, ← hxl]
        exact List.take_left
      · simp; exact (Array.getElem?_eq_some_iff.1 hg).1
    · have h48' : ¬ (281474976710656 < Builtin.nextslicecap (n + m) cap * i.bytes) := by have := growslice_fits (show cap < n + m by omega) hbytes; omega
      have h63' : ¬ (9223372036854775807 < ((n : Int) + (m : Int))) := by omega
      have holds : ∀ j u, xs[j]? = some u → w.cell? ((⟨g, 0, none⟩ : Addr).add j) = some u := hown.cells (g := g) rfl
      have hfo := run_firstCells_some (P := P) w.drew i.size n ⟨g, 0, none⟩ n cap xs (by rw [hsize, hl]; omega) (by simpa using holds)
      rw [hsize] at hfo
      have hgr := grown cap (Value.ownBlock (.slice (some ⟨g, 0, none⟩) n cap))
      refine ⟨_, _, _, ?_, hgr.1, hgr.2, .inr rfl, by simp⟩
      simp [Builtin.append_, run_underlying ht, run_underlying hit, sizeOf, typeInfo, zeroValue, hi, hz, hw, hm0, hmb', h63', h48', Question.forced, hfo, newRow, grownCap, hsize, hai, hmm, hmn, hroom, hzc]
      congr 2
      apply Array.ext'
      simp
theorem wp_append_zeros {o : Oper} {a : Act} {K : Act → World → Prop} {Q : Exit → Act → World → Prop} (s x : Operand) (t it : TypeId)
    (ho : o.op = .call { callee := .builtin .append, args := #[s, x], argTypes := #[t, it] }) (e : TypeId) (k : IntKind) (base : Nat) (i : TypeInfo) (z : Value) (ht : P.underlying t = some (.slice e)) (hit : P.underlying it = some (.int k)) (hi : P.info? e = some i) (hz : i.zero = some z)
    (hsize : i.size = 1) (hzs : z.cells = #[z]) (hz1 : z.oneCell' = true)
    (v : Value) (n : Nat) (xs : List Value) (hs : a.eval s = v) (hown : w.ownsRow base e 1 v n xs) (m : Nat) (hx : a.eval x = .int .i64 m) (hm : 0 < m) (h63 : n + m ≤ maxLen) (hbytes : (n + m) * i.bytes ≤ 140737488355328) (hbase : base ≤ w.heap.size)
    (h : ∀ g cap w', w'.ownsRow base e 1 (.slice (some ⟨g, 0, none⟩) (n + m) cap) (n + m) (xs ++ List.replicate m z) → w.grownBy w' v.ownBlock → (v.ownBlock = some g ∨ g = w.heap.size) → g < w'.heap.size → K (a.put o.dst (.slice (some ⟨g, 0, none⟩) (n + m) cap)) w') : o.wp P a w K Q := by
  obtain ⟨g, cap, w', hr, h2, h3, h4, h5⟩ := run_append_zeros (P := P) w t it o.type e k base i z ht hit hi hz hsize hzs hz1 v n xs hown m hm h63 hbytes hbase
  unfold Oper.wp execOp
  simp only [ho, resolve, invoke, builtin, Sem.run_bind, Sem.run_pure, Result.andThen_ok, List.map_toArray, List.map_cons, List.map_nil, hs, hx, hr]
  exact h g cap w' h2 h3 h4 h5
theorem wpList_append_zeros {ops : Array Oper} {rest : List Oper} {o : Oper} {a : Act} {Q : Exit → Act → World → Prop} (hgd : o.guard = none) (s x : Operand) (t it : TypeId)
    (ho : o.op = .call { callee := .builtin .append, args := #[s, x], argTypes := #[t, it] }) (e : TypeId) (k : IntKind) (base : Nat) (i : TypeInfo) (z : Value) (ht : P.underlying t = some (.slice e)) (hit : P.underlying it = some (.int k)) (hi : P.info? e = some i) (hz : i.zero = some z)
    (hsize : i.size = 1) (hzs : z.cells = #[z]) (hz1 : z.oneCell' = true)
    (v : Value) (n : Nat) (xs : List Value) (hs : a.eval s = v) (hown : w.ownsRow base e 1 v n xs) (m : Nat) (hx : a.eval x = .int .i64 m) (hm : 0 < m) (h63 : n + m ≤ maxLen) (hbytes : (n + m) * i.bytes ≤ 140737488355328) (hbase : base ≤ w.heap.size)
    (h : ∀ g cap w', w'.ownsRow base e 1 (.slice (some ⟨g, 0, none⟩) (n + m) cap) (n + m) (xs ++ List.replicate m z) → w.grownBy w' v.ownBlock → (v.ownBlock = some g ∨ g = w.heap.size) → g < w'.heap.size → wpList P ops Q rest (a.put o.dst (.slice (some ⟨g, 0, none⟩) (n + m) cap)) w') : wpList P ops Q (o :: rest) a w :=
  wpList_plain hgd fun _ hK => wp_append_zeros w s x t it ho e k base i z ht hit hi hz hsize hzs hz1 v n xs hs hown m hx hm h63 hbytes hbase fun g cap w' h2 h3 h4 h5 => hK _ _ (h g cap w' h2 h3 h4 h5)
/-- clear of a part of an owned row. -/
theorem run_clear_own (t e : TypeId) (base : Nat) (i : TypeInfo) (z : Value) (ht : P.underlying t = some (.slice e)) (hi : P.info? e = some i) (hz : i.zero = some z)
    (hzs : z.cells = #[z]) (hz1 : z.oneCell' = true) {g cap N : Nat} {xs : List Value} (hown : w.ownsRow base e 1 (.slice (some ⟨g, 0, none⟩) N cap) N xs) (o n c : Nat) (hn : 0 < n) (hon : o + n ≤ N) :
    ∃ w', (∀ ty, (Builtin.clear_ #[t] ty #[.slice (some ⟨g, o, none⟩) n c]).run P w = .ok (.tuple #[]) w') ∧ w'.ownsRow base e 1 (.slice (some ⟨g, 0, none⟩) N cap) N (xs.take o ++ List.replicate n z ++ xs.drop (o + n)) ∧ w.grownBy w' (some g) := by
  have hzc : Builtin.zeroCells z.cells n = (List.replicate n z).toArray := by rw [hzs]; apply Array.ext'; rw [zeroCells_one]
  obtain ⟨hl, ⟨h', _⟩ | ⟨g', cap', cur, h', hb, hg, hnc, hcm, hcs, htake⟩⟩ := hown
  · simp at h'
  · simp only [Value.slice.injEq, Option.some.injEq, Addr.mk.injEq, and_true, true_and] at h'
    obtain ⟨rfl, rfl⟩ := h'
    rw [Nat.mul_one] at hl hcs htake
    have hst := run_storeCells_at P g o e (List.replicate n z) 0 cur w hg (by simp; omega) (fun u hu => by rw [List.eq_of_mem_replicate hu]; exact hz1)
    simp only [Nat.add_zero, List.length_replicate] at hst
    have hn0 : n ≠ 0 := by omega
    have hlen : xs.length = N := hl
    refine ⟨_, fun ty => ?_, ⟨by simp; omega, .inr ⟨g, cap, (cur.toList.take o ++ List.replicate n z ++ cur.toList.drop (o + n)).toArray, rfl, hb, setRow_heap w g cur _ e _ hg, hnc, hcm, by simp; omega, ?_⟩⟩, ⟨rfl, rfl, rfl, by simp, fun k _ hk => setRow_other w g k _ (fun e => hk (by simp [e]))⟩⟩
    · simp [Builtin.clear_, run_underlying ht, zeroValue, typeInfo, hi, hz, hzc, hn0]
      simp at hst
      simp [hst]
    · rw [Nat.mul_one, List.toList_toArray, ← htake]
      apply List.ext_getElem?
      intro j
      rw [List.getElem?_take]
      by_cases hj : j < N
      · rw [if_pos hj]
        by_cases h1 : j < o
        · rw [List.append_assoc, List.append_assoc, List.getElem?_append_left (by simp; omega), List.getElem?_append_left (by simp; omega), List.getElem?_take, List.getElem?_take, if_pos h1, if_pos h1, List.getElem?_take, if_pos hj]
        · by_cases h2 : j < o + n
          · rw [List.append_assoc, List.append_assoc, List.getElem?_append_right (by simp; omega), List.getElem?_append_left (by simp; omega), List.getElem?_append_right (by simp; omega), List.getElem?_append_left (by simp; omega)]
            congr 1; simp; omega
          · rw [List.getElem?_append_right (by simp; omega), List.getElem?_append_right (by simp; omega), List.getElem?_drop, List.getElem?_drop, List.getElem?_take, if_pos (by simp; omega)]
            congr 1; simp; omega
      · rw [if_neg hj, List.getElem?_eq_none (by simp; omega)]
end
end Go.Proofs.YtlkifhoedfjlaaaGreatDoor
