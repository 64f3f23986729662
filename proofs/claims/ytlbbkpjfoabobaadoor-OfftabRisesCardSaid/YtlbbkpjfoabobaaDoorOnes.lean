/- bitvec's Ones: the iterator. -/
import Derived.Shelf.Abstract
import Derived.Shelf.RegionOpen
import Derived.OwnWalkIn
import Derived.TacticsInMore
import Derived.LoopNIn
import Derived.LoopIn
import Derived.Test.YtlbbkpjfoabobaaDoorRange
import Derived.Test.YtlbbkpjfoabobaaDoorLive11
namespace Go.Proofs.YtlbbkpjfoabobaaDoor
open Go.RowKit Go.Shelf Word
attribute [local go_sem] Oper.semAt_some

/-- What the iterator of a vector wants of the world. -/
def OnesInv (box p b N : Nat) (s : List Bool × Nat) (W : World) : Prop :=
  Vec W p b s.1 ∧ s.1.length = N ∧ TabAt W ∧ W.cell? ⟨box, 0, none⟩ = some (.pointer (some ⟨p, 0, none⟩)) ∧ s.2 ≤ N
def OnesGives (s : List Bool × Nat) (x : Nat) : Prop := x = nextL s.1 s.2 ∧ nextL s.1 s.2 < s.1.length
def OnesNext (_ : List Bool × Nat) (x : Nat) (s' : List Bool × Nat) : Prop := s'.2 = x + 1
theorem next_at {l : List Bool} {a : Int} (h : nextL l a < l.length) : at_ l (nextL l a) = true ∧ a ≤ (nextL l a : Nat) := by
  have := first_at (fun i => at_ l i && decide (a ≤ (i : Nat))) l.length h
  simp only [Bool.and_eq_true, decide_eq_true_eq] at this
  exact this
theorem next_ge {l : List Bool} {a : Int} (h : nextL l a < l.length) : a ≤ (nextL l a : Nat) := (next_at h).2
def okOf : Value → Bool
  | .bool b => b
  | _ => false
def OnesFin (s : List Bool × Nat) : Prop := ¬ nextL s.1 s.2 < s.1.length

set_option maxRecDepth 100000 in
set_option maxHeartbeats 1600000 in
theorem ones_seq (n : Nat) (box p b N : Nat) (l0 : List Bool) (w : World) :
    SeqS Fence.wide n Tryd.prog 83 #[.pointer (some ⟨box, 0, none⟩)] (fun x : Nat => #[.int .i64 (x : Int)]) (OnesInv box p b N) OnesGives OnesNext OnesFin (l0, 0) w := by
  intro l J Jx W hg hJ hJx hI hY h0
  refine callsIn_of_wp Tryd.func83 rfl trivial ?_ rfl
  have hi0 := hI _ _ h0
  have c0 := hi0.2.2.2.1
  have HI0 := hid hi0
  clear hi0
  simp only [Tryd.ntmps83, List.size_toArray, List.length_cons, List.length_nil, Nat.reduceAdd, Nat.reduceSub, Array.replicate_succ, Array.replicate_zero, List.push_toArray, List.append_toArray, List.nil_append, List.cons_append]
  gi_wp2_with (refine ⟨trivial, fun h => Bool.noConfusion h, ?_⟩; gi_at_call 26; refine (callsIn_wide.2 (next_vec HI0.out.1 HI0.out.2.2.1 _)).mono ?_; rintro e w1 ⟨rfl, rfl⟩)
  gi_loopw [3, 4] (fun x3 x4 wr => ∃ s : List Bool × Nat, J s wr ∧ x3 = .int .i64 (valN s.1.length (nextL s.1 s.2)) ∧ x4 = .bool (decide (nextL s.1 s.2 < s.1.length))) (fun x3 x4 _ => if okOf x4 then N - (intOf x3).toNat + 1 else 0)
  case atStart => exact ⟨(l0, 0), h0, rfl, rfl⟩
  case round =>
    obtain ⟨s, hs, rfl, rfl⟩ := hrel
    have hi := hI _ _ hs
    have c1 := hi.2.2.2.1
    have HI := hid hi
    clear hi
    by_cases hlt : nextL s.1 s.2 < s.1.length
    · obtain ⟨x, hx⟩ : ∃ x, x = nextL s.1 s.2 := ⟨_, rfl⟩
      obtain ⟨fn, tmps, assign, body, hy, hR⟩ := hY s x wr hs ⟨hx, hlt⟩
      have e1 : valN s.1.length (nextL s.1 s.2) = (x : Int) := by rw [hx]; exact valN_yes hlt
      have e2 : decide (nextL s.1 s.2 < s.1.length) = true := by simp [hlt]
      rw [e1, e2]
      have hxN : x < N := by rw [← HI.out.2.1, hx]; exact hlt
      have HN := hid hI
      have HX := hid hx
      clear hx e1 e2 hI
      gi_wp2
      refine ⟨fun h => Bool.noConfusion h, hR.mono ?_⟩
      rintro e W3 (⟨rfl, s', hn', hJ'⟩ | ⟨rfl, hx'⟩)
      · have hi' := HN.out _ _ hJ'
        have c3 := hi'.2.2.2.1
        have HI' := hid hi'
        have hn2 : s'.2 = x + 1 := hn'
        have hN2 : (N : Int) ≤ 1048576 := by have := hi'.1.n2; have := hi'.2.1; omega
        have hx2 : (x : Int) < N := by omega
        have HS' := hid hn2
        clear hi' hn2 hn'
        gi_wp2_with (refine ⟨trivial, fun h => Bool.noConfusion h, ?_⟩; gi_at_call 26; refine (callsIn_wide.2 (next_vec HI'.out.1 HI'.out.2.2.1 ((x : Int) + 1))).mono ?_; rintro e w1 ⟨rfl, rfl⟩)
        go_roundw
        case rel => exact ⟨s', hJ', by rw [HS'.out]; rfl, by rw [HS'.out]; rfl⟩
        case measure =>
          have e0 : okOf (Value.bool true) = true := rfl
          rw [if_pos e0]
          by_cases h : nextL s'.1 ((x : Int) + 1) < s'.1.length
          · have hge := next_ge h
            have h2 := HI'.out.2.1
            rw [valN_yes h, if_pos (by simp [okOf, h])]
            simp only [intOf]
            omega
          · rw [if_neg (by simp [okOf]; omega)]
            omega
      · gi_wp2
        go_end0
        exact ⟨⟨_, rfl⟩, .inr hx'⟩
    · have e1 : valN s.1.length (nextL s.1 s.2) = 0 := valN_no hlt
      have e2 : decide (nextL s.1 s.2 < s.1.length) = false := by simp; omega
      rw [e1, e2]
      gi_wp2
      refine ⟨fun _ h => (by cases h), ?_⟩
      gi_wp2
      go_end0
      exact ⟨⟨_, rfl⟩, .inl ⟨s, hlt, hs⟩⟩
/-- Ones: the iterator's value; its box is new. -/
theorem ones_call {w : World} (q : Option Addr) :
    Calls Tryd.prog 23 #[.pointer q] w fun e w' => e = .returned (.func (.func 83) #[] #[.pointer (some ⟨w.heap.size, 0, none⟩)]) ∧ w' = w.alloc (.cells #[.pointer q] 26) := by
  have hmf : ∀ (fn : Fn) (first cap : Array Value) (w : World), (Instr.makeFunc fn first cap).run Tryd.prog w = .ok (.func fn first cap) w := fun _ _ _ _ => rfl
  go_enter Tryd.func23, Tryd.ntmps23
  go_wp2
  go_ret
  exact ⟨rfl, rfl⟩
end Go.Proofs.YtlbbkpjfoabobaaDoor
