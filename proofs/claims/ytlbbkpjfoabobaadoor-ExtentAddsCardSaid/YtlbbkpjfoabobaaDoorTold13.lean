/- Layer 13: told; Word of any number; a slice of its Acts among the arguments. -/
import Derived.Test.YtlbbkpjfoabobaaDoorRef13D
import Derived.Test.YtlbbkpjfoabobaaDoorLive13
import Derived.Test.YtlbbkpjfoabobaaDoorActs
namespace Go.Proofs.YtlbbkpjfoabobaaDoor
open Go.ChangeShapes Go.WideShapes Go.ChangeAt Go.RowKit Word

set_option maxRecDepth 100000 in
set_option maxHeartbeats 800000 in
theorem told_ok {w : World} {A : Option Addr} {c : Nat} {L : List Ob} (hA : ObjsAt w A L) {jj : Nat} {j s z : Int} {b : Bool} (h1 : tellO L jj = .tuple #[.int .i64 s, .int .i64 z, .bool b]) (h2 : idxI L jj = j) :
    Calls Tryd.prog 59 #[.slice A L.length c, .int .i64 j, .int .i64 s, .int .i64 z, .bool b] w fun e w' => e = .returned (.bool true) ∧ w = w' := by
  by_cases h : jj < L.length
  · rw [tellO_in h] at h1
    unfold idxI at h2
    rw [if_pos h] at h2
    injection h1 with h1
    simp only [Array.mk.injEq, List.cons.injEq, Value.int.injEq, Value.bool.injEq, true_and, and_true] at h1
    obtain ⟨rfl, rfl, rfl⟩ := h1
    subst h2
    obtain ⟨g, rfl, -, q1, q2⟩ := hA jj h
    generalize L[jj].1 = s at *
    generalize L[jj].2 = z at *
    go_enter Tryd.func59, Tryd.ntmps59
    go_wp2
    go_ret
    exact ⟨rfl, rfl⟩
  · rw [tellO_out h] at h1
    unfold idxI at h2
    rw [if_neg h] at h2
    injection h1 with h1
    simp only [Array.mk.injEq, List.cons.injEq, Value.int.injEq, Value.bool.injEq, true_and, and_true] at h1
    obtain ⟨rfl, rfl, rfl⟩ := h1
    subst h2
    go_enter Tryd.func59, Tryd.ntmps59
    go_wp2
    go_ret
    exact ⟨rfl, rfl⟩
theorem wordV_neg {L : List Ob} {k : Int} (h : k < 0) : wordV L k = 0 ∧ wordY L k = false := by
  unfold wordV wordY
  rw [if_pos h, decide_eq_false (by omega)]
  exact ⟨rfl, rfl⟩
theorem wordV_far {n : Nat} {L : List Ob} (hg : Good n L) {k : Int} (h : (n : Int) ≤ k) : wordV L k = 0 ∧ wordY L k = false := by
  have h2 : wordO L k.toNat = none := wordO_none.2 (by have := sizes_le hg; omega)
  unfold wordV wordY
  rw [if_neg (by omega), h2]
  exact ⟨rfl, by simp⟩
/-- What the reference's Word tells: of a number that is not negative, the word. -/
def TellsW (L : List Ob) (k : Int) (e : Ending) : Prop := ∃ x b, e = .returned (.tuple #[.int .i64 x, .bool b]) ∧ (0 ≤ k → x = wordV L k ∧ b = wordY L k)
theorem ref13_word_any {w : World} {A : Option Addr} {c : Nat} {L : List Ob} (hA : ObjsAt w A L) {n : Nat} (hg : Good n L) (hn : n ≤ 1048576) (k : Int) (hk : k ≤ 9223372036854775807) :
    Calls Tryd.prog 63 #[.slice A L.length c, .int .i64 k] w fun e w' => TellsW L k e ∧ w = w' := by
  by_cases h : k < 0
  · exact (ref13_word_neg hA hg hn k).mono fun e w' ⟨⟨x, b, he⟩, hw⟩ => ⟨⟨x, b, he, fun h2 => by omega⟩, hw⟩
  · exact (ref13_word hA hg hn k (by omega) hk).mono fun e w' ⟨he, hw⟩ => ⟨⟨_, _, he, fun _ => ⟨rfl, rfl⟩⟩, hw⟩
theorem cellsAct13 : Tryd.prog.cellsOf 64 = 3 := by kernel_rfl
set_option maxRecDepth 100000 in
theorem open_acts13 {H : Type} {enc : TypeId × Value → H} {W : World} {r : Reach} {b0 : Nat} {v : Value} {d : DataW H} {p : List MemPlace}
    (hv : Value.okWide Tryd.prog W r b0 60 v) (h : DataW.Trod enc Tryd.prog W 0 (fun _ => true) true 60 v d p) :
    ∃ (A : Option Addr) (cap : Nat) (l : List ActD), v = .slice A l.length cap ∧ l.length ≤ maxLen ∧ ActsAt W A l := by
  obtain ⟨A, len, cap, rfl⟩ := okWide_slice Tryd.underlying60 hv
  obtain ⟨fuel, hf⟩ := h
  rcases Go.Deep.open_slice Tryd.underlying60 hf with ⟨hcs, _⟩ | ⟨a, len', cap', m, n, D, Pl, hcs, _, hl, hm, hmm, _, hi⟩
  · simp [Value.cells] at hcs
    obtain ⟨rfl, rfl, rfl⟩ := hcs
    exact ⟨none, 0, [], rfl, Nat.zero_le _, fun i h => absurd h (by simp)⟩
  · simp [Value.cells] at hcs
    obtain ⟨rfl, rfl, rfl⟩ := hcs
    have hle : len ≤ m := by rw [hmm]; simpa using hl
    obtain ⟨l, hlen, hR⟩ := list_of (fun i (x : ActD) => x.ok ∧ W.cell? (a.add (i * 3 + 0)) = some (.int .u8 x.kind) ∧ W.cell? (a.add (i * 3 + 1)) = some (.int .i64 x.a) ∧ W.cell? (a.add (i * 3 + 2)) = some (.int .i64 x.b)) len (fun i hil => by
      obtain ⟨cs, hc, ht⟩ := hi i (by omega)
      rw [cellsAct13] at hc
      obtain ⟨_, hcl, hat⟩ := World.cells?_some hc
      obtain ⟨y0, y1, y2, n', _, _, t0, t1, t2⟩ := Go.Deep.trod_struct3 Tryd.underlying64 ht
      simp only [cellsU8, cellsInt] at t0 t1 t2
      match cs, hcl with
      | [c0, c1, c2], _ =>
        have g : ∀ j, j < 3 → W.cell? ((a.add (i * 3)).add j) = [c0, c1, c2][j]? := fun j hj => hat j hj
        obtain ⟨k, e0, _, w0⟩ := DataW.trod_int Tryd.underlying5 t0
        obtain ⟨x, e1, _, w1⟩ := DataW.trod_int Tryd.underlying3 t1
        obtain ⟨y, e2, _, w2⟩ := DataW.trod_int Tryd.underlying3 t2
        simp at e0 e1 e2
        subst e0 e1 e2
        have b0 := bd_u8 w0
        have b1 := bd_i64 w1
        have b2 := bd_i64 w2
        have add3 : ∀ j, (a.add (i * 3)).add j = a.add (i * 3 + j) := fun j => add_add_ a (i * 3) j
        have hk : k = (k.toNat : Int) := by omega
        refine ⟨⟨k.toNat, x, y⟩, ⟨by show k.toNat ≤ 255; omega, b1.1, b1.2, b2.1, b2.2⟩, ?_, ?_, ?_⟩
        · rw [← add3, g 0 (by omega)]; show some (Value.int .u8 k) = some (Value.int .u8 (k.toNat : Int)); rw [← hk]
        · rw [← add3, g 1 (by omega)]; rfl
        · rw [← add3, g 2 (by omega)]; rfl)
    subst hlen
    refine ⟨some a, cap, l, rfl, by omega, fun i hil => ?_⟩
    obtain ⟨h1, h2, h3, h4⟩ := hR i hil
    have hs : a.spot = none := by
      have h0 := (hR 0 (by omega)).2.1
      have := spot_of_cell h0
      simpa [Addr.add] using this
    obtain ⟨b, o, s⟩ := a
    simp only at hs
    subst hs
    have ha : ∀ k, Addr.add ⟨b, o, none⟩ k = ⟨b, o + k, none⟩ := fun k => by unfold Addr.add; split <;> simp_all
    rw [ha] at h2 h3 h4
    exact ⟨h1, b, o, rfl, lt_of_cell h2, h2, by rw [Nat.add_assoc]; exact h3, by rw [Nat.add_assoc]; exact h4⟩
end Go.Proofs.YtlbbkpjfoabobaaDoor
