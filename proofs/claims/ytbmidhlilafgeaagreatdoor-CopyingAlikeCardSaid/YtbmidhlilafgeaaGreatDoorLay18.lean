/- Layer 18's Lay: the walk. -/
import Derived.Test.YtbmidhlilafgeaaGreatDoorLay18P
import Derived.Test.YtbmidhlilafgeaaGreatDoorKM8
import Derived.Deep.CutBlock
import Derived.Deep.DeepCutAuto
namespace Go.Proofs.YtbmidhlilafgeaaGreatDoor
open Go.RowKit Word

def HdrsAt (w : World) (A : Option Addr) (l : List Hdr) : Prop := ∀ i (h : i < l.length), ∃ b o, A = some ⟨b, o, none⟩ ∧ b < w.heap.size ∧
  w.cell? ⟨b, o + i * 3, none⟩ = some (.int .i64 l[i].p) ∧ w.cell? ⟨b, o + i * 3 + 1, none⟩ = some (.int .i64 l[i].f) ∧ w.cell? ⟨b, o + i * 3 + 2, none⟩ = some (.int .i64 l[i].k)
/-- A laid memory's data. -/
structure Laid where
  H : List Hdr
  P : List Int
  W : List Int
structure LaidAt (w : World) (val : Value) (x : Laid) : Prop where
  ex : ∃ A1 c1 A2 c2 A3 c3, val = .agg #[.slice A1 x.H.length c1, .slice A2 x.P.length c2, .slice A3 x.W.length c3] ∧ HdrsAt w A1 x.H ∧ IntsAt w A2 x.P ∧ IntsAt w A3 x.W
  far : x.H.length ≤ 9223372036854775807 ∧ x.P.length ≤ 9223372036854775807 ∧ x.W.length ≤ 9223372036854775807
theorem mkE_full {v : Vm} (h : Full v) {t : Nat} {n : Nat} (he : mkE v t n = 0) : t + n < 400 := by
  cases n with
  | zero =>
    have he : v.ldE t = 0 := he
    rw [h.ldE] at he
    split at he
    · omega
    · cases he
  | succ n =>
    have he : (if mkE v t n ≠ 0 then mkE v t n else v.ldE (t + 1 + n)) = 0 := he
    split at he
    · rename_i hn; exact absurd he hn
    · rw [h.ldE] at he
      split at he
      · omega
      · cases he
theorem mkRes_zero {v : Vm} {t : Nat} {h : Hdr} (he : mkRes v t h = 0) : ∃ p f c : Nat, h = ⟨p, f, c⟩ ∧ p + f + c ≤ 255 ∧ mkE v t (p + f + c) = 0 := by
  unfold mkRes at he
  split at he
  · cases he
  · split at he
    · cases he
    · rename_i h1
      obtain ⟨p, f, c, rfl, hs⟩ := hdrE_zero (Decidable.not_not.1 h1)
      exact ⟨p, f, c, rfl, hs, he⟩
theorem layHs_cons (h : Hdr) (r : List Hdr) (v : Vm) (t : Int) (F : List Int) : layHs (h :: r) v t F = if mkRes v t h = 0 then layHs r (mkVm v t h) (t + hdrN h) (F ++ (List.range h.p.toNat).map fun i : Nat => t + 1 + (i : Int)) else (v, t, F) := rfl
/-- The first k words of a memory. -/
def wds (v : Vm) (k : Nat) : List Value := (List.range k).map fun a : Nat => .int .u64 (v.ldV a : Nat)
theorem wds_len (v : Vm) (k : Nat) : (wds v k).length = k := by simp [wds]
theorem wds_succ (v : Vm) (k : Nat) : wds v (k + 1) = wds v k ++ [.int .u64 (v.ldV k : Nat)] := by unfold wds; rw [List.range_succ, List.map_append]; rfl
/-- While the words are read. -/
structure L18R (w wr : World) (q : Nat) (v : Vm) (k : Nat) (vL : Value) : Prop where
  full : Full v
  vm : ∃ SV, VmAt wr SV q v ∧ (∀ i, SV i → w.heap.size + 1 ≤ i) ∧ (∀ g, vL.ownBlock = some g → ¬ SV g)
  own : wr.ownsRow 0 50 1 vL k (wds v k)
  ofr : ∀ g, vL.ownBlock = some g → w.heap.size + 1 ≤ g
  t : Touch (fun k => w.heap.size ≤ k) w wr
theorem L18R.gr {w wr w' : World} {q k : Nat} {v : Vm} {vL : Value} (h : L18R w wr q v k vL) (g : Gr wr w') : L18R w w' q v k vL := by
  obtain ⟨h1, ⟨SV, h2, h3, h4⟩, h6, h7, h8⟩ := h
  exact ⟨h1, ⟨SV, h2.gr g, h3, h4⟩, own_gr h6 g, h7, h8.trans (g.touch _)⟩
theorem L18R.app {w wr w' : World} {q : Nat} {v : Vm} {A : Option Addr} {c g2 c2 N : Nat} (h : L18R w wr q v N (.slice A N c)) (t : Touch (fun k => (Value.slice A N c).ownBlock = some k) wr w')
    (ho : w'.ownsRow 0 50 1 (.slice (some ⟨g2, 0, none⟩) (N + 1) c2) (N + 1) (wds v N ++ [.int .u64 (v.ldV N : Nat)])) (hat : (Value.slice A N c).ownBlock = some g2 ∨ wr.heap.size ≤ g2) (hw : w.heap.size + 1 ≤ wr.heap.size) : L18R w w' q v (N + 1) (.slice (some ⟨g2, 0, none⟩) (N + 1) c2) := by
  obtain ⟨h1, ⟨SV, h2, h3, h4⟩, h6, h7, h8⟩ := h
  refine ⟨h1, ⟨cutS SV wr, h2.cut.touch t (fun i hi _ e => h4 i e hi.1), fun i hi => h3 i hi.1, fun g hg hi => ?_⟩, ?_, fun g hg => ?_, h8.trans (t.mono (fun i _ e => by have := h7 i e; omega))⟩
  · cases hg
    rcases hat with h | h
    · exact h4 _ h hi.1
    · have : g2 < wr.heap.size := hi.2
      omega
  · rw [wds_succ]
    exact ho
  · cases hg
    rcases hat with h | h
    · exact h7 _ h
    · show w.heap.size + 1 ≤ g2
      omega
/-- The memory that Lay lays. -/
def layV (x : Laid) (v0 : Vm) : Vm :=
  layWs x.W (if (layHs x.H v0 1 []).2.2 = [] then (layHs x.H v0 1 []).1 else layPs x.P (layHs x.H v0 1 []).2.2 (layHs x.H v0 1 []).1 (x.P.length / 2)) (x.W.length / 2)
def Lay18End (w : World) (x : Laid) (e : Ending) (w' : World) : Prop :=
  ∃ q A c v0 SV, e = .returned (.tuple #[.pointer (some ⟨q, 0, none⟩), .slice A 400 c, .int .i64 (layHs x.H v0 1 []).2.1]) ∧ Gr w w' ∧ Full v0 ∧ (∀ a : Nat, a < 400 → v0.ldV a = 0) ∧ Full (layV x v0) ∧
    VmAt w' SV q (layV x v0) ∧ w'.ownsRow 0 50 1 (.slice A 400 c) 400 (wds (layV x v0) 400) ∧ (∀ i, SV i → w.heap.size ≤ i ∧ i < w'.heap.size) ∧ (∀ g, (Value.slice A 400 c).ownBlock = some g → w.heap.size ≤ g ∧ ¬ SV g)
end Go.Proofs.YtbmidhlilafgeaaGreatDoor
