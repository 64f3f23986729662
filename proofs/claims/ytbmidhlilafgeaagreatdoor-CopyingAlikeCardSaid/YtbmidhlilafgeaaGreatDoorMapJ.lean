/- A map keyed by ints: an element of a composite literal; a new map. -/
import Derived.Test.YtbmidhlilafgeaaGreatDoorMapI
namespace Go.Proofs.YtbmidhlilafgeaaGreatDoor
open Go.RowKit

/-- An element of a map's literal, at the operation. -/
theorem wpList_insI {P : Program} (w : World) {ops : Array Oper} {rest : List Oper} {o : Oper} {a : Act} {Q : Exit → Act → World → Prop}
    (hg : o.guard = none) (m x v : Operand) (t : TypeId) (hop : o.op = Op.insert t m x v)
    (k e : TypeId) (K : Maps.Keyed P k) (ht : P.underlying t = some (.map k e)) (hk : P.underlying k = some (.int .i64)) (b n : Nat) (f : Int → Option Value)
    (hm : a.eval m = .map (some b)) (hown : MapI P k w b n f) (hn : n < maxLen) (key : Int) (val : Value) (hx : a.eval x = .int .i64 key) (hv : a.eval v = val) (hw : (Lit.int .i64 key).wf = true)
    (hK : ∀ w', MapI P k w' b (n + 1) (fun y => if y = key then some val else f y) → Touch (fun i => i = b) w w' → wpList P ops Q rest (a.put o.dst undef) w') :
    wpList P ops Q (o :: rest) a w := by
  obtain ⟨D, hD, hf⟩ := hown
  have hkey := Maps.keyOf_int_mk (P := P) hk hw
  refine wpList_plain hg fun K' hK' => ?_
  obtain ⟨w', hrun, h1, h2⟩ := hD.update K ht hn hkey (val := val) (d := .held val) (ps := []) rfl
  unfold Oper.wp
  simp [execOp, hop, hm, hx, hv, hrun, Result.andThen]
  refine hK' _ _ (hK w' ⟨_, h1, fun y hy => ?_⟩ (grown_touch h2 _ (fun i hi _ => by cases hi; rfl)))
  by_cases e : y = key
  · subst e
    dsimp only
    rw [if_pos rfl]
    refine ⟨Maps.has_put_same hD.isMap (K.key hkey) _, fun v hv z => ?_⟩
    cases hv
    exact Maps.atKey_put_same hD.isMap (K.key hkey) _ _
  · dsimp only
    rw [if_neg e]
    have hne : (Lit.int .i64 y) ≠ .int .i64 key := fun h => e (by injection h)
    exact ⟨(Maps.has_put_other hne _).trans (hf y hy).1, fun v hv z => (Maps.atKey_put_other hne _ _).trans ((hf y hy).2 v hv z)⟩
/-- The map, put into: the run and what it leaves. -/
theorem MapI.put {P : Program} {k e t : TypeId} {w : World} {b n : Nat} {f : Int → Option Value} (h : MapI P k w b n f) (K : Maps.Keyed P k) (ht : P.underlying t = some (.map k e)) (hk : P.underlying k = some (.int .i64)) (hn : n < maxLen) (key : Int) (val : Value) (hw : (Lit.int .i64 key).wf = true) :
    ∃ w', (Instr.mapUpdate t (.map (some b)) (.int .i64 key) val).run P w = .ok () w' ∧ MapI P k w' b (n + 1) (fun y => if y = key then some val else f y) ∧ Touch (fun i => i = b) w w' := by
  obtain ⟨D, hD, hf⟩ := h
  have hkey := Maps.keyOf_int_mk (P := P) hk hw
  obtain ⟨w', hrun, h1, h2⟩ := hD.update K ht hn hkey (val := val) (d := .held val) (ps := []) rfl
  refine ⟨w', hrun, ⟨_, h1, fun y hy => ?_⟩, grown_touch h2 _ (fun i hi _ => by cases hi; rfl)⟩
  by_cases e : y = key
  · subst e
    dsimp only
    rw [if_pos rfl]
    refine ⟨Maps.has_put_same hD.isMap (K.key hkey) _, fun v hv z => ?_⟩
    cases hv
    exact Maps.atKey_put_same hD.isMap (K.key hkey) _ _
  · dsimp only
    rw [if_neg e]
    have hne : (Lit.int .i64 y) ≠ .int .i64 key := fun h => e (by injection h)
    exact ⟨(Maps.has_put_other hne _).trans (hf y hy).1, fun v hv z => (Maps.atKey_put_other hne _ _).trans ((hf y hy).2 v hv z)⟩
end Go.Proofs.YtbmidhlilafgeaaGreatDoor
