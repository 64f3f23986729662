/- A map keyed by ints that the program itself made. -/
import Derived.Test.YtbmidhlilafgeaaGreatDoorK2
import Derived.Maps.OwnSet
namespace Go.Proofs.YtbmidhlilafgeaaGreatDoor
open Go.RowKit

/-- A value, told by itself. -/
def heldR (v : Value) : Option (DataW Value × List MemPlace) := some (.held v, [])
/-- Block b is a map of at most n entries, that holds f. -/
def MapI (P : Program) (K : TypeId) (w : World) (b n : Nat) (f : Int → Option Value) : Prop :=
  ∃ D : DataW Value, w.ownsMap P K heldR b n D ∧ ∀ x : Int, (Lit.int .i64 x).wf = true → Maps.has D (.int .i64 x) = (f x).isSome ∧ ∀ v, f x = some v → ∀ z, D.atKey (.int .i64 x) z = .held v
section
variable {P : Program} {K : TypeId} {w : World} {b n : Nat} {f : Int → Option Value}
theorem MapI.made (w : World) : MapI P K (w.alloc (.map #[] 0)) w.heap.size 0 (fun _ => none) :=
  ⟨.map [], World.ownsMap_made _ _ _ _, fun _ _ => ⟨rfl, fun _ h => by cases h⟩⟩
theorem MapI.lt (h : MapI P K w b n f) : b < w.heap.size := by obtain ⟨D, h, -⟩ := h; exact h.lt
theorem MapI.touch {S : Nat → Prop} {w' : World} (h : MapI P K w b n f) (t : Touch S w w') (hS : ¬ S b) : MapI P K w' b n f := by
  obtain ⟨D, h, hf⟩ := h
  have hlt := h.lt
  obtain ⟨es, clock, hb, r⟩ := h
  exact ⟨D, ⟨es, clock, (t.block b hlt hS).trans hb, r⟩, hf⟩
theorem MapI.gr {w' : World} (h : MapI P K w b n f) (t : Gr w w') : MapI P K w' b n f := h.touch (t.touch (fun _ => False)) (fun h => h)
theorem MapI.mono (h : MapI P K w b n f) {m : Nat} (hm : n ≤ m) : MapI P K w b m f := by
  obtain ⟨D, h, hf⟩ := h
  exact ⟨D, h.mono hm, hf⟩
theorem MapI.congr (h : MapI P K w b n f) {g : Int → Option Value} (hg : ∀ x, f x = g x) : MapI P K w b n g := by
  have : f = g := funext hg
  rw [← this]; exact h
theorem MapI.ne {T : Nat} (h : MapI P K w b n f) {q : Nat} (hq : ∃ cs fr, w.heap[q]? = some (.cells cs T fr)) : b ≠ q := by
  rintro rfl
  obtain ⟨D, ⟨es, clock, hb, -⟩, -⟩ := h
  obtain ⟨cs, fr, hq⟩ := hq
  rw [hb] at hq
  cases hq
theorem MapI.look_ok (h : MapI P K w b n f) (KI : Maps.Keyed P K) {t e : TypeId} (ht : P.underlying t = some (.map K e)) (hk : P.underlying K = some (.int .i64)) {z : Value} (hz : (zeroValue e).run P w = .ok z w) {x : Int} (hx : (Lit.int .i64 x).wf = true) :
    (Instr.lookup t (.map (some b)) (.int .i64 x) true).run P w = .ok (.tuple #[(f x).getD z, .bool (f x).isSome]) w := by
  obtain ⟨D, hD, hf⟩ := h
  obtain ⟨v, ps, hr, hv⟩ := hD.look_ok KI ht hz (zd := .held z) (zp := []) rfl (Maps.keyOf_int_mk hk hx)
  obtain ⟨h1, h2⟩ := hf x hx
  rw [hr, h1]
  unfold heldR at hv
  simp only [Option.some.injEq, Prod.mk.injEq] at hv
  cases hfx : f x with
  | none =>
    rw [hfx] at h1
    have := hv.1
    rw [Maps.atKey_of_not_has h1] at this
    simp only [DataW.held.injEq] at this
    rw [this]; rfl
  | some u =>
    have := hv.1
    rw [h2 u hfx] at this
    simp only [DataW.held.injEq] at this
    rw [this]; rfl
theorem MapI.look (h : MapI P K w b n f) (KI : Maps.Keyed P K) {t e : TypeId} (ht : P.underlying t = some (.map K e)) (hk : P.underlying K = some (.int .i64)) {z : Value} (hz : (zeroValue e).run P w = .ok z w) {x : Int} (hx : (Lit.int .i64 x).wf = true) :
    (Instr.lookup t (.map (some b)) (.int .i64 x) false).run P w = .ok ((f x).getD z) w := by
  obtain ⟨D, hD, hf⟩ := h
  obtain ⟨v, ps, hr, hv⟩ := hD.lookup KI ht hz (zd := .held z) (zp := []) rfl (Maps.keyOf_int_mk hk hx)
  obtain ⟨h1, h2⟩ := hf x hx
  rw [hr]
  unfold heldR at hv
  simp only [Option.some.injEq, Prod.mk.injEq] at hv
  cases hfx : f x with
  | none =>
    rw [hfx] at h1
    have := hv.1
    rw [Maps.atKey_of_not_has h1] at this
    simp only [DataW.held.injEq] at this
    rw [this]; rfl
  | some u =>
    have := hv.1
    rw [h2 u hfx] at this
    simp only [DataW.held.injEq] at this
    rw [this]; rfl
end
/-- 'm[x] = v' at the operation. -/
theorem wpList_mapI {P : Program} (w : World) {ops : Array Oper} {rest : List Oper} {o : Oper} {a : Act} {Q : Exit → Act → World → Prop}
    (hg : o.guard = none) (m x v : Operand) (t : TypeId) (hop : o.op = Op.mapUpdate t m x v)
    (k e : TypeId) (K : Maps.Keyed P k) (ht : P.underlying t = some (.map k e)) (hk : P.underlying k = some (.int .i64)) (b n : Nat) (f : Int → Option Value)
    (hm : a.eval m = .map (some b)) (hown : MapI P k w b n f) (hn : n < maxLen) (key : Int) (val : Value) (hx : a.eval x = .int .i64 key) (hv : a.eval v = val) (hw : (Lit.int .i64 key).wf = true)
    (hK : ∀ w', MapI P k w' b (n + 1) (fun y => if y = key then some val else f y) → Touch (fun i => i = b) w w' → wpList P ops Q rest (a.put o.dst undef) w') :
    wpList P ops Q (o :: rest) a w := by
  obtain ⟨D, hD, hf⟩ := hown
  have hkey := Maps.keyOf_int_mk (P := P) hk hw
  refine wpList_mapUpdate_own w hg m x v t hop k e K ht heldR b n D hm hD hn (.int .i64 key) val _ hx hv hkey (.held val) [] rfl fun w' h1 h2 => ?_
  refine hK w' ⟨_, h1, fun y hy => ?_⟩ (grown_touch h2 _ (fun i hi _ => by cases hi; rfl))
  by_cases e : y = key
  · subst e
    dsimp only
    rw [if_pos rfl]
    refine ⟨Maps.has_put_same hD.isMap (K.key hkey) _, fun v hv z => ?_⟩
    cases hv
    exact Maps.atKey_put_same hD.isMap (K.key hkey) _ _
  · dsimp only
    rw [if_neg e]
    have hne : (Lit.int .i64 y) ≠ .int .i64 key := fun h => e (by injection h)
    exact ⟨(Maps.has_put_other hne _).trans (hf y hy).1, fun v hv z => (Maps.atKey_put_other hne _ _).trans ((hf y hy).2 v hv z)⟩
end Go.Proofs.YtbmidhlilafgeaaGreatDoor
