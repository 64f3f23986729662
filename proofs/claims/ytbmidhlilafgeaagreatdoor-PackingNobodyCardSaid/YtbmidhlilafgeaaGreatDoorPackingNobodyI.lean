/- Part 9 of what PackingNobody leans on: my own lemmas, merged by shake.py. -/
import Derived.Test.YtbmidhlilafgeaaGreatDoorPackingNobodyH
section
namespace Go.Proofs.YtbmidhlilafgeaaGreatDoor
open Go.RowKit Word

def HdsAt (w : World) (A : Option Addr) (l : List Hdr) : Prop := ∀ i (h : i < l.length), ∃ b o, A = some ⟨b, o, none⟩ ∧ b < w.heap.size ∧
  w.cell? ⟨b, o + i * 3, none⟩ = some (.int .i64 l[i].p) ∧ w.cell? ⟨b, o + i * 3 + 1, none⟩ = some (.int .i64 l[i].f) ∧ w.cell? ⟨b, o + i * 3 + 2, none⟩ = some (.int .i64 l[i].k)
def U8sAt (w : World) (A : Option Addr) (l : List Nat) : Prop := ∀ i (h : i < l.length), ∃ b o, A = some ⟨b, o, none⟩ ∧ b < w.heap.size ∧ l[i] < 256 ∧ w.cell? ⟨b, o + i, none⟩ = some (.int .u8 (l[i] : Nat))
/-- The data of a heap that is laid, as they lie in memory. -/
structure LaidCAt (w : World) (A1 A2 A3 : Option Addr) (x : LaidC) : Prop where
  h : HdsAt w A1 x.H
  p : U8sAt w A2 x.P
  r : U8sAt w A3 x.R
  lh : x.H.length ≤ 9223372036854775807
  lp : x.P.length ≤ 4611686018427387904
  lr : x.R.length ≤ 9223372036854775807
  pg : x.pg < 256
  bk : x.bk < 256
  st : x.st < 256
  ah : x.ah < 256
def laidV (x : LaidC) (A1 A2 A3 : Option Addr) (c1 c2 c3 : Nat) : List Value := [.int .u8 x.pg, .slice A1 x.H.length c1, .slice A2 x.P.length c2, .slice A3 x.R.length c3, .int .u8 x.bk, .int .u8 x.st, .int .u8 x.ah]
/-- While the starts are found. -/
structure L24A (w wr : World) (x : LaidC) (xs : List Value) (k : Nat) (vS : Value) : Prop where
  rx : Rec wr w.heap.size 25 xs
  own : wr.ownsRow 0 3 1 vS k (zs (x.starts k))
  ofr : ∀ g, vS.ownBlock = some g → w.heap.size + 1 ≤ g
  t : Touch (fun b => w.heap.size ≤ b) w wr
theorem L24A.gr {w wr w' : World} {x : LaidC} {xs : List Value} {k : Nat} {vS : Value} (h : L24A w wr x xs k vS) (g : Gr wr w') : L24A w w' x xs k vS :=
  ⟨h.rx.gr g, own_gr h.own g, h.ofr, h.t.trans (g.touch _)⟩
theorem L24A.app {w wr w' : World} {x : LaidC} {xs : List Value} {A : Option Addr} {c g2 c2 k : Nat} (h : L24A w wr x xs k (.slice A k c)) (t : Touch (fun b => (Value.slice A k c).ownBlock = some b) wr w')
    (ho : w'.ownsRow 0 3 1 (.slice (some ⟨g2, 0, none⟩) (k + 1) c2) (k + 1) (zs (x.starts k) ++ [.int .i64 ((x.at k : Nat) : Int)])) (hat : (Value.slice A k c).ownBlock = some g2 ∨ wr.heap.size ≤ g2) : L24A w w' x xs (k + 1) (.slice (some ⟨g2, 0, none⟩) (k + 1) c2) := by
  have hl := h.rx.lt
  refine ⟨h.rx.touch t (fun e => own_ne h.own h.rx (by decide) e rfl rfl), by rw [x.starts_succ]; exact ho, fun g hg => ?_, h.t.trans (t.mono (fun i _ e => by have := h.ofr i e; omega))⟩
  cases hg
  rcases hat with h' | h'
  · exact h.ofr _ h'
  · show w.heap.size + 1 ≤ g2
    omega
def cfL (c : Cf) : List Value := [.int .i64 c.fr, .int .i64 c.tp, .int .i64 c.to, .int .i64 c.lm, .int .i64 c.bk, .int .i64 c.st, .int .i64 c.ah]
/-- While a heap is laid. -/
structure L24 (w wr : World) (x : LaidC) (xs : List Value) (q r g b11 : Nat) (v : Vm) (rs : List Int) (vS vF : Value) (F : List Int) : Prop where
  rx : Rec wr w.heap.size 25 xs
  own : wr.ownsRow 0 3 1 vS x.k (zs (x.starts x.k))
  ofr : ∀ g, vS.ownBlock = some g → w.heap.size + 1 ≤ g
  cf : Rec wr b11 34 (cfL x.cf)
  lb : w.heap.size + 1 ≤ b11
  vm : ∃ SV, VmAt wr SV q v ∧ (∀ i, SV i → w.heap.size + 1 ≤ i) ∧ (∀ g, vS.ownBlock = some g → ¬ SV g) ∧ (∀ g, vF.ownBlock = some g → ¬ SV g) ∧ ¬ SV b11 ∧ ¬ SV r ∧ ¬ SV g
  rt : RtAt wr r g rs
  lr : w.heap.size + 1 ≤ r ∧ w.heap.size + 1 ≤ g
  fo : wr.ownsRow 0 3 1 vF F.length (zs F)
  fl : ∀ g, vF.ownBlock = some g → w.heap.size + 1 ≤ g
  gS : ∀ g', vS.ownBlock = some g' → g' ≠ g
  gF : ∀ g', vF.ownBlock = some g' → g' ≠ g
  SF : ∀ g1 g2, vS.ownBlock = some g1 → vF.ownBlock = some g2 → g1 ≠ g2
  t : Touch (fun b => w.heap.size ≤ b) w wr
section
variable {w wr w' : World} {x : LaidC} {xs : List Value} {q r g b11 : Nat} {v v' : Vm} {rs : List Int} {vS vF : Value} {F : List Int}
theorem L24.gr (h : L24 w wr x xs q r g b11 v rs vS vF F) (g' : Gr wr w') : L24 w w' x xs q r g b11 v rs vS vF F := by
  obtain ⟨h1, h2, h3, h4, h5, ⟨SV, h6, h7⟩, h8, h9, h10, h11, h12, h13, h14, h15⟩ := h
  exact ⟨h1.gr g', own_gr h2 g', h3, h4.gr g', h5, ⟨SV, h6.gr g', h7⟩, h8.gr g', h9, own_gr h10 g', h11, h12, h13, h14, h15.trans (g'.touch _)⟩
/-- Behind a call that turned the memory. -/
theorem L24.turn (h : L24 w wr x xs q r g b11 v rs vS vF F) {SV : Nat → Prop} (hs : ∀ i, SV i → w.heap.size + 1 ≤ i) (hS : ∀ g, vS.ownBlock = some g → ¬ SV g) (hF : ∀ g, vF.ownBlock = some g → ¬ SV g) (hb : ¬ SV b11) (hr : ¬ SV r) (hg : ¬ SV g)
    (t : Touch SV wr w') (hv : VmAt w' (plus SV wr) q v') : L24 w w' x xs q r g b11 v' rs vS vF F := by
  have hz := h.t.size
  have hl := h.rx.lt
  have hbl := h.cf.lt
  have hrl := h.rt.lt
  refine ⟨h.rx.touch t (fun h => by have := hs _ h; omega), own_touch h.own t hS, h.ofr, h.cf.touch t hb, h.lb, ⟨plus SV wr, hv, fun i hi => ?_, fun g hg' hi => ?_, fun g hg' hi => ?_, fun hi => ?_, fun hi => ?_, fun hi => ?_⟩, h.rt.touch t hr hg, h.lr, own_touch h.fo t hF, h.fl, h.gS, h.gF, h.SF, h.t.trans (t.mono (fun i _ hi => by have := hs i hi; omega))⟩
  · exact hi.elim (hs i) (fun h => by omega)
  · exact hi.elim (hS g hg') (fun h' => by have := (own_lt h.own hg').2; omega)
  · exact hi.elim (hF g hg') (fun h' => by have := (own_lt h.fo hg').2; omega)
  · exact hi.elim hb (fun h => by omega)
  · exact hi.elim hr (fun h => by omega)
  · exact hi.elim hg (fun h => by omega)
/-- One more field. -/
theorem L24.app {A : Option Addr} {c g2 c2 N : Nat} {a : Int} (h : L24 w wr x xs q r g b11 v rs vS (.slice A N c) F) (hN : N = F.length) (t : Touch (fun k => (Value.slice A N c).ownBlock = some k) wr w')
    (ho : w'.ownsRow 0 3 1 (.slice (some ⟨g2, 0, none⟩) (N + 1) c2) (N + 1) (zs F ++ [.int .i64 a])) (hat : (Value.slice A N c).ownBlock = some g2 ∨ wr.heap.size ≤ g2) : L24 w w' x xs q r g b11 v rs vS (.slice (some ⟨g2, 0, none⟩) (N + 1) c2) (F ++ [a]) := by
  obtain ⟨h1, h2, h3, h4, h5, ⟨SV, h6, h7, h7a, h7b, h7c, h7d, h7e⟩, h8, h9, h10, h11, h12, h13, h14, h15⟩ := h
  have hl := h1.lt
  have hrl := h8.lt
  have hne : ∀ k, (Value.slice A N c).ownBlock = some k → k ≠ b11 := fun k hk => own_ne h10 h4 (by decide) hk rfl
  have hnr : ∀ k, (Value.slice A N c).ownBlock = some k → k ≠ r := fun k hk => own_ne h10 h8.rcd (by decide) hk rfl
  refine ⟨h1.touch t (fun e => own_ne h10 h1 (by decide) e rfl rfl), own_touch h2 t (fun g1 hg1 e => h14 g1 g1 hg1 e rfl), h3, h4.touch t (fun e => hne _ e rfl), h5, ⟨cutS SV wr, h6.cut.touch t (fun i hi _ e => h7b i e hi.1), fun i hi => h7 i hi.1, fun g1 hg1 hi => h7a g1 hg1 hi.1, fun g1 hg1 hi => ?_, fun hi => h7c hi.1, fun hi => h7d hi.1, fun hi => h7e hi.1⟩, h8.touch t (fun e => hnr _ e rfl) (fun e => h13 _ e rfl), h9, ?_, fun g1 hg1 => ?_, h12, fun g1 hg1 => ?_, fun g1 g3 hg1 hg3 => ?_, h15.trans (t.mono (fun i _ e => by have := h11 i e; omega))⟩
  · cases hg1
    rcases hat with h | h
    · exact h7b _ h hi.1
    · have : g2 < wr.heap.size := hi.2
      omega
  · rw [List.length_append, ← hN, show zs (F ++ [a]) = zs F ++ [.int .i64 a] by unfold zs; rw [List.map_append]; rfl]
    exact ho
  · cases hg1
    rcases hat with h | h
    · exact h11 _ h
    · show w.heap.size + 1 ≤ g2
      have := h15.size; omega
  · cases hg1
    rcases hat with h | h
    · exact h13 _ h
    · show g2 ≠ g
      omega
  · cases hg3
    rcases hat with h | h
    · exact h14 _ _ hg1 h
    · have := (own_lt h2 hg1).2
      show g1 ≠ g2
      omega
/-- A root set. -/
theorem L24.set (h : L24 w wr x xs q r g b11 v rs vS vF F) {rs' : List Int} (t : Touch (fun k => k = g) wr w') (hr : RtAt w' r g rs') : L24 w w' x xs q r g b11 v rs' vS vF F := by
  obtain ⟨h1, h2, h3, h4, h5, ⟨SV, h6, h7, h7a, h7b, h7c, h7d, h7e⟩, h8, h9, h10, h11, h12, h13, h14, h15⟩ := h
  have hne : g ≠ b11 := own_ne h8.row h4 (by decide) rfl rfl
  exact ⟨h1.touch t (fun e => by have := h1.lt; omega), own_touch h2 t (fun g1 hg1 e => h12 g1 hg1 e), h3, h4.touch t (fun e => hne e.symm), h5, ⟨SV, h6.touch t (fun i hi _ e => h7e (e ▸ hi)), h7, h7a, h7b, h7c, h7d, h7e⟩, hr, h9, own_touch h10 t (fun g1 hg1 e => h13 g1 hg1 e), h11, h12, h13, h14, h15.trans (t.mono (fun i _ e => by omega))⟩
end
/-- The memory alone, a header's block told apart too. -/
def L24V (w wr : World) (q : Nat) (v : Vm) (vS vF : Value) (b11 r g bh : Nat) : Prop := ∃ SV, VmAt wr SV q v ∧ (∀ i, SV i → w.heap.size + 1 ≤ i) ∧ (∀ g, vS.ownBlock = some g → ¬ SV g) ∧ (∀ g, vF.ownBlock = some g → ¬ SV g) ∧ ¬ SV b11 ∧ ¬ SV r ∧ ¬ SV g ∧ ¬ SV bh
def heapL (x : LaidC) (q r : Nat) (vL : Value) : List Value := [.pointer (some ⟨q, 0, none⟩), .pointer (some ⟨r, 0, none⟩), .int .i64 x.cf.fr, .int .i64 x.cf.tp, .int .i64 x.cf.to, .int .i64 x.cf.lm, .int .i64 x.cf.bk, .int .i64 x.cf.st, .int .i64 x.cf.ah, vL, .int .i64 (x.page : Nat)]
/-- While the words are read. -/
structure L24R (w wr : World) (x : LaidC) (q r g hp : Nat) (v : Vm) (rs : List Int) (k : Nat) (vL : Value) : Prop where
  hr : Rec wr hp 37 (heapL x q r vL)
  own : wr.ownsRow 0 50 1 vL k (wrds v k)
  vm : ∃ SV, VmAt wr SV q v ∧ (∀ i, SV i → w.heap.size + 1 ≤ i) ∧ (∀ g, vL.ownBlock = some g → ¬ SV g) ∧ ¬ SV hp ∧ ¬ SV r ∧ ¬ SV g
  rt : RtAt wr r g rs
  hl : w.heap.size + 1 ≤ hp
  lr : w.heap.size + 1 ≤ r ∧ w.heap.size + 1 ≤ g
  ofr : ∀ g, vL.ownBlock = some g → w.heap.size + 1 ≤ g
  t : Touch (fun b => w.heap.size ≤ b) w wr
theorem L24R.gr {w wr w' : World} {x : LaidC} {q r g hp : Nat} {v : Vm} {rs : List Int} {k : Nat} {vL : Value} (h : L24R w wr x q r g hp v rs k vL) (g' : Gr wr w') : L24R w w' x q r g hp v rs k vL := by
  obtain ⟨h1, h2, ⟨SV, h3, h4⟩, h5, h6, h7, h8, h9⟩ := h
  exact ⟨h1.gr g', own_gr h2 g', ⟨SV, h3.gr g', h4⟩, h5.gr g', h6, h7, h8, h9.trans (g'.touch _)⟩
theorem L24R.app {w wr w1 : World} {x : LaidC} {q r g hp : Nat} {v : Vm} {rs : List Int} {A : Option Addr} {c g2 c2 k : Nat} (h : L24R w wr x q r g hp v rs k (.slice A k c)) (t : Touch (fun b => (Value.slice A k c).ownBlock = some b) wr w1)
    (ho : w1.ownsRow 0 50 1 (.slice (some ⟨g2, 0, none⟩) (k + 1) c2) (k + 1) (wrds v k ++ [.int .u64 (v.ldV k : Nat)])) (hat : (Value.slice A k c).ownBlock = some g2 ∨ wr.heap.size ≤ g2) :
    L24R w (w1.setCell ⟨hp, 9, none⟩ (.slice (some ⟨g2, 0, none⟩) (k + 1) c2)) x q r g hp v rs (k + 1) (.slice (some ⟨g2, 0, none⟩) (k + 1) c2) := by
  obtain ⟨h1, h2, ⟨SV, h3, h4, h5, h6, h7, h7'⟩, h8, h9, h10, h11, h12⟩ := h
  have hne : ∀ b, (Value.slice A k c).ownBlock = some b → b ≠ hp := fun b hb => own_ne h2 h1 (by decide) hb rfl
  have hnr : ∀ b, (Value.slice A k c).ownBlock = some b → b ≠ r := fun b hb => own_ne h2 h8.rcd (by decide) hb rfl
  have hng : ∀ b, (Value.slice A k c).ownBlock = some b → b ≠ g := fun b hb => own_ne h2 h8.row (by decide) hb rfl
  have hr1 := h1.touch t (fun e => hne _ e rfl)
  have hgp : g2 ≠ hp := own_ne ho hr1 (by decide) rfl rfl
  have tH := (Touch.refl (fun b => b = hp) w1).setCell (a := ⟨hp, 9, none⟩) (fun _ => rfl) (.slice (some ⟨g2, 0, none⟩) (k + 1) c2)
  have hrh : r ≠ hp := own_ne h8.rcd h1 (by decide) rfl rfl
  have hgh : g ≠ hp := own_ne h8.row h1 (by decide) rfl rfl
  have hwz := h12.size
  have hh1 := h1.lt
  refine ⟨hr1.set 9 _, ?_, ⟨cutS SV wr, (h3.cut.touch t (fun i hi _ e => h5 i e hi.1)).touch tH (fun i hi _ e => h6 (e ▸ hi.1)), fun i hi => h4 i hi.1, fun b hb hi => ?_, fun h => h6 h.1, fun h => h7 h.1, fun h => h7' h.1⟩, ?_, h9, h10, fun b hb => ?_, (h12.trans (t.mono (fun i _ e => by have := h11 i e; omega))).trans (tH.mono (fun i _ e => by omega))⟩
  · rw [wrds_succ]
    exact own_touch ho tH (fun b hb e => by cases hb; exact hgp e)
  · cases hb
    rcases hat with h | h
    · exact h5 _ h hi.1
    · have : g2 < wr.heap.size := hi.2
      omega
  · exact (h8.touch t (fun e => hnr _ e rfl) (fun e => hng _ e rfl)).touch tH hrh hgh
  · cases hb
    rcases hat with h | h
    · exact h11 _ h
    · show w.heap.size + 1 ≤ g2
      omega
def Lay24End (w : World) (x : LaidC) (more : Nat) (e : Ending) (w' : World) : Prop :=
  ∃ hp q r g A c v0 SV, e = .returned (.pointer (some ⟨hp, 0, none⟩)) ∧ Gr w w' ∧ Run24 x (x.room + more) v0 ∧ (∀ a : Nat, a < x.n → v0.ldV a = 0) ∧ VmAt w' SV q (layC x v0) ∧ RtAt w' r g x.rs ∧
    Rec w' hp 37 (heapL x q r (.slice A x.n c)) ∧ Wrds w' A c x.n (layC x v0) ∧ (∀ i, SV i → w.heap.size ≤ i ∧ i < w'.heap.size) ∧ ¬ SV hp ∧ ¬ SV r ∧ ¬ SV g ∧ (w.heap.size ≤ hp ∧ w.heap.size ≤ r ∧ w.heap.size ≤ g) ∧ (∀ b, (Value.slice A x.n c).ownBlock = some b → w.heap.size ≤ b ∧ ¬ SV b)
theorem fit_at {x : LaidC} {k : Nat} (hf : ∀ j, j < k → fitC x.H j = true) (hk : k ≤ x.H.length) : k ≤ x.k ∧ k ≤ szC x.H k ∧ szC x.H k ≤ 512 := by
  have h1 : k ≤ x.k := by
    rcases Nat.lt_or_ge x.k k with h | h
    · have := hf _ h
      have h2 := first_at (fun k => !fitC x.H k) x.H.length (show x.k < x.H.length by omega)
      have h2 : (!fitC x.H x.k) = true := h2
      rw [this] at h2
      cases h2
    · exact h
  have h3 := szC_le x.H
  have h4 := szC_mono x.H (i := k) (j := kC x.H) h1
  have h5 : ∀ j, j ≤ k → j ≤ szC x.H j := fun j => by
    induction j with
    | zero => intro _; exact Nat.zero_le _
    | succ j ih =>
      intro h
      obtain ⟨p, f, c, -, -, -, h1', -⟩ := kC_hd (H := x.H) (j := j) (by have : x.k = kC x.H := rfl; omega)
      have := ih (by omega)
      omega
  exact ⟨h1, h5 k (Nat.le_refl _), by omega⟩
theorem wrd_wrap (y : Nat) : IntKind.u64.wrap ((y : Int) * 11400714819323198485) = (wrdC y : Int) := by rw [IntKind.wrap_u64]; unfold wrdC; omega
set_option maxRecDepth 100000 in
set_option maxHeartbeats 6400000 in
theorem lay24_walk {w : World} {A1 A2 A3 : Option Addr} {c1 c2 c3 : Nat} {x : LaidC} (hL : LaidCAt w A1 A2 A3 x) {more : Nat} (hm : more ≤ 2000) :
    Calls Tryz.prog 13 #[.agg (laidV x A1 A2 A3 c1 c2 c3).toArray, .int .i64 more] w (Lay24End w x more) := by
  have HIN := hid hL
  obtain ⟨N1, hN1⟩ : ∃ N, N = x.H.length := ⟨_, rfl⟩
  obtain ⟨N2, hN2⟩ : ∃ N, N = x.P.length := ⟨_, rfl⟩
  obtain ⟨N3, hN3⟩ : ∃ N, N = x.R.length := ⟨_, rfl⟩
  have hf1 := hL.lh
  have hf2 := hL.lp
  have hf3 := hL.lr
  have hu1 := hL.pg
  have hu2 := hL.bk
  have hu3 := hL.st
  have hu4 := hL.ah
  have hpgb := x.page_pos
  have HPG : Hid (wrap64 (2 ^ (x.pg % 6)) = (x.page : Int)) := ⟨by
    have h6 : x.pg % 6 < 6 := Nat.mod_lt _ (by decide)
    have e : x.page = 2 ^ (x.pg % 6) := rfl
    rw [e]
    rcases (by omega : x.pg % 6 = 0 ∨ x.pg % 6 = 1 ∨ x.pg % 6 = 2 ∨ x.pg % 6 = 3 ∨ x.pg % 6 = 4 ∨ x.pg % 6 = 5) with h | h | h | h | h | h <;> rw [h] <;> decide +kernel⟩
  obtain ⟨xs, hxs⟩ : ∃ xs, xs = laidV x A1 A2 A3 c1 c2 c3 := ⟨_, rfl⟩
  have hxs' := hxs
  unfold laidV at hxs'
  rw [← hN1, ← hN2, ← hN3] at hxs'
  rw [← hxs]
  have HN := hid (And.intro hN1 (And.intro hN2 hN3))
  have HXS := hid hxs'
  rw [← hN1] at hf1
  rw [← hN2] at hf2
  rw [← hN3] at hf3
  have rx := Rec.new w 25 xs
  have hga := (Gr.refl w).alloc (.cells xs.toArray 25)
  have HL0 : Hid (L24A w (w.alloc (.cells xs.toArray 25)) x xs 0 (.slice none 0 0)) := ⟨rx, own_nil _ _ _ _, (fun g hg => by cases hg), hga.touch _⟩
  obtain ⟨W0, hW0⟩ : ∃ W0, W0 = w.alloc (.cells xs.toArray 25) := ⟨_, rfl⟩
  have hg0 : Gr w W0 := by rw [hW0]; exact hga
  have hs0 : W0.heap.size = w.heap.size + 1 := by rw [hW0, World.size_alloc]
  rw [← hW0] at HL0
  rw [hxs'] at HL0 hW0 ⊢
  have HG0 := hid hg0
  have y0 := HL0.out.rx.cell (j := 0) rfl
  have y1 := HL0.out.rx.cell (j := 1) rfl
  have yl := HL0.out.rx.lt
  clear hL hN1 hN2 hN3 hxs hxs' rx hga hg0
  go_enter Tryz.func13, Tryz.ntmps13
  go_upto_region 1 with (fail)
  rw [show w.alloc (.cells #[.int .u8 x.pg, .slice A1 N1 c1, .slice A2 N2 c2, .slice A3 N3 c3, .int .u8 x.bk, .int .u8 x.st, .int .u8 x.ah] 25) = W0 from hW0.symm]
  clear hW0
  go_upto_region 3 with (fail)
  rw [HPG.out]
  obtain ⟨pg, hpge⟩ : ∃ pg, pg = x.page := ⟨_, rfl⟩
  have HPGE := hid hpge
  rw [← hpge] at hpgb ⊢
  clear hpge
  go_upto_block 0 with (fail)
  go_cut [6, 7] (fun s6 s7 wx => ∃ vS, s6 = .int .i64 ((x.top : Nat) : Int) ∧ s7 = vS ∧ Hid (L24A w wx x [.int .u8 x.pg, .slice A1 N1 c1, .slice A2 N2 c2, .slice A3 N3 c3, .int .u8 x.bk, .int .u8 x.st, .int .u8 x.ah] x.k vS))
  case first =>
    go_wp2_with (fail)
    go_loopw [6, 7, 36] (fun s6 s7 s36 wr => ∃ (k : Nat) (vS : Value), k ≤ N1 ∧ Hid (L24A w wr x [.int .u8 x.pg, .slice A1 N1 c1, .slice A2 N2 c2, .slice A3 N3 c3, .int .u8 x.bk, .int .u8 x.st, .int .u8 x.ah] k vS) ∧ Hid (∀ j, j < k → fitC x.H j = true) ∧ s6 = .int .i64 ((x.at k : Nat) : Int) ∧ s7 = vS ∧ s36 = .int .i64 k) (fun _ _ s36 _ => N1 - (intOf s36).toNat)
    case atStart => exact ⟨0, _, by omega, HL0, ⟨fun j hj => absurd hj (Nat.not_lt_zero _)⟩, by rw [HPGE.out]; rfl, rfl, rfl⟩
    case round =>
      obtain ⟨k, vS, hk, HLk, HF, rfl, rfl, rfl⟩ := hrel
      clear y0 y1 yl HL0
      by_cases hlast : k = N1
      · have hkk : x.k = k := kC_end (by rw [← HN.out.1]; exact hk) HF.out (fun h => by have := HN.out.1; omega)
        have HKK := hid hkk
        subst hlast
        clear hkk
        go_wp2
        go_meet
        exact ⟨_, by rw [← HKK.out]; rfl, rfl, by rw [HKK.out]; exact HLk⟩
      · have hkl : k < x.H.length := by have := HN.out.1; omega
        obtain ⟨b, o, rfl, hb, e0, e1, e2⟩ := HIN.out.h k hkl
        obtain ⟨fa1, fa2, fa3⟩ := fit_at HF.out (Nat.le_of_lt hkl)
        have hhd : hdC x.H k = x.H[k] := by unfold hdC; rw [List.getD_eq_getElem?_getD, List.getElem?_eq_getElem hkl]; rfl
        obtain ⟨⟨p, f, c⟩, hh⟩ : ∃ h, h = x.H[k] := ⟨_, rfl⟩
        rw [← hh] at e0 e1 e2 hhd
        have HTT := hid HLk.out.t
        have i0 := (HTT.out.cell hb (by omega) (o + k * 3)).trans e0
        have i1 := (HTT.out.cell hb (by omega) (o + k * 3 + 1)).trans e1
        have i2 := (HTT.out.cell hb (by omega) (o + k * 3 + 2)).trans e2
        have y1 := HLk.out.rx.cell (j := 1) rfl
        have HKN := hid (And.intro hk hlast)
        have hkN : (k : Int) < (N1 : Int) := by omega
        have HSZ := hid (fun W => hdr_size ⟨p, f, c⟩ W)
        unfold hdrV at HSZ
        obtain ⟨tk, htk⟩ : ∃ tk, tk = x.at k := ⟨_, rfl⟩
        have htke : tk = pg + szC x.H k := by rw [htk, HPGE.out]; rfl
        have HTK := hid htk
        rw [← htk]
        clear hb e0 e1 e2 hh hlast htk
        by_cases hfit : fitC x.H k = true
        · obtain ⟨hE, hS⟩ := fitC_iff.1 hfit
          rw [hhd] at hE
          obtain ⟨p, f, c, hh, hs⟩ := hdrE_zero hE
          simp only [Hdr.mk.injEq] at hh
          obtain ⟨rfl, rfl, rfl⟩ := hh
          have hN : hdrN ⟨(p : Int), f, c⟩ = ((1 + p + f + c : Nat) : Int) := by rw [show hdrN ⟨p, f, c⟩ = 1 + (p : Int) + f + c from if_pos (hdrE_of hs)]; push_cast; rfl
          have hsz : szC x.H (k + 1) = szC x.H k + (1 + p + f + c) := by
            show szC x.H k + (hdrN (hdC x.H k)).toNat = _
            rw [hhd, hN]; omega
          rw [hN] at HSZ
          obtain ⟨z, hz⟩ : ∃ z, z = 1 + p + f + c := ⟨_, rfl⟩
          rw [← hz] at hsz HSZ
          have hnx : x.at (k + 1) = tk + z := by rw [htke, HPGE.out]; unfold LaidC.at; rw [hsz]; omega
          have HNX := hid hnx
          have d0 : ((z : Int) == 0) = false := by simp; omega
          have e0 : decide (512 + (pg : Int) - (tk : Int) < (z : Int)) = false := decide_eq_false (by omega)
          have hz256 : z ≤ 256 := by omega
          have HFIT := hid hfit
          have htkb : tk ≤ 600 := by omega
          have hkb : k ≤ 512 := by omega
          have hown := HLk.out.own
          obtain ⟨A, cc, rfl, hc1, hc2⟩ := own_shape hown
          unfold maxLen at hc2
          have HO := hid hown
          obtain ⟨ii, hii, hi0, hi1, hi2⟩ := info_parts infoIntV
          have HRH := hid (Rec.new wr 90 [.int .i64 p, .int .i64 f, .int .i64 c])
          clear hfit hE hS hN hsz hnx hz hhd htke hown fa1 fa2 fa3 hkl
          go_wp2_with (first
            | (go_at_call 55; refine (HSZ.out _).mono ?_; rintro e w3 ⟨rfl, hg3⟩; have HG3 := hid (((Gr.refl wr).alloc _).trans hg3); clear hg3)
            | (at_builtin; refine wpList_append_lies _ rfl _ _ 30 rfl 0 3 ii _ 1 8 Tryz.underlying30 hii hi0 hi1 hi2 rfl (by decide) (.slice A k cc) k (zs (x.starts k)) rfl ((own_gr HO.out HG3.out).alloc _) ⟨w3.heap.size, 0, none⟩ 1 1 [.int .i64 (tk : Int)] rfl rfl (World.news_of_block (cs := #[.int .i64 (tk : Int)]) (t := 3) (fr := (0, 0)) (heap_alloc_new w3 (.cells #[.int .i64 (tk : Int)] 3))) (by simp [Value.oneCell']) (by omega) (by unfold maxLen; omega) (by omega) (Nat.zero_le _) (w3.heap.size + 1) (by simp) ?_; intro g4 c4 w4 hown4 hgrow4 hat4 hlt4; have t4 : Touch (fun b => (Value.slice A k cc).ownBlock = some b) w3 w4 := (((Gr.refl _).alloc _).touch _).trans (grown_touch hgrow4 _ (fun b e _ => e)); have HT4 := hid t4; have HO4 := hid hown4; have HA4 := hid hat4; clear hown4 hgrow4 hat4 hlt4 t4))
          go_round
          case rel =>
            refine ⟨k + 1, .slice (some ⟨g4, 0, none⟩) (k + 1) c4, by have := HKN.out; omega, ⟨?_⟩, ⟨fun j hj => ?_⟩, by rw [HNX.out]; go_num, rfl, by go_num⟩
            · refine (HLk.out.gr HG3.out).app HT4.out (by rw [← HTK.out]; exact HO4.out) (HA4.out.imp id (fun h => by omega))
            · rcases Nat.lt_or_ge j k with h | h
              · exact HF.out j h
              · rw [show j = k by omega]; exact HFIT.out
          case measure => have := HKN.out; simp [intOf]; omega
        · have hkk : x.k = k := kC_end (Nat.le_of_lt hkl) HF.out (fun _ => by simpa using hfit)
          have HKK := hid hkk
          by_cases hE : hdrE ⟨p, f, c⟩ = 0
          · obtain ⟨p, f, c, hh, hs⟩ := hdrE_zero hE
            simp only [Hdr.mk.injEq] at hh
            obtain ⟨rfl, rfl, rfl⟩ := hh
            have hN : hdrN ⟨(p : Int), f, c⟩ = ((1 + p + f + c : Nat) : Int) := by rw [show hdrN ⟨p, f, c⟩ = 1 + (p : Int) + f + c from if_pos (hdrE_of hs)]; push_cast; rfl
            have hsz : szC x.H (k + 1) = szC x.H k + (1 + p + f + c) := by
              show szC x.H k + (hdrN (hdC x.H k)).toNat = _
              rw [hhd, hN]; omega
            have hbig : ¬ szC x.H (k + 1) ≤ 512 := fun h => hfit (fitC_iff.2 ⟨by rw [hhd]; exact hE, h⟩)
            rw [hN] at HSZ
            obtain ⟨z, hz⟩ : ∃ z, z = 1 + p + f + c := ⟨_, rfl⟩
            rw [← hz] at hsz HSZ
            have d0 : ((z : Int) == 0) = false := by simp; omega
            have e0 : decide (512 + (pg : Int) - (tk : Int) < (z : Int)) = true := decide_eq_true (by omega)
            have hz256 : z ≤ 256 := by omega
            have htkb : tk ≤ 600 := by omega
            clear hfit hE hN hsz hz hhd htke fa1 fa2 fa3 hkl hbig hkk
            go_wp2_with (go_at_call 55; refine (HSZ.out _).mono ?_; rintro e w3 ⟨rfl, hg3⟩; have HG3 := hid (((Gr.refl wr).alloc _).trans hg3); clear hg3)
            go_meet
            exact ⟨_, by rw [HTK.out, ← HKK.out]; rfl, rfl, by rw [HKK.out]; exact ⟨HLk.out.gr HG3.out⟩⟩
          · have hN : hdrN ⟨p, f, c⟩ = 0 := if_neg hE
            rw [hN] at HSZ
            clear hfit hE hN hhd htke fa1 fa2 fa3 hkl hkk
            go_wp2_with (go_at_call 55; refine (HSZ.out _).mono ?_; rintro e w3 ⟨rfl, hg3⟩; have HG3 := hid (((Gr.refl wr).alloc _).trans hg3); clear hg3)
            go_meet
            exact ⟨_, by rw [HTK.out, ← HKK.out]; rfl, rfl, by rw [HKK.out]; exact ⟨HLk.out.gr HG3.out⟩⟩
  case rest =>
    obtain ⟨vS, rfl, rfl, HLA⟩ := hcut
    clear y0 y1 yl HL0
    obtain ⟨A, cc, rfl, hc1, hc2⟩ := own_shape HLA.out.own
    unfold maxLen at hc2
    have y3 := HLA.out.rx.cell (j := 3) rfl
    have y4 := HLA.out.rx.cell (j := 4) rfl
    have y5 := HLA.out.rx.cell (j := 5) rfl
    have y6 := HLA.out.rx.cell (j := 6) rfl
    have yl := HLA.out.rx.lt
    have htop := x.top_le
    rw [← HPGE.out] at htop
    obtain ⟨tp, htpe⟩ : ∃ tp, tp = x.top := ⟨_, rfl⟩
    have HTP := hid htpe
    rw [← htpe] at htop ⊢
    clear htpe
    have HBK : Hid (wrap64 (2 ^ (x.bk % 8)) = ((2 ^ (x.bk % 8) : Nat) : Int)) := ⟨by
      have h6 : x.bk % 8 < 8 := Nat.mod_lt _ (by decide)
      rcases (by omega : x.bk % 8 = 0 ∨ x.bk % 8 = 1 ∨ x.bk % 8 = 2 ∨ x.bk % 8 = 3 ∨ x.bk % 8 = 4 ∨ x.bk % 8 = 5 ∨ x.bk % 8 = 6 ∨ x.bk % 8 = 7) with h | h | h | h | h | h | h | h <;> rw [h] <;> decide +kernel⟩
    go_upto_region 13 with (fail)
    have hcfl : ([.int .i64 (pg : Int), .int .i64 (tp : Int), .int .i64 ((pg : Int) + 512), .int .i64 ((pg : Int) + 1024), .int .i64 (wrap64 (2 ^ (x.bk % 8))), .int .i64 ((x.st : Int) % 20 + 1), .int .i64 ((x.ah : Int) % 5)] : List Value) = cfL x.cf := by
      rw [HBK.out, HPGE.out, HTP.out]; rfl
    obtain ⟨W1, hW1⟩ : ∃ W1, W1 = wc.alloc (.cells #[.int .i64 (pg : Int), .int .i64 (tp : Int), .int .i64 ((pg : Int) + 512), .int .i64 ((pg : Int) + 1024), .int .i64 (wrap64 (2 ^ (x.bk % 8))), .int .i64 ((x.st : Int) % 20 + 1), .int .i64 ((x.ah : Int) % 5)] 34) := ⟨_, rfl⟩
    have hg1 : Gr wc W1 := by rw [hW1]; exact (Gr.refl wc).alloc _
    have hs1 : W1.heap.size = wc.heap.size + 1 := by rw [hW1, World.size_alloc]
    have rc := Rec.new wc 34 [.int .i64 (pg : Int), .int .i64 (tp : Int), .int .i64 ((pg : Int) + 512), .int .i64 ((pg : Int) + 1024), .int .i64 (wrap64 (2 ^ (x.bk % 8))), .int .i64 ((x.st : Int) % 20 + 1), .int .i64 ((x.ah : Int) % 5)]
    rw [show wc.alloc (.cells ([.int .i64 (pg : Int), .int .i64 (tp : Int), .int .i64 ((pg : Int) + 512), .int .i64 ((pg : Int) + 1024), .int .i64 (wrap64 (2 ^ (x.bk % 8))), .int .i64 ((x.st : Int) % 20 + 1), .int .i64 ((x.ah : Int) % 5)] : List Value).toArray 34) = W1 from hW1.symm, hcfl] at rc
    rw [← hW1]
    have HRC := hid rc
    have HLB := hid (HLA.out.gr hg1)
    have z0 := rc.cell (j := 0) rfl
    have z1 := rc.cell (j := 1) rfl
    have z2 := rc.cell (j := 2) rfl
    have z3 := rc.cell (j := 3) rfl
    have z4 := rc.cell (j := 4) rfl
    have z5 := rc.cell (j := 5) rfl
    have z6 := rc.cell (j := 6) rfl
    have zl := rc.lt
    have u3 := HLB.out.rx.cell (j := 3) rfl
    have ul := HLB.out.rx.lt
    have hwc := HLA.out.t.size
    have HW1 := hid (And.intro hs1 hwc)
    obtain ⟨b11, hb11⟩ : ∃ b, b = wc.heap.size := ⟨_, rfl⟩
    have HB11 : Hid (w.heap.size + 1 ≤ b11) := ⟨by have := HLA.out.rx.lt; omega⟩
    rw [← hb11] at z0 z1 z2 z3 z4 z5 z6 zl HRC ⊢
    have HRM := hid (fun W => lay_room x W)
    rw [← HPGE.out] at HRM
    unfold cfV at HRM
    have hrm := x.room_le
    obtain ⟨-, -, hq3, hq4, hq5⟩ := new24_ok (x := x) (rm := x.room + more) (by omega) (by omega)
    have HNV := hid (fun W => vm_new (n := x.n) (pg := x.page) (rm := x.room + more) (new24_ok (x := x) (rm := x.room + more) (by omega) (by omega)).1 (new24_ok (x := x) (rm := x.room + more) (by omega) (by omega)).2.1 (by unfold LaidC.n; omega) hq4 hq3 x.page_pos.1 (by have := x.page_pos; omega) W)
    rw [show ((x.n : Nat) : Int) = (pg : Int) + 1024 by rw [HPGE.out]; rfl, show ((x.page : Nat) : Int) = (pg : Int) by rw [HPGE.out], show ((x.room + more : Nat) : Int) = (x.room : Int) + (more : Int) by push_cast; rfl] at HNV
    have hmin := run_minB2 Tryz.prog
    have hmax := run_maxB2 Tryz.prog
    have HNR := hid (fun W => rt_new (n := x.nr) x.nr_le.1 x.nr_le.2 W)
    rw [show ((x.nr : Nat) : Int) = max 1 (min (N3 : Int) 64) by unfold LaidC.nr; rw [← HN.out.2.2]; omega] at HNR
    clear hcfl hW1 rc hg1 hs1 hb11 y3 y4 y5 y6 yl hq3 hq4 hq5 hwc
    obtain ⟨rmN, hrmN⟩ : ∃ rmN, rmN = x.room := ⟨_, rfl⟩
    have HRN := hid hrmN
    rw [← hrmN] at HRM HNV hrm
    clear hrmN
    go_upto_region 15 with (first
      | (go_at_call 57; refine (HRM.out _).mono ?_; rintro e w2 ⟨rfl, hg2⟩; have HG2 := hid hg2; clear hg2)
      | (go_at_call 56; refine (HNV.out _).mono ?_; rintro e w3 ⟨q, rfl, hg3, hv3⟩; have HG3 := hid (HG2.out.trans hg3); have HV3 := hid (And.intro hv3 HG2.out.size); have u3' := (HG3.out.cell ul 3).trans u3; have ul' := Nat.lt_of_lt_of_le ul HG3.out.size; clear hg3 hv3)
      | (go_at_call 58; refine (HNR.out _).mono ?_; rintro e w4 ⟨r, g, rfl, hg4, hr4, hlr, hlg⟩; have HG4 := hid (HG3.out.trans hg4); have HG34 := hid hg4; have HR4 := hid hr4; have HRL := hid (And.intro hlr hlg); clear hg4 hr4 hlr hlg))
    have hrm2 : x.room + more ≤ 4096 := by rw [← HRN.out]; omega
    have hrm1 : 1 ≤ x.room + more := by have := x.room_le; omega
    have HND : Hid (Calls Tryz.prog 59 #[.pointer (some ⟨q, 0, none⟩), .int .i64 (pg : Int), .int .i64 (tp : Int)] w4 fun e w' => e = .returned (.int .i64 0) ∧ ∃ v0, Run24 x (x.room + more) v0 ∧ (∀ a : Nat, a < x.n → v0.ldV a = 0) ∧ Touch (cutS (fun k => w2.heap.size ≤ k) w3) w4 w' ∧ VmAt w' (plus (cutS (fun k => w2.heap.size ≤ k) w3) w4) q v0) := ⟨by
      have hv4 := HV3.out.1.cut.gr HG34.out
      rw [HRN.out] at hv4
      rw [HPGE.out, HTP.out]
      by_cases hlt : x.page < x.top
      · have hnd := vm_need hv4 x.page x.top (by show x.top ≤ x.n; unfold LaidC.n; have := x.top_le; omega) hlt
        rw [(need24 (x := x) (rm := x.room + more) (by omega) hlt).1] at hnd
        refine hnd.mono ?_
        rintro e w' ⟨rfl, ht, v', hg, hv⟩
        obtain ⟨h1, h2⟩ := run24_grown hrm1 hrm2 (by omega) hlt hg
        exact ⟨rfl, v', h1, h2, ht, hv⟩
      · refine (vm_need_none hv4 x.page x.top (by show x.top ≤ x.n; unfold LaidC.n; have := x.top_le; omega) (by omega)).mono ?_
        rintro e w' ⟨rfl, hg⟩
        obtain ⟨h1, h2⟩ := run24_none (x := x) hrm1 hrm2 hlt
        exact ⟨rfl, _, h1, h2, hg.touch _, (hv4.gr hg).mono (fun b hb => .inl hb)⟩⟩
    clear z0 z1 z2 z3 z4 z5 z6 zl u3 ul u3' ul' hmin hmax
    go_upto_block 2 with (go_at_call 59; refine HND.out.mono ?_; rintro e w5 ⟨rfl, v0, hr5, hz5, ht5, hv5⟩; have HR5 := hid hr5; have HZ5 := hid hz5; have HT5 := hid ht5; have HV5 := hid hv5; clear hr5 hz5 ht5 hv5)
    have hz0 := HG3.out.size
    have hz2 := HV3.out.2
    have hz3 := HG34.out.size
    have hz5 := HT5.out.size
    obtain ⟨hw1, hw2⟩ := HW1.out
    obtain ⟨hlr, hlg⟩ := HRL.out
    have hSV : ∀ i, plus (cutS (fun k => w2.heap.size ≤ k) w3) w4 i → w2.heap.size ≤ i := fun i hi => hi.elim (fun h => h.1) (fun h => by have : w3.heap.size ≤ w4.heap.size := hz3; have : w2.heap.size ≤ w3.heap.size := (HV3.out.1.row.elim fun _ h => by obtain ⟨_, _, _, hr, -⟩ := h; have := hr.lt; have h2 := HV3.out.1.sq; omega); omega)
    have hz1 : W1.heap.size ≤ w2.heap.size := HV3.out.2
    have hrl := HR4.out.lt
    have hcl := HRC.out.lt
    have hxl := HLB.out.rx.lt
    have hnoT : ∀ i, i < W1.heap.size → ¬ cutS (fun k => w2.heap.size ≤ k) w3 i := fun i hi h => by have := h.1; omega
    have hnoV : ∀ i, i < W1.heap.size → ¬ plus (cutS (fun k => w2.heap.size ≤ k) w3) w4 i := fun i hi h => by have := hSV i h; omega
    have HL24 : Hid (L24 w w5 x [.int .u8 x.pg, .slice A1 N1 c1, .slice A2 N2 c2, .slice A3 N3 c3, .int .u8 x.bk, .int .u8 x.st, .int .u8 x.ah] q r g b11 v0 (List.replicate x.nr 0) (.slice A x.k cc) (.slice none 0 0) []) := ⟨by
      refine ⟨(HLB.out.rx.gr HG4.out).touch HT5.out (hnoT _ hxl), own_touch (own_gr HLB.out.own HG4.out) HT5.out (fun g1 hg1 => hnoT _ (own_lt HLB.out.own hg1).2), HLB.out.ofr, (HRC.out.gr HG4.out).touch HT5.out (hnoT _ hcl), HB11.out, ⟨_, HV5.out, fun i hi => by have := hSV i hi; omega, fun g1 hg1 => hnoV _ (own_lt HLB.out.own hg1).2, (fun g1 hg1 => by cases hg1), hnoV _ hcl, fun h => ?_, fun h => ?_⟩, HR4.out.touch HT5.out (fun h => by have := h.2; omega) (fun h => by have := h.2; omega), ⟨by omega, by omega⟩, own_nil _ _ _ _, (fun g1 hg1 => by cases hg1), fun g1 hg1 e => ?_, (fun g1 hg1 => by cases hg1), (fun g1 g2 _ hg2 => by cases hg2), ?_⟩
      · exact h.elim (fun h => by have := h.2; omega) (fun h => by omega)
      · exact h.elim (fun h => by have := h.2; omega) (fun h => by omega)
      · have := (own_lt HLB.out.own hg1).2; omega
      · exact (HLB.out.t.trans (HG4.out.touch _)).trans (HT5.out.mono (fun i _ h => by have := h.1; omega))⟩
    have hkb : x.k ≤ 512 := by have := szC_len (H := x.H); have := szC_le x.H; have : x.k = kC x.H := rfl; omega
    obtain ⟨K, hKe⟩ : ∃ K, K = x.k := ⟨_, rfl⟩
    have HK := hid hKe
    have hmp : ∀ a : Nat, x.page ≤ a → a < x.top → v0.ldE a = 0 := fun a h1 h2 => by
      have ht := x.top_le
      rw [HR5.out.le a (by unfold LaidC.n; omega), if_pos]
      refine ⟨h1, ?_⟩
      unfold upN
      have h3 := Nat.div_add_mod (x.top + x.page - 1) x.page
      have h4 := Nat.mod_lt (x.top + x.page - 1) (show 0 < x.page by have := x.page_pos; omega)
      rw [Nat.mul_comm] at h3
      omega
    have HMP := hid hmp
    clear hz0 hz2 hz3 hz5 hw1 hw2 hlr hlg hSV hz1 hrl hcl hxl hnoT hnoV hmp
    rw [← hKe] at hc1 hkb ⊢
    clear hKe
    go_cut [16, 17] (fun s16 s17 wx => ∃ (n : Nat) (vF : Value) (v : Vm) (F : List Int), s16 = .int .i64 n ∧ s17 = vF ∧ Hid (L24 w wx x [.int .u8 x.pg, .slice A1 N1 c1, .slice A2 N2 c2, .slice A3 N3 c3, .int .u8 x.bk, .int .u8 x.st, .int .u8 x.ah] q r g b11 v (List.replicate x.nr 0) (.slice A x.k cc) vF F) ∧ Hid (objC x.page x.H v0 x.k = (v, n, F)))
    case first =>
      go_wp2_with (fail)
      go_loopw [16, 17, 116] (fun s16 s17 s116 wr => ∃ (j n : Nat) (vF : Value) (v : Vm) (F : List Int), j ≤ K ∧ Hid (L24 w wr x [.int .u8 x.pg, .slice A1 N1 c1, .slice A2 N2 c2, .slice A3 N3 c3, .int .u8 x.bk, .int .u8 x.st, .int .u8 x.ah] q r g b11 v (List.replicate x.nr 0) (.slice A x.k cc) vF F) ∧ Hid (objC x.page x.H v0 j = (v, n, F)) ∧ s16 = .int .i64 n ∧ s17 = vF ∧ s116 = .int .i64 j) (fun _ _ s116 _ => K - (intOf s116).toNat)
      case atStart => exact ⟨0, 0, _, v0, [], by omega, HL24, ⟨rfl⟩, rfl, rfl, rfl⟩
      case round =>
        obtain ⟨j, n, vF, v, F, hj, HLj, HOj, rfl, h17, rfl⟩ := hrel
        have h17 := h17.symm
        subst h17
        clear HL24
        by_cases hlast : j = K
        · have HLS := hid hlast
          subst hlast
          go_wp2
          go_meet
          exact ⟨n, _, v, F, rfl, rfl, HLj, ⟨by rw [← HK.out]; exact HOj.out⟩⟩
        · have hjk : j < kC x.H := by have := HK.out; have : x.k = kC x.H := rfl; omega
          have hkl : j < x.H.length := Nat.lt_of_lt_of_le hjk (kC_le _)
          obtain ⟨b, o, rfl, hb, e0, e1, e2⟩ := HIN.out.h j hkl
          have hhd : hdC x.H j = x.H[j] := by unfold hdC; rw [List.getD_eq_getElem?_getD, List.getElem?_eq_getElem hkl]; rfl
          obtain ⟨p, f, c, hh, hs, hN, hszn, -⟩ := kC_hd hjk
          rw [← hhd, hh] at e0 e1 e2
          have HTT := hid HLj.out.t
          have i0 := (HTT.out.cell hb (by omega) (o + j * 3)).trans e0
          have i1 := (HTT.out.cell hb (by omega) (o + j * 3 + 1)).trans e1
          have i2 := (HTT.out.cell hb (by omega) (o + j * 3 + 2)).trans e2
          have y1 := HLj.out.rx.cell (j := 1) rfl
          have yl := HLj.out.rx.lt
          have hown := HLj.out.own
          rw [← HK.out] at hown
          obtain ⟨gs, c', ea, -, -, -, hgl⟩ := own_form hown (by omega)
          simp only [Value.slice.injEq] at ea
          obtain ⟨rfl, -, rfl⟩ := ea
          have kc := own_cell hown (x.starts_at (k := K) (j := j) (by omega))
          obtain ⟨aa, haa⟩ : ∃ aa, aa = x.at j := ⟨_, rfl⟩
          have HAA := hid haa
          have hab : aa ≤ 600 := by
            have := at_mono (x := x) (i := j) (j := x.k) (Nat.le_of_lt hjk)
            have h2 : x.at x.k = x.top := rfl
            have := x.top_le
            have := x.page_pos
            omega
          rw [← haa] at kc
          obtain ⟨SV, hvm, hsv, hvS, hvF, hvb, hvr, hvg⟩ := HLj.out.vm
          have HVC := hid (hvm.cut.gr ((Gr.refl wr).alloc (.cells #[.int .i64 p, .int .i64 f, .int .i64 c] 90)))
          have HSV := hid (And.intro hsv (And.intro hvS (And.intro hvF (And.intro hvb (And.intro hvr hvg)))))
          have HJ := hid (And.intro hj hlast)
          have hjK : (j : Int) < (K : Int) := by omega
          have hjN : (j : Int) < (N1 : Int) := by have := HN.out.1; omega
          have HHD := hid (And.intro hh (And.intro hs hN))
          have HSZ := hid (fun W => hdr_size ⟨p, f, c⟩ W)
          obtain ⟨z, hz⟩ : ∃ z, z = 1 + p + f + c := ⟨_, rfl⟩
          have hz1 : 1 ≤ z ∧ z ≤ 256 := by omega
          have HZ := hid hz
          rw [show hdrN ⟨(p : Int), f, c⟩ = (z : Int) by rw [show hdrN ⟨p, f, c⟩ = 1 + (p : Int) + f + c from if_pos (hdrE_of hs), hz]; push_cast; rfl] at HSZ
          unfold hdrV at HSZ
          have HMK := hid (obj_make HVC.out (aa : Int) ⟨p, f, c⟩)
          unfold hdrV spV at HMK
          have HRH := hid (Rec.new wr 90 [.int .i64 p, .int .i64 f, .int .i64 c])
          have HL1 := hid (HLj.out.gr ((Gr.refl wr).alloc (.cells #[.int .i64 p, .int .i64 f, .int .i64 c] 90)))
          have hbl : b < wr.heap.size := Nat.lt_of_lt_of_le hb HTT.out.size
          clear hz hb e0 e1 e2 hhd hh hs hN hszn haa hvm hsv hvS hvF hvb hvr hvg hlast hj hown hkl hjk
          go_upto_block 4 with (first
            | (go_at_call 60; refine HMK.out.mono ?_; rintro e w6 ⟨rfl, ht6, hv6⟩; have HT6 := hid ht6; have HV6 := hid hv6; have HRH6 := hid (HRH.out.touch ht6 (fun h => absurd h.2 (Nat.lt_irrefl _))); have j0 := HRH6.out.cell (j := 0) rfl; have j1 := HRH6.out.cell (j := 1) rfl; have j2 := HRH6.out.cell (j := 2) rfl; have jl := HRH6.out.lt; clear ht6 hv6)
            | (go_at_call 55; refine (HSZ.out _).mono ?_; rintro e w7 ⟨rfl, hg7⟩; have HG7 := hid hg7; clear hg7))
          obtain ⟨bh, hbh⟩ : ∃ bh, bh = wr.heap.size := ⟨_, rfl⟩
          have hwz := HLj.out.t.size
          have HBH : Hid (w.heap.size + 1 ≤ bh ∧ wr.heap.size ≤ bh) := ⟨by omega⟩
          have HL2 : Hid (L24 w w7 x [.int .u8 x.pg, .slice (some ⟨b, o, none⟩) N1 c1, .slice A2 N2 c2, .slice A3 N3 c3, .int .u8 x.bk, .int .u8 x.st, .int .u8 x.ah] q r g b11 (mkVm v (aa : Int) ⟨p, f, c⟩) (List.replicate x.nr 0) (.slice (some ⟨gs, 0, none⟩) x.k cc) vF F) := ⟨(HL1.out.turn (fun i hi => HSV.out.1 i hi.1) (fun g1 hg1 hi => HSV.out.2.1 g1 hg1 hi.1) (fun g1 hg1 hi => HSV.out.2.2.1 g1 hg1 hi.1) (fun hi => HSV.out.2.2.2.1 hi.1) (fun hi => HSV.out.2.2.2.2.1 hi.1) (fun hi => HSV.out.2.2.2.2.2 hi.1) HT6.out HV6.out).gr HG7.out⟩
          have HRH7 := hid (HRH6.out.gr HG7.out)
          have HLV2 : Hid (L24V w w7 q (mkVm v (aa : Int) ⟨p, f, c⟩) (.slice (some ⟨gs, 0, none⟩) x.k cc) vF b11 r g wr.heap.size) := ⟨by
            have hz6 := HL1.out.rx.lt
            have hs6 : (wr.alloc (.cells #[.int .i64 p, .int .i64 f, .int .i64 c] 90)).heap.size = wr.heap.size + 1 := World.size_alloc _ _
            have hbl := HLj.out.cf.lt
            have hrl := HLj.out.rt.lt
            refine ⟨_, HV6.out.gr HG7.out, fun i hi => ?_, fun g1 hg1 hi => ?_, fun g1 hg1 hi => ?_, fun hi => ?_, fun hi => ?_, fun hi => ?_, fun hi => ?_⟩
            · exact hi.elim (fun h => HSV.out.1 i h.1) (fun h => by omega)
            · exact hi.elim (fun h => HSV.out.2.1 g1 hg1 h.1) (fun h => by have := (own_lt HLj.out.own hg1).2; omega)
            · exact hi.elim (fun h => HSV.out.2.2.1 g1 hg1 h.1) (fun h => by have := (own_lt HLj.out.fo hg1).2; omega)
            · exact hi.elim (fun h => HSV.out.2.2.2.1 h.1) (fun h => by omega)
            · exact hi.elim (fun h => HSV.out.2.2.2.2.1 h.1) (fun h => by omega)
            · exact hi.elim (fun h => HSV.out.2.2.2.2.2 h.1) (fun h => by omega)
            · exact hi.elim (fun h => by have := h.2; omega) (fun h => by omega)⟩
          rw [← hbh] at HRH7 HLV2 ⊢
          clear hbh j0 j1 j2 jl i0 i1 i2 y1 yl kc
          go_wp2_with (fail)
          go_loopw [16, 17, 134] (fun s16 s17 s134 wr => ∃ (m n' : Nat) (vG : Value) (v' : Vm) (G : List Int), m + 1 ≤ z ∧ Hid (L24 w wr x [.int .u8 x.pg, .slice (some ⟨b, o, none⟩) N1 c1, .slice A2 N2 c2, .slice A3 N3 c3, .int .u8 x.bk, .int .u8 x.st, .int .u8 x.ah] q r g b11 v' (List.replicate x.nr 0) (.slice (some ⟨gs, 0, none⟩) x.k cc) vG G) ∧ Hid (fldC aa p (mkVm v (aa : Int) ⟨p, f, c⟩, n, F) m = (v', n', G)) ∧ Hid (Rec wr bh 90 [.int .i64 p, .int .i64 f, .int .i64 c]) ∧ Hid (L24V w wr q v' (.slice (some ⟨gs, 0, none⟩) x.k cc) vG b11 r g bh) ∧ s16 = .int .i64 n' ∧ s17 = vG ∧ s134 = .int .i64 m) (fun _ _ s134 _ => z - (intOf s134).toNat)
          case atStart => exact ⟨0, n, _, _, F, by omega, HL2, ⟨rfl⟩, HRH7, HLV2, rfl, rfl, rfl⟩
          case round =>
            obtain ⟨m, n', vG, v', G, hm', HLm, HFm, HRm, HVm, rfl, h17, rfl⟩ := hrel
            have h17 := h17.symm
            subst h17
            have j0 := HRm.out.cell (j := 0) rfl
            have jl := HRm.out.lt
            by_cases hml : m + 1 = z
            · have HML := hid hml
              have e0 : decide ((m : Int) < (z : Int) - 1) = false := decide_eq_false (by omega)
              have HMM := hid hm'
              clear hm'
              go_wp2
              go_round
              case rel =>
                refine ⟨j + 1, n', _, v', G, by have := HJ.out; omega, HLm, ⟨?_⟩, rfl, rfl, by go_num⟩
                show fldC (x.page + szC x.H j) (hdC x.H j).p.toNat (mkVm (objC x.page x.H v0 j).1 ((x.page + szC x.H j : Nat) : Int) (hdC x.H j), (objC x.page x.H v0 j).2) ((hdrN (hdC x.H j)).toNat - 1) = _
                rw [HHD.out.2.2, HHD.out.1, HOj.out, show x.page + szC x.H j = aa from HAA.out.symm]
                have h2 : (((1 + p + f + c : Nat) : Int)).toNat - 1 = m := by have := HML.out; have := HZ.out; omega
                rw [h2]
                exact HFm.out
              case measure => have := HJ.out; simp [intOf]; omega
            · have e0 : decide ((m : Int) < (z : Int) - 1) = true := decide_eq_true (by omega)
              have hst := (Stays.fldC (v := mkVm v (aa : Int) ⟨p, f, c⟩) aa p (s := (mkVm v (aa : Int) ⟨p, f, c⟩, n, F)) (Stays.refl (by obtain ⟨SV', hv', -⟩ := HL2.out.vm; exact hv'.ok)) m).2
              rw [HFm.out] at hst
              have hoc := (Stays.objC (HR5.out.ok) x.page x.H j).2
              rw [HOj.out] at hoc
              have hs512 : szC x.H j ≤ 600 := by have e : x.at j = x.page + szC x.H j := rfl; have := HAA.out; omega
              dsimp only at hst hoc
              have HML := hid (And.intro hm' hml)
              have hmz : m + 1 < z := by omega
              clear hm' hml
              by_cases hmp : m < p
              · have hmpI : (m : Int) < (p : Int) := by omega
                have HF1 : Hid (fldC aa p (mkVm v (aa : Int) ⟨p, f, c⟩, n, F) (m + 1) = (v', n', G ++ [((aa + 1 + m : Nat) : Int)])) := ⟨by
                  show (if m < p then _ else _) = _
                  rw [if_pos hmp, HFm.out]⟩
                have hcast : ((aa + 1 + m : Nat) : Int) = (aa : Int) + 1 + (m : Int) := by push_cast; rfl
                have HCAST := hid hcast
                have hfo := HLm.out.fo
                obtain ⟨Af, cf', rfl, hc3, hc4⟩ := own_shape hfo
                unfold maxLen at hc4
                obtain ⟨Nf, hNf⟩ : ∃ N, N = G.length := ⟨_, rfl⟩
                have hNle : Nf ≤ 1000 := by omega
                have HNF := hid hNf
                rw [← hNf] at hc3
                have HO : Hid (wr.ownsRow 0 3 1 (.slice Af Nf cf') Nf (zs G)) := ⟨by rw [hNf]; exact hfo⟩
                have HLG : Hid (L24 w wr x [.int .u8 x.pg, .slice (some ⟨b, o, none⟩) N1 c1, .slice A2 N2 c2, .slice A3 N3 c3, .int .u8 x.bk, .int .u8 x.st, .int .u8 x.ah] q r g b11 v' (List.replicate x.nr 0) (.slice (some ⟨gs, 0, none⟩) x.k cc) (.slice Af Nf cf') G) := ⟨by rw [hNf]; exact HLm.out⟩
                obtain ⟨ii, hii, hi0, hi1, hi2⟩ := info_parts infoIntV
                clear hst hoc hs512 hcast hfo
                rw [← hNf]
                clear hNf
                go_wp2_with (at_builtin; refine wpList_append_lies _ rfl _ _ 30 rfl 0 3 ii _ 1 8 Tryz.underlying30 hii hi0 hi1 hi2 rfl (by decide) (.slice Af Nf cf') Nf (zs G) rfl (HO.out.alloc _) ⟨wr.heap.size, 0, none⟩ 1 1 [.int .i64 ((aa : Int) + 1 + (m : Int))] rfl rfl (World.news_of_block (cs := #[.int .i64 ((aa : Int) + 1 + (m : Int))]) (t := 3) (fr := (0, 0)) (heap_alloc_new wr (.cells #[.int .i64 ((aa : Int) + 1 + (m : Int))] 3))) (by simp [Value.oneCell']) (by omega) (by unfold maxLen; omega) (by omega) (Nat.zero_le _) (wr.heap.size + 1) (by simp) ?_; intro g3 c4 w8 hown3 hgrow3 hat3 hlt3; have t3 : Touch (fun k => (Value.slice Af Nf cf').ownBlock = some k) wr w8 := (((Gr.refl _).alloc _).touch _).trans (grown_touch hgrow3 _ (fun k e _ => e)); have HT3 := hid t3; have HO3 := hid hown3; have HA3 := hid hat3; clear hown3 hgrow3 hat3 hlt3 t3)
                go_round
                case rel =>
                  refine ⟨m + 1, n', .slice (some ⟨g3, 0, none⟩) (Nf + 1) c4, v', G ++ [((aa + 1 + m : Nat) : Int)], by have := HML.out; omega, ⟨HLG.out.app HNF.out HT3.out (by rw [HCAST.out]; exact HO3.out) (HA3.out.imp id (fun h => by omega))⟩, HF1, ⟨HRm.out.touch HT3.out (fun e => own_ne HO.out HRm.out (by decide) e rfl rfl)⟩, ⟨?_⟩, rfl, rfl, by go_num⟩
                  obtain ⟨SV, hvm, hsv, hvS, hvF, hvb, hvr, hvg, hvh⟩ := (show L24V w wr q v' (.slice (some ⟨gs, 0, none⟩) x.k cc) (.slice Af Nf cf') b11 r g bh by rw [HNF.out]; exact HVm.out)
                  refine ⟨cutS SV wr, hvm.cut.touch HT3.out (fun i hi _ e => hvF i e hi.1), fun i hi => hsv i hi.1, fun g1 hg1 hi => hvS g1 hg1 hi.1, fun g1 hg1 hi => ?_, fun hi => hvb hi.1, fun hi => hvr hi.1, fun hi => hvg hi.1, fun hi => hvh hi.1⟩
                  cases hg1
                  rcases HA3.out with h | h
                  · exact hvF _ h hi.1
                  · have : g3 < wr.heap.size := hi.2
                    omega
                case measure => have := HML.out; simp [intOf]; omega
              · have hmpI : ¬ (m : Int) < (p : Int) := by omega
                have e1 : decide ((m : Int) < (p : Int)) = false := decide_eq_false hmpI
                have e2 : decide (m < p) = false := decide_eq_false hmp
                have HF1 : Hid (fldC aa p (mkVm v (aa : Int) ⟨p, f, c⟩, n, F) (m + 1) = (v'.st ((aa + 1 + m : Nat) : Int) (wrdC (n' + 1)), n' + 1, G)) := ⟨by
                  show (if m < p then _ else _) = _
                  rw [if_neg hmp, HFm.out]⟩
                have hcast : ((aa + 1 + m : Nat) : Int) = (aa : Int) + 1 + (m : Int) := by push_cast; rfl
                have hnb : n' ≤ 1000 := by omega
                obtain ⟨y, hy⟩ : ∃ y, y = n' + 1 := ⟨_, rfl⟩
                have hyI : (n' : Int) + 1 = (y : Int) := by omega
                have HY := hid hy
                have hyb : y ≤ 1001 := by omega
                have hw1 : IntKind.u64.wrap (y : Int) = (y : Int) := by rw [IntKind.wrap_u64]; omega
                have hw2 : IntKind.u64.wrap ((y : Int) * 11400714819323198485) = (wrdC y : Int) := wrd_wrap y
                obtain ⟨SV, hvm, hsv, hvS, hvF, hvb, hvr, hvg, hvh⟩ := HVm.out
                have HVH := hid hvh
                have HST := hid (vm_store hvm.cut ((aa + 1 + m : Nat) : Int) (wrdC_lt y))
                rw [hcast] at HST
                have HSV' := hid (And.intro hsv (And.intro hvS (And.intro hvF (And.intro hvb (And.intro hvr hvg)))))
                have HCAST := hid hcast
                obtain ⟨wd, hwd⟩ : ∃ wd, wd = wrdC y := ⟨_, rfl⟩
                rw [← hwd] at hw2 HST
                have HWD := hid hwd
                clear hst hoc hs512 hcast hvm hsv hvS hvF hvb hvr hvg hvh hwd hy
                go_upto_region 29 with (fail)
                clear hyI
                go_wp2_with (go_at_call 61; refine HST.out.mono ?_; rintro e w8 ⟨rfl, ht8, hv8⟩; have HT8 := hid ht8; have HV8 := hid hv8; clear ht8 hv8)
                go_round
                case rel =>
                  refine ⟨m + 1, n' + 1, _, v'.st ((aa + 1 + m : Nat) : Int) (wrdC (n' + 1)), G, by have := HML.out; omega, ⟨HLm.out.turn (fun i hi => HSV'.out.1 i hi.1) (fun g1 hg1 hi => HSV'.out.2.1 g1 hg1 hi.1) (fun g1 hg1 hi => HSV'.out.2.2.1 g1 hg1 hi.1) (fun hi => HSV'.out.2.2.2.1 hi.1) (fun hi => HSV'.out.2.2.2.2.1 hi.1) (fun hi => HSV'.out.2.2.2.2.2 hi.1) HT8.out (by rw [HCAST.out, ← HY.out, ← HWD.out]; exact HV8.out.mono (fun i hi => .inl hi))⟩, HF1, ⟨HRm.out.touch HT8.out (fun h => HVH.out h.1)⟩, ⟨cutS SV wr, by rw [HCAST.out, ← HY.out, ← HWD.out]; exact HV8.out, fun i hi => HSV'.out.1 i hi.1, fun g1 hg1 hi => HSV'.out.2.1 g1 hg1 hi.1, fun g1 hg1 hi => HSV'.out.2.2.1 g1 hg1 hi.1, fun hi => HSV'.out.2.2.2.1 hi.1, fun hi => HSV'.out.2.2.2.2.1 hi.1, fun hi => HSV'.out.2.2.2.2.2 hi.1, fun hi => HVH.out hi.1⟩, by rw [HY.out], rfl, by go_num⟩
                case measure => have := HML.out; simp [intOf]; omega
    case rest =>
      obtain ⟨n, vF, v, F, rfl, h17, HL5, HO5⟩ := hcut
      have h17 := h17.symm
      subst h17
      clear HL24
      obtain ⟨Af, cf', rfl, hc3, hc4⟩ := own_shape HL5.out.fo
      unfold maxLen at hc4
      have hoc := (Stays.objC (HR5.out.ok) x.page x.H x.k).2
      rw [HO5.out] at hoc
      have hsc := szC_le x.H
      have hNf5 : F.length ≤ 512 := by
        have e : szC x.H x.k = szC x.H (kC x.H) := rfl
        dsimp only at hoc
        omega
      obtain ⟨Nf, hNf⟩ : ∃ N, N = F.length := ⟨_, rfl⟩
      have HNF := hid hNf
      rw [← hNf] at hc3 HL5 hNf5 ⊢
      clear hNf hoc hsc
      have HFX : Hid (x.fields v0 = F ∧ (objC x.page x.H v0 x.k).1 = v) := ⟨by unfold LaidC.fields; rw [HO5.out]; exact ⟨rfl, rfl⟩⟩
      have y2 := HL5.out.rx.cell (j := 2) rfl
      have y2l := HL5.out.rx.lt
      go_upto_block 6 with (fail)
      go_cut [] (fun wx => ∃ (v' : Vm), Hid (L24 w wx x [.int .u8 x.pg, .slice A1 N1 c1, .slice A2 N2 c2, .slice A3 N3 c3, .int .u8 x.bk, .int .u8 x.st, .int .u8 x.ah] q r g b11 v' (List.replicate x.nr 0) (.slice A x.k cc) (.slice Af Nf cf') F) ∧ Hid (v' = layC x v0))
      case first =>
        by_cases h0 : Nf = 0
        · subst h0
          have HV0 : Hid (v = layC x v0) := ⟨by unfold layC; rw [HFX.out.1, if_pos (List.eq_nil_of_length_eq_zero HNF.out.symm), HFX.out.2]⟩
          go_wp2_with (fail)
          go_loopw [22] (fun s22 wr => wr = wc ∧ s22 = .int .i64 0) (fun _ _ => 0)
          case atStart => exact ⟨rfl, rfl⟩
          case round =>
            obtain ⟨rfl, rfl⟩ := hrel
            by_cases h2 : 1 < N2
            · have d0 : decide (1 < N2) = true := decide_eq_true h2
              go_wp2
              go_meet
              exact ⟨v, HL5, HV0⟩
            · have d0 : decide (1 < N2) = false := decide_eq_false h2
              go_wp2
              go_meet
              exact ⟨v, HL5, HV0⟩
        · have HV0 : Hid (layC x v0 = ptrC x F v (N2 / 2)) := ⟨by unfold layC; rw [HFX.out.1, if_neg (fun e => h0 (by rw [HNF.out, e]; rfl)), HFX.out.2, HN.out.2.1]⟩
          have hNp : decide (0 < Nf) = true := decide_eq_true (by omega)
          go_wp2_with (fail)
          go_loopw [22] (fun s22 wr => ∃ (k i : Nat) (v' : Vm), Hid (i = 2 * k) ∧ k ≤ N2 / 2 ∧ Hid (L24 w wr x [.int .u8 x.pg, .slice A1 N1 c1, .slice A2 N2 c2, .slice A3 N3 c3, .int .u8 x.bk, .int .u8 x.st, .int .u8 x.ah] q r g b11 v' (List.replicate x.nr 0) (.slice A x.k cc) (.slice Af Nf cf') F) ∧ Hid (v' = ptrC x F v k) ∧ s22 = .int .i64 i) (fun s22 _ => N2 + 1 - (intOf s22).toNat)
          case atStart => exact ⟨0, 0, v, ⟨rfl⟩, by omega, HL5, ⟨rfl⟩, rfl⟩
          case round =>
            obtain ⟨k, i, v', HI, hk, HLk, HEk, rfl⟩ := hrel
            have hi := HI.out
            have hib : i ≤ 4611686018427387904 := by omega
            clear y2 y2l
            have y2 := HLk.out.rx.cell (j := 2) rfl
            have y2l := HLk.out.rx.lt
            by_cases hlast : i + 1 < N2
            · have d0 : decide ((i : Int) + 1 < (N2 : Int)) = true := decide_eq_true (by omega)
              have d1 : decide (i + 1 < N2) = true := decide_eq_true hlast
              have hil : i < x.P.length := by have := HN.out.2.1; omega
              have hil1 : i + 1 < x.P.length := by have := HN.out.2.1; omega
              obtain ⟨b, o, rfl, hb, hp1, e0⟩ := HIN.out.p i hil
              obtain ⟨b', o', hbo, -, hp2, e1⟩ := HIN.out.p (i + 1) hil1
              simp only [Option.some.injEq, Addr.mk.injEq, and_true] at hbo
              obtain ⟨rfl, rfl⟩ := hbo
              have HTT := hid HLk.out.t
              have i0 := (HTT.out.cell hb (by omega) (o + i)).trans e0
              have i1 := (HTT.out.cell hb (by omega) (o + (i + 1))).trans e1
              obtain ⟨pi, hpi⟩ : ∃ p, p = x.P[i] := ⟨_, rfl⟩
              obtain ⟨pj, hpj⟩ : ∃ p, p = x.P[i + 1] := ⟨_, rfl⟩
              rw [← hpi] at i0 hp1
              rw [← hpj] at i1 hp2
              have HPI : Hid (x.P.getD (2 * k) 0 = pi ∧ x.P.getD (2 * k + 1) 0 = pj) := ⟨by rw [← hi, hpi, hpj, List.getD_eq_getElem?_getD, List.getElem?_eq_getElem hil, List.getD_eq_getElem?_getD, List.getElem?_eq_getElem hil1]; exact ⟨rfl, rfl⟩⟩
              obtain ⟨rr, hrr⟩ : ∃ rr, rr = (pi + i) % Nf := ⟨_, rfl⟩
              have g3 : ((pi : Int) + (i : Int)) % (Nf : Int) = (rr : Int) := by rw [hrr]; rfl
              have g4 : ((pi : Int) + (i : Int)).tmod (Nf : Int) = (rr : Int) := by rw [hrr]; rfl
              have hrN : rr < Nf := by rw [hrr]; exact Nat.mod_lt _ (by omega)
              have hNz : (Nf : Int) ≠ 0 := by omega
              have hfo := HLk.out.fo
              rw [← HNF.out] at hfo
              obtain ⟨gF, c', ea, -, -, -, -⟩ := own_form hfo h0
              simp only [Value.slice.injEq] at ea
              obtain ⟨rfl, -, rfl⟩ := ea
              have hrF : rr < F.length := by rw [← HNF.out]; exact hrN
              have kr := own_cell hfo (j := rr) (u := .int .i64 F[rr]) (by simp [zs, hrF])
              have hgl := (own_lt hfo (g := gF) rfl).2
              obtain ⟨fr, hfr⟩ : ∃ f, f = F[rr] := ⟨_, rfl⟩
              rw [← hfr] at kr
              have hxl := HLk.out.rx.lt
              have hbl : b < wr.heap.size := Nat.lt_of_lt_of_le hb HTT.out.size
              have HST : Hid (ptrC x F v (k + 1) = v'.st fr (x.put pj)) := ⟨by
                show (ptrC x F v k).st _ _ = _
                rw [HPI.out.1, HPI.out.2, ← HNF.out, ← hi, ← hrr, ← HEk.out, hfr, List.getD_eq_getElem?_getD, List.getElem?_eq_getElem hrF]
                rfl⟩
              have hown := HLk.out.own
              rw [← HK.out] at hown
              have HPUT := hid (fun (W : World) (g' : Gr wr W) => lay_put (x := x) (own_gr hown g') HK.out hkb hp2)
              obtain ⟨pt, hpt⟩ : ∃ pt, pt = x.put pj := ⟨_, rfl⟩
              have hptb : pt ≤ 600 := by rw [hpt]; have := x.put_le pj; have := x.top_le; have := x.page_pos; omega
              rw [← hpt] at HPUT HST
              have hw1 : IntKind.u64.wrap (pt : Int) = (pt : Int) := by rw [IntKind.wrap_u64]; omega
              obtain ⟨SV, hvm, hsv, hvS, hvF, hvb, hvr, hvg⟩ := HLk.out.vm
              have HVC := hid (fun (W : World) (g' : Gr wr W) => vm_store (hvm.cut.gr g') fr (x := pt) (by omega))
              have HSV := hid (And.intro hsv (And.intro hvS (And.intro hvF (And.intro hvb (And.intro hvr hvg)))))
              have KS : Hid (∀ W', Gr wr W' → W'.cell? ⟨w.heap.size, 2, none⟩ = some (.slice (some ⟨b, o, none⟩) N2 c2) ∧ W'.cell? ⟨b, o + i, none⟩ = some (.int .u8 pi) ∧ W'.cell? ⟨b, o + (i + 1), none⟩ = some (.int .u8 pj) ∧ W'.cell? ⟨gF, rr, none⟩ = some (.int .i64 fr)) :=
                ⟨fun W' h => ⟨(h.cell hxl 2).trans y2, (h.cell hbl _).trans i0, (h.cell hbl _).trans i1, (h.cell hgl rr).trans kr⟩⟩
              have hiI : (i : Int) < (N2 : Int) := by omega
              have hi1I : (i : Int) + 1 < (N2 : Int) := by omega
              have hrI : (rr : Int) < (Nf : Int) := by omega
              have hk1 : k + 1 ≤ N2 / 2 := by omega
              have hwi1 : IntKind.i64.wrap ((i : Int) + 1) = (i : Int) + 1 := IntWalk.i64_in _ (by omega)
              have hwi2 : ((i : Int) + 1).toNat = i + 1 := by omega
              have hwi3 : (0 : Int) ≤ (i : Int) + 1 := by omega
              have hwp : IntKind.i64.wrap (pi : Int) = (pi : Int) := IntWalk.i64_in _ (by omega)
              have hws : IntKind.i64.wrap ((pi : Int) + (i : Int)) = (pi : Int) + (i : Int) := IntWalk.i64_in _ (by omega)
              clear hfo hown kr hfr hpi hpj hpt hb hbl hxl hgl hvm hsv hvS hvF hvb hvr hvg i0 i1 e0 e1 hrr hrF hil hil1 hi hlast hp1 hp2
              go_upto_region 35 with (fail)
              obtain ⟨Sx, hSx⟩ : ∃ Sx : World → Prop, Sx = fun W' => Gr wr W' := ⟨_, rfl⟩
              have z1 : ∀ p : Held Sx, p.w.cell? ⟨w.heap.size, 2, none⟩ = some (.slice (some ⟨b, o, none⟩) N2 c2) := fun p => (KS.out _ (Held.get hSx p)).1
              have z2 : ∀ p : Held Sx, p.w.cell? ⟨b, o + i, none⟩ = some (.int .u8 pi) := fun p => (KS.out _ (Held.get hSx p)).2.1
              have z3 : ∀ p : Held Sx, p.w.cell? ⟨b, o + (i + 1), none⟩ = some (.int .u8 pj) := fun p => (KS.out _ (Held.get hSx p)).2.2.1
              have z4 : ∀ p : Held Sx, p.w.cell? ⟨gF, rr, none⟩ = some (.int .i64 fr) := fun p => (KS.out _ (Held.get hSx p)).2.2.2
              have hS0 : Sx wr.drew := by rw [hSx]; exact (Gr.refl wr).drew
              have inst : Inhabited (Held Sx) := ⟨⟨_, hS0⟩⟩
              clear hSx
              refine wp_region_mixS Sx 24 [([0, 1, 2, 3, 4, 5, 6, 7, 8, 9, 10, 11, 12, 13, 14, 15, 16, 17, 18, 19, 20, 21], 22), ([23], 24)] [] (by kernel_rfl) (by kernel_rfl) hS0 ?_
              refine segs_step ?_
              simp only [opsAt, List.getElem?_cons_zero, List.getElem?_cons_succ]
              repeat (go_big_quiet_step (fail))
              refine wpQuiet_nil ?_
              go_wp2_with (go_at_call 62; refine (HPUT.out _ (Gr.refl wr).drew).mono ?_; rintro e w3 ⟨rfl, rfl⟩)
              refine ⟨.inr (Held.of hS0), ?_⟩
              refine segs_step ?_
              simp only [opsAt, List.getElem?_cons_zero, List.getElem?_cons_succ]
              repeat (go_big_quiet_step (fail))
              refine wpQuiet_nil ?_
              go_wp2_with (go_at_call 61; refine (HVC.out _ (Gr.refl wr).drew).mono ?_; rintro e w3 ⟨rfl, ht3, hv3⟩; have HT3 := hid ht3; have HV3 := hid hv3; clear ht3 hv3)
              refine ⟨.inl trivial, ?_⟩
              refine segs_end ?_
              refine wpQuiet_nil ?_
              refine NoPanic.normal ?_
              clear z1 z2 z3 z4 hS0 inst
              clear Sx
              go_wp2
              go_round
              case rel =>
                refine ⟨k + 1, i + 2, v'.st fr pt, ⟨by have := HI.out; omega⟩, hk1, ⟨?_⟩, ⟨HST.out.symm⟩, by go_num⟩
                exact (HLk.out.gr (Gr.refl wr).drew).turn (fun j hj => HSV.out.1 j hj.1) (fun gg hg hj => HSV.out.2.1 gg hg hj.1) (fun gg hg hj => HSV.out.2.2.1 gg hg hj.1) (fun hj => HSV.out.2.2.2.1 hj.1) (fun hj => HSV.out.2.2.2.2.1 hj.1) (fun hj => HSV.out.2.2.2.2.2 hj.1) HT3.out (HV3.out.mono (fun j hj => .inl hj))
              case measure => simp [intOf]; omega
            · have d0 : decide ((i : Int) + 1 < (N2 : Int)) = false := decide_eq_false (by omega)
              have hl2 : ¬ (i + 1 < N2) := hlast
              have hl3 : N2 ≤ i + 1 := by omega
              have d1 : decide (i + 1 < N2) = false := decide_eq_false hlast
              have hkk : k = N2 / 2 := by omega
              have HKK := hid hkk
              clear hkk hi
              go_wp2
              go_meet
              exact ⟨v', HLk, ⟨by rw [HV0.out, HEk.out, HKK.out]⟩⟩
      case rest =>
        obtain ⟨v6, HL6, HV6'⟩ := hcut
        clear y2 y2l
        have hnr := x.nr_le
        have HLN := hid (rt_len HL6.out.rt)
        rw [List.length_replicate] at HLN
        obtain ⟨nr, hnre⟩ : ∃ nr, nr = x.nr := ⟨_, rfl⟩
        have HNR2 := hid hnre
        rw [← hnre] at HLN hnr
        have HL60 : Hid (L24 w wc x [.int .u8 x.pg, .slice A1 N1 c1, .slice A2 N2 c2, .slice A3 N3 c3, .int .u8 x.bk, .int .u8 x.st, .int .u8 x.ah] q r g b11 v6 (x.rsN 0) (.slice A x.k cc) (.slice Af Nf cf') F) := ⟨by rw [x.rsN_zero]; exact HL6.out⟩
        clear hnre
        go_upto_block 8 with (go_at_call 63; refine HLN.out.mono ?_; rintro e w6 ⟨rfl, rfl⟩)
        go_cut [] (fun wx => Hid (L24 w wx x [.int .u8 x.pg, .slice A1 N1 c1, .slice A2 N2 c2, .slice A3 N3 c3, .int .u8 x.bk, .int .u8 x.st, .int .u8 x.ah] q r g b11 v6 x.rs (.slice A x.k cc) (.slice Af Nf cf') F))
        case first =>
          go_wp2_with (fail)
          go_loopw [201] (fun s201 wr => ∃ i : Nat, i ≤ nr ∧ Hid (L24 w wr x [.int .u8 x.pg, .slice A1 N1 c1, .slice A2 N2 c2, .slice A3 N3 c3, .int .u8 x.bk, .int .u8 x.st, .int .u8 x.ah] q r g b11 v6 (x.rsN i) (.slice A x.k cc) (.slice Af Nf cf') F) ∧ s201 = .int .i64 i) (fun s201 _ => nr - (intOf s201).toNat)
          case atStart => exact ⟨0, by omega, HL60, rfl⟩
          case round =>
            obtain ⟨i, hi, HLi, rfl⟩ := hrel
            clear HL60
            have y3 := HLi.out.rx.cell (j := 3) rfl
            have y3l := HLi.out.rx.lt
            by_cases hlast : i = nr
            · have HLS := hid hlast
              subst hlast
              go_wp2
              go_meet
              exact ⟨by have := HLi.out; rw [HNR2.out] at this; exact this⟩
            · have hiN : (i : Int) < (nr : Int) := by omega
              have HII := hid (And.intro hi hlast)
              by_cases hiR : i < N3
              · have hil : i < x.R.length := by have := HN.out.2.2; omega
                obtain ⟨b, o, rfl, hb, hp1, e0⟩ := HIN.out.r i hil
                have HTT := hid HLi.out.t
                have i0 := (HTT.out.cell hb (by omega) (o + i)).trans e0
                obtain ⟨pi, hpi⟩ : ∃ p, p = x.R[i] := ⟨_, rfl⟩
                rw [← hpi] at i0 hp1
                have HPI : Hid (x.R.getD i 0 = pi ∧ i < x.R.length) := ⟨by rw [hpi, List.getD_eq_getElem?_getD, List.getElem?_eq_getElem hil]; exact ⟨rfl, hil⟩⟩
                have hown := HLi.out.own
                rw [← HK.out] at hown
                have HPUT := hid (lay_put (x := x) hown HK.out hkb hp1)
                have HSET := hid (rt_set HLi.out.rt (i := i) (by rw [x.rsN_len, ← HNR2.out]; omega) (a := (x.put pi : Nat)) (by omega))
                have e1 : decide ((i : Int) < (N3 : Int)) = true := decide_eq_true (by omega)
                have hiI : (i : Int) < (N3 : Int) := by omega
                have hbl : b < wr.heap.size := Nat.lt_of_lt_of_le hb HTT.out.size
                obtain ⟨pt, hpt⟩ : ∃ pt, pt = x.put pi := ⟨_, rfl⟩
                have HPT := hid hpt
                rw [← hpt] at HPUT HSET
                clear hpt
                clear hb e0 hpi hil hp1 hown hlast hi
                go_wp2_with (first
                  | (go_at_call 62; refine HPUT.out.mono ?_; rintro e w6 ⟨rfl, rfl⟩)
                  | (go_at_call 29; refine HSET.out.mono ?_; rintro e w6 ⟨rfl, ht6, hr6⟩; have HT6 := hid ht6; have HR6 := hid hr6; clear ht6 hr6))
                go_round
                case rel =>
                  refine ⟨i + 1, by have := HII.out; omega, ⟨HLi.out.set HT6.out ?_⟩, by go_num⟩
                  have := HR6.out
                  rw [HPT.out, ← HPI.out.1, x.rsN_set HPI.out.2] at this
                  exact this
                case measure => have := HII.out; simp [intOf]; omega
              · have e1 : decide ((i : Int) < (N3 : Int)) = false := decide_eq_false (by omega)
                have HIR : Hid (¬ i < x.R.length) := ⟨by have := HN.out.2.2; omega⟩
                clear hlast hi
                go_wp2
                go_round
                case rel => exact ⟨i + 1, by have := HII.out; omega, ⟨by rw [x.rsN_skip HIR.out]; exact HLi.out⟩, by go_num⟩
                case measure => have := HII.out; simp [intOf]; omega
        case rest =>
          have HL7 := hcut
          have k0 := HL7.out.cf.cell (j := 0) rfl
          have k1 := HL7.out.cf.cell (j := 1) rfl
          have k2 := HL7.out.cf.cell (j := 2) rfl
          have k3 := HL7.out.cf.cell (j := 3) rfl
          have k4 := HL7.out.cf.cell (j := 4) rfl
          have k5 := HL7.out.cf.cell (j := 5) rfl
          have k6 := HL7.out.cf.cell (j := 6) rfl
          have kl := HL7.out.cf.lt
          have hsty := Stays.layC HR5.out.ok x
          have hrun := HR5.out.stays hsty
          have HRUN := hid hrun
          have HV7 : Hid (v6 = layC x v0) := HV6'
          have hv6n : v6.n = x.n := by rw [HV7.out]; exact hrun.n
          have hrec := Rec.new wc 37 (heapL x q r (.slice none 0 0))
          have hgh := (Gr.refl wc).alloc (.cells (heapL x q r (.slice none 0 0)).toArray 37)
          obtain ⟨WH, hWH⟩ : ∃ WH, WH = wc.alloc (.cells (heapL x q r (.slice none 0 0)).toArray 37) := ⟨_, rfl⟩
          rw [← hWH] at hrec hgh
          have hWH2 : WH = wc.alloc (.cells #[.pointer (some ⟨q, 0, none⟩), .pointer (some ⟨r, 0, none⟩), .int .i64 x.cf.fr, .int .i64 x.cf.tp, .int .i64 x.cf.to, .int .i64 x.cf.lm, .int .i64 x.cf.bk, .int .i64 x.cf.st, .int .i64 x.cf.ah, .slice none 0 0, .int .i64 (pg : Nat)] 37) := by rw [hWH, HPGE.out]; rfl
          obtain ⟨SV, hvm, hsv, -, -, -, hvr, hvg⟩ := HL7.out.vm
          have hcz := HL7.out.t.size
          have hxl := HL7.out.rx.lt
          have HR0 : Hid (L24R w WH x q r g wc.heap.size v6 x.rs 0 (.slice none 0 0)) := ⟨hrec, own_nil _ _ _ _, ⟨cutS SV wc, hvm.cut.gr hgh, fun i hi => hsv i hi.1, (fun g1 hg1 => by cases hg1), fun h => absurd h.2 (Nat.lt_irrefl _), fun h => hvr h.1, fun h => hvg h.1⟩, HL7.out.rt.gr hgh, hxl, HL7.out.lr, (fun g1 hg1 => by cases hg1), HL7.out.t.trans (hgh.touch _)⟩
          have HWDS := hid (fun (W : World) (g' : Gr wc W) => vm_words (hvm.gr g'))
          have HGH := hid hgh
          rw [hv6n] at HWDS
          obtain ⟨hp, hhp⟩ : ∃ hp, hp = wc.heap.size := ⟨_, rfl⟩
          obtain ⟨nn, hnn⟩ : ∃ nn, nn = x.n := ⟨_, rfl⟩
          have HNN := hid hnn
          have hnb : nn ≤ 1056 := by rw [hnn]; have := x.page_pos; unfold LaidC.n; omega
          rw [← hnn] at HWDS
          obtain ⟨ii, hii, hi0, hi1, hi2⟩ := info_parts infoU64
          clear hrec hgh hWH hv6n hvm hsv hvr hvg hcz hxl hsty hrun hnn
          go_upto_region 43 with (fail)
          rw [← hWH2, ← hhp]
          rw [← hhp] at HR0
          clear hWH2 hhp k0 k1 k2 k3 k4 k5 k6 kl
          go_wp2_with (go_at_call 33; refine (HWDS.out _ HGH.out).mono ?_; rintro e w6 ⟨rfl, rfl⟩)
          go_loopw [228] (fun s228 wr => ∃ (k : Nat) (vL : Value), k ≤ nn ∧ Hid (L24R w wr x q r g hp v6 x.rs k vL) ∧ s228 = .int .i64 k) (fun s228 _ => nn - (intOf s228).toNat)
          case atStart => exact ⟨0, _, by omega, HR0, rfl⟩
          case round =>
            obtain ⟨k, vL, hk, HR, rfl⟩ := hrel
            clear HR0
            obtain ⟨A5, c5, rfl, hc5, hc6⟩ := own_shape HR.out.own
            unfold maxLen at hc6
            by_cases hlast : k < nn
            · have d0 : decide ((k : Int) < (nn : Int)) = true := decide_eq_true (by omega)
              obtain ⟨SV, hvm, -⟩ := HR.out.vm
              have HLD := hid (vm_load hvm (k : Int))
              obtain ⟨y, hy⟩ : ∃ y, y = v6.ldV (k : Int) := ⟨_, rfl⟩
              have HY := hid hy
              rw [← hy] at HLD
              have HKN := hid (And.intro hk hlast)
              have hkI : (k : Int) < (nn : Int) := by omega
              have d1 : decide (k < nn) = true := decide_eq_true hlast
              clear hy hvm
              go_wp2_with (first
                | (go_at_call 64; refine HLD.out.mono ?_; rintro e w7 ⟨rfl, hg7⟩; have HR7 := hid (HR.out.gr hg7); have u9 := HR7.out.hr.cell (j := 9) rfl; have u9l := HR7.out.hr.lt; clear hg7)
                | (at_builtin; refine wpList_append_lies _ rfl _ _ 35 rfl 0 50 ii _ 1 8 Tryz.underlying35 hii hi0 hi1 hi2 rfl (by decide) (.slice A5 k c5) k (wrds v6 k) rfl (HR7.out.own.alloc _) ⟨w7.heap.size, 0, none⟩ 1 1 [.int .u64 (y : Nat)] rfl rfl (World.news_of_block (cs := #[.int .u64 (y : Nat)]) (t := 50) (fr := (0, 0)) (heap_alloc_new w7 (.cells #[.int .u64 (y : Nat)] 50))) (by simp [Value.oneCell']) (by have := HKN.out; omega) (by unfold maxLen; have := HKN.out; omega) (by have := HKN.out; omega) (Nat.zero_le _) (w7.heap.size + 1) (by simp) ?_; intro g4 c4 w8 hown4 hgrow4 hat4 hlt4; have t4 : Touch (fun k' => (Value.slice A5 k c5).ownBlock = some k') w7 w8 := (((Gr.refl _).alloc _).touch _).trans (grown_touch hgrow4 _ (fun k e _ => e)); have HT4 := hid t4; have HO4 := hid hown4; have HA4 := hid hat4; have HH4 := HR7.out.hr.touch t4 (fun e => own_ne HR7.out.own HR7.out.hr (by decide) e rfl rfl); have v9 := HH4.cell (j := 9) rfl; have v9f := HH4.free 9; have v9l := HH4.lt; clear hown4 hgrow4 hat4 hlt4 t4 HH4))
              go_round
              case rel =>
                refine ⟨k + 1, _, by have := HKN.out; omega, ⟨HR7.out.app HT4.out (by rw [← HY.out]; exact HO4.out) (HA4.out.imp id (fun h => by omega))⟩, by go_num⟩
              case measure => have := HKN.out; simp [intOf]; omega
            · have d0 : decide ((k : Int) < (nn : Int)) = false := decide_eq_false (by omega)
              have hkn : k = nn := by omega
              have HKE := hid (hkn.trans HNN.out)
              have hkI : ¬ (k : Int) < (nn : Int) := by omega
              have d1 : decide (k < nn) = false := decide_eq_false hlast
              clear hkn
              go_wp2
              go_ret
              have HRF := HR.out
              rw [HKE.out] at HRF
              obtain ⟨SV, hvm, hsv, hvL, hvh, hvr, hvg⟩ := HRF.vm
              have hfin := HRF.own
              rw [HV7.out] at hvm hfin
              exact ⟨hp, q, r, g, A5, c5, v0, cutS SV wr, rfl, (HRF.t.mono (T := fun _ => False) (fun k hk h => by omega)).gr, HR5.out, HZ5.out, hvm.cut, HRF.rt, HRF.hr, hfin, fun i hi => ⟨by have := hsv i hi.1; omega, hi.2⟩, fun h => hvh h.1, fun h => hvr h.1, fun h => hvg h.1, ⟨by have := HRF.hl; omega, by have := HRF.lr; omega, by have := HRF.lr; omega⟩, fun b hb => ⟨by have := HRF.ofr b hb; omega, fun h => hvL b hb h.1⟩⟩
end Go.Proofs.YtbmidhlilafgeaaGreatDoor
end
section
namespace Go.Proofs.YtbmidhlilafgeaaGreatDoor
open Go.RowKit Word

def x25 : LaidC := ⟨2, [⟨0, 0, 3⟩, ⟨0, 0, 3⟩, ⟨0, 0, 3⟩], [], [1], 0, 0, 0⟩
theorem x25_k : x25.k = 3 ∧ x25.page = 4 ∧ x25.at 1 = 8 ∧ x25.room = 5 ∧ x25.top = 16 ∧ x25.rs = [8] ∧ x25.n = 1028 := by decide +kernel
theorem live25 {v0 : Vm} {rm : Nat} (h : Run24 x25 rm v0) : Marks (layC x25 v0) x25.rs x25.n [(8, 4)] := by
  obtain ⟨e1, e2, e3, e4, e5, e6, e7⟩ := x25_k
  have hL := laid_in h.ok h.map
  obtain ⟨p, f, c, e, h1, h2, h3⟩ := hL.ob h.map (j := 1) (by rw [e1]; decide)
  rw [e3] at h1 h2 h3
  have e : (⟨0, 0, 3⟩ : Hdr) = ⟨p, f, c⟩ := e
  simp only [Hdr.mk.injEq] at e
  have hp : p = 0 ∧ f = 0 ∧ c = 3 := by omega
  obtain ⟨rfl, rfl, rfl⟩ := hp
  rw [e6, e7]
  have hr : Rch (layC x25 v0) [8] 8 := Rch.root (List.mem_singleton.2 rfl) (by decide)
  refine Marks.of ⟨⟨by simp, fun o ho => ?_⟩, fun o ho => ?_⟩ (fun r hr _ => ?_) (fun o ho => ?_)
  · rw [List.mem_singleton.1 ho]; simp
  · rw [List.mem_singleton.1 ho]; exact ⟨hr, h1, h3.symm⟩
  · rw [List.mem_singleton.1 hr]; exact ⟨(8, 4), List.mem_singleton.2 rfl, rfl⟩
  · rw [List.mem_singleton.1 ho]
    intro i hi
    have hi : (i : Int) < ((layC x25 v0).rdH ((8 : Nat) : Int)).p := hi
    rw [h2] at hi
    have hi : (i : Int) < 0 := hi
    omega
/-! Of nobody. -/
def x0C : LaidC := ⟨0, [], [], [], 0, 0, 0⟩
end Go.Proofs.YtbmidhlilafgeaaGreatDoor
end
section
namespace Go.Proofs.YtbmidhlilafgeaaGreatDoor
open Go.RowKit Go.Shelf Word
attribute [local go_sem] Oper.semAt_some

/-- A laid heap is packed. -/
theorem pk24_run {w w' : World} {x : LaidC} {rm q r g : Nat} {v0 : Vm} {SV : Nat → Prop} {rs : List Int} (hr : Run24 x rm v0) (hV : VmAt w' SV q (layC x v0)) (hR : RtAt w' r g rs) (hT : TabAt w) (hg : Gr w w') (hsv : ∀ i, SV i → w.heap.size ≤ i) (h1 : ¬ SV r) (h2 : ¬ SV g) (fr tp room : Int) :
    Calls Tryz.prog 28 #[.pointer (some ⟨q, 0, none⟩), .pointer (some ⟨r, 0, none⟩), .int .i64 fr, .int .i64 tp, .int .i64 room] w' (PkEnd w' SV q r g (layC x v0) rs fr tp room) := by
  have hs := hr.stays (Stays.layC hr.ok x)
  exact pk_run hV (by rw [hs.n]; have := x.page_pos; unfold LaidC.n; omega) hR (hg.tab hT.lt hT) (fun h => by have := hsv _ h; have := hT.lt; omega) h1 h2 fr tp room
/-- All of it is packed. -/
theorem run26_ok {x : LaidC} {rm : Nat} {v0 : Vm} {L : List Ob} (hr : Run24 x rm v0) (hM : Marks (layC x v0) x.rs x.n L) {room : Int} (h1 : 1 ≤ room) (h2 : room ≤ 4096)
    {W w' : World} {S : Nat → Prop} {q r g : Nat} {e : Ending} (h : PkEnd W S q r g (layC x v0) x.rs x.page x.top room e w') :
    e = .returned (.tuple #[.int .i64 ((x.page + sizes L : Nat) : Int), .int .i64 0]) ∧ Touch (fun b => b = g ∨ S b) W w' ∧ needE (layC x v0) x.page ((x.page + sizes L : Nat) : Int) = 0 ∧ x.page + sizes L ≤ x.top ∧
      ∃ v1 v2 j, PkDone (layC x v0) x.rs x.page x.top L v1 v2 j ∧ VmAt w' (plus S W) q (pkUm (layC x v0) v2 x.page (x.page + sizes L) j) ∧ RtAt w' r g (x.rs.map (toV L x.page)) := by
  have hst := Stays.layC hr.ok x
  have hs := hr.stays hst
  have hLI := laid_in (x := x) hr.ok hr.map
  have hmk := hLI.marks hr.map hM
  have ht := x.top_le
  have hp := x.page_pos
  have hn : x.n = x.page + 1024 := rfl
  have hin : PkIn (layC x v0) x.rs x.page x.top L := ⟨by rw [hs.n]; exact hM, fun o ho => by have := hmk.1 o ho; omega⟩
  have hall : x.page + sizes L ≤ x.top := by
    rcases Nat.eq_zero_or_pos L.length with h0 | h0
    · have : L = [] := List.eq_nil_of_length_eq_zero h0
      subst this
      simp only [sizes]; omega
    · have hj : L.length - 1 < L.length := by omega
      have e1 := pk_le hM.mkd.good (fun o ho => (hmk.1 o ho).1) hj
      have e2 := hmk.1 _ (List.getElem_mem hj)
      have e3 := sizes_take hj
      rw [show L.length - 1 + 1 = L.length by omega, List.take_length] at e3
      omega
  have hE : needE (layC x v0) x.page ((x.page + sizes L : Nat) : Int) = 0 := need_in hs.ok (by rw [hs.n]; omega) (fun a h1 h2 => by
    rw [hs.le a (by omega)]
    have := x.up_le
    rw [if_pos ⟨h1, by omega⟩])
  obtain ⟨ht', hc⟩ := h
  rcases hc with ⟨h0, -⟩ | ⟨-, (⟨h0, -⟩ | ⟨L', f, t, hI, hf, htt, hc⟩)⟩
  · rw [pkArg_true.2 ⟨by omega, by omega, by rw [hs.n]; omega, h1, h2⟩] at h0; cases h0
  · exact absurd hin (h0 L)
  · obtain rfl : x.page = f := by omega
    obtain rfl : x.top = t := by omega
    have e := hI.1.unique hin.1
    subst e
    rcases hc with ⟨h0, -⟩ | ⟨-, rfl, v1, v2, j, hD, hv, hrt⟩
    · exact absurd hE h0
    · exact ⟨rfl, ht', hE, hall, v1, v2, j, hD, hv, hrt⟩
/-- What packing the example leaves. -/
theorem live26_end {w w' : World} {q r g : Nat} {v0 : Vm} {S : Nat → Prop} {e : Ending} (h : Run24 x25 (5 + 0) v0) (hE : PkEnd w S q r g (layC x25 v0) x25.rs 4 16 9 e w') :
    e = .returned (.tuple #[.int .i64 8, .int .i64 0]) ∧ Touch (fun b => b = g ∨ S b) w w' ∧ (∃ v, VmAt w' (plus S w) q v ∧ v.pl.used = 1) ∧ RtAt w' r g [4] := by
  obtain ⟨e1, e2, e3, e4, e5, e6, e7⟩ := x25_k
  have hs := h.stays (Stays.layC h.ok x25)
  have hM := live25 h
  have hE' : PkEnd w S q r g (layC x25 v0) x25.rs (x25.page : Nat) (x25.top : Nat) 9 e w' := by rw [e2, e5]; exact hE
  obtain ⟨rfl, ht, hnd, hall, v1, v2, j, hD, hv, hrt⟩ := run26_ok h hM (by decide) (by decide) hE'
  have hz : sizes [(8, 4)] = 4 := rfl
  rw [e2, hz] at hnd hv hall
  rw [e5] at hall
  rw [e2, e5] at hD
  have hb := hD.base
  rw [hz] at hb
  have hpg : (layC x25 v0).pl.pg = 4 := by rw [hs.pg, e2]
  have hn : (layC x25 v0).n = 1028 := by rw [hs.n, e7]
  refine ⟨by rw [e2, hz]; rfl, ht, ⟨_, hv, ?_⟩, ?_⟩
  · refine used_run hb.2.2.2.1 (p0 := 1) (k := 1) (by rw [hb.2.1, hpg, hb.1, hn]; decide) (fun a ha => ?_)
    rw [hb.1, hn] at ha
    have h1 := hD.ldE hs.ok (a := a) (by rw [hz]; exact hnd) (by rw [hz, hn]; decide) (by rw [hn]; exact ha)
    rw [hz] at h1
    rw [h1, hpg, hb.2.1, hpg]
    have h2 := hs.le a (by rw [e7]; exact ha)
    rw [e2, e5, show upN 16 4 = 16 from rfl] at h2
    have h3 := hD.q2
    rw [hpg] at h3
    have h4 : pgUp (4 + 4) 4 = 2 := rfl
    rw [h4, h2]
    constructor
    · rintro ⟨(hx | ⟨-, hx⟩), hy⟩
      · split at hx
        · omega
        · cases hx
      · omega
    · intro hx
      exact ⟨.inl (if_pos (by omega)), by omega⟩
  · rw [e6, e2] at hrt
    exact hrt
set_option maxRecDepth 100000 in
set_option maxHeartbeats 3200000 in
theorem lives26 {w : World} (hT : TabAt w) : Gets Tryz.prog 27 #[] w (.bool true) := by
  have HT := hid hT
  clear hT
  unfold Gets
  go_enter Tryz.func27, Tryz.ntmps27
  have g1 : Gr w ((w.alloc (.cells #[.int .i64 0, .int .i64 0, .int .i64 3, .int .i64 0, .int .i64 0, .int .i64 3, .int .i64 0, .int .i64 0, .int .i64 3] 90)).alloc (.cells #[.int .u8 1] 5)) := ((Gr.refl w).alloc _).alloc _
  have r1 := (Rec.new w 90 [.int .i64 0, .int .i64 0, .int .i64 3, .int .i64 0, .int .i64 0, .int .i64 3, .int .i64 0, .int .i64 0, .int .i64 3]).gr ((Gr.refl _).alloc (.cells #[.int .u8 1] 5))
  have r2 := new2 w (.cells #[.int .i64 0, .int .i64 0, .int .i64 3, .int .i64 0, .int .i64 0, .int .i64 3, .int .i64 0, .int .i64 0, .int .i64 3] 90) 5 [.int .u8 1]
  have HL := hid (lay24_walk (w := ((w.alloc (.cells #[.int .i64 0, .int .i64 0, .int .i64 3, .int .i64 0, .int .i64 0, .int .i64 3, .int .i64 0, .int .i64 0, .int .i64 3] 90)).alloc (.cells #[.int .u8 1] 5))) (x := x25) (A1 := some ⟨w.heap.size, 0, none⟩) (A2 := none) (A3 := some ⟨w.heap.size + 1, 0, none⟩) (c1 := 3) (c2 := 0) (c3 := 1) (more := 0)
    ⟨fun i hi => by
        have hi : i < 3 := hi
        refine ⟨w.heap.size, 0, rfl, r1.lt, ?_⟩
        rcases (by omega : i = 0 ∨ i = 1 ∨ i = 2) with rfl | rfl | rfl
        · exact ⟨r1.cell (j := 0) rfl, r1.cell (j := 1) rfl, r1.cell (j := 2) rfl⟩
        · exact ⟨r1.cell (j := 3) rfl, r1.cell (j := 4) rfl, r1.cell (j := 5) rfl⟩
        · exact ⟨r1.cell (j := 6) rfl, r1.cell (j := 7) rfl, r1.cell (j := 8) rfl⟩, fun i hi => absurd hi (Nat.not_lt_zero _), fun i hi => by
        have hi : i < 1 := hi
        refine ⟨w.heap.size + 1, 0, rfl, r2.lt, ?_⟩
        obtain rfl : i = 0 := by omega
        exact ⟨show (1 : Nat) < 256 by decide, r2.cell (j := 0) rfl⟩, by decide, by decide, by decide, by decide, by decide, by decide, by decide⟩ (by decide))
  have HG1 := hid g1
  clear g1 r1 r2
  unfold laidV at HL
  go_upto_region 4 with (go_at_call 13; refine HL.out.mono ?_; rintro e w1 ⟨hp, q, r, g, A, c, v0, SV, rfl, hg1, hrn, hz0, hvm, hrt, hrec, hwr, hsv, hs1, hs2, hs3, hs4, hs5⟩; have HG := hid (HG1.out.trans hg1); have HV := hid hvm; have HRN := hid hrn; have HRT := hid hrt; have HRC := hid hrec; have HSV := hid (And.intro hsv (And.intro hs1 (And.intro hs2 (And.intro hs3 hs4)))); have HGL := hid hg1; clear hg1 hrn hz0 hvm hrt hrec hwr hsv hs1 hs2 hs3 hs4 hs5)
  have HCR : Hid (∀ W, Gr w1 W → Calls Tryz.prog 28 #[.pointer (some ⟨q, 0, none⟩), .pointer (some ⟨r, 0, none⟩), .int .i64 4, .int .i64 (x25.cf.tp : Nat), .int .i64 9] W fun e w' => e = .returned (.tuple #[.int .i64 8, .int .i64 0]) ∧ Touch (fun b => b = g ∨ SV b) W w' ∧ (∃ v, VmAt w' (plus SV W) q v ∧ v.pl.used = 1) ∧ RtAt w' r g [4]) := ⟨fun W hW =>
    (pk24_run HRN.out (HV.out.gr hW) (HRT.out.gr hW) HT.out (HG.out.trans hW) (fun i hi => by have := (HSV.out.1 i hi).1; have := HG1.out.size; omega) HSV.out.2.2.1 HSV.out.2.2.2.1 4 (x25.cf.tp : Nat) 9).mono (fun e w' h => live26_end HRN.out (by rw [show x25.cf.tp = 16 by decide +kernel] at h; exact h))⟩
  have HRK : Hid (∀ W W', Gr w1 W → Touch (fun b => b = g ∨ SV b) W W' → Rec W' hp 37 (heapL x25 q r (.slice A x25.n c))) := ⟨fun W W' hW t => (HRC.out.gr hW).touch t (fun h => by
    rcases h with h | h
    · exact own_ne HRT.out.row HRC.out (by decide) rfl rfl h.symm
    · exact HSV.out.2.1 h)⟩
  have HFG : Hid (∀ W', Touch (fun b => b = g ∨ SV b) w1.drew W' → Gr w W') := ⟨fun W' t => by
    have t1 : Touch (fun b => b = g ∨ SV b) w W' := ((HG.out.drew).touch _).trans t
    refine (t1.mono (T := fun _ => False) (fun i hi h => ?_)).gr
    have hz := HG1.out.size
    rcases h with h | h
    · have := HSV.out.2.2.2.2.2.2; omega
    · have := (HSV.out.1 i h).1; omega⟩
  unfold heapL at HRC HRK
  obtain ⟨cf, hcf⟩ : ∃ cf, cf = x25.cf := ⟨_, rfl⟩
  obtain ⟨pg, hpg⟩ : ∃ pg, pg = x25.page := ⟨_, rfl⟩
  obtain ⟨nn, hnn⟩ : ∃ nn, nn = x25.n := ⟨_, rfl⟩
  rw [← hcf, ← hpg, ← hnn] at HRC HRK
  rw [← hcf] at HCR
  clear hcf hpg hnn
  have z0 := HRC.out.cell (j := 0) rfl
  have z1 := HRC.out.cell (j := 1) rfl
  have z2 := HRC.out.cell (j := 2) rfl
  have z3 := HRC.out.cell (j := 3) rfl
  have z4 := HRC.out.cell (j := 4) rfl
  have z5 := HRC.out.cell (j := 5) rfl
  have z6 := HRC.out.cell (j := 6) rfl
  have z7 := HRC.out.cell (j := 7) rfl
  have z8 := HRC.out.cell (j := 8) rfl
  clear z0 z1 z2 z3 z4 z5 z6 z7 z8
  obtain ⟨Sx, hSx⟩ : ∃ Sx : World → Prop, Sx = fun W' => Rec W' hp 37 ([.pointer (some ⟨q, 0, none⟩), .pointer (some ⟨r, 0, none⟩), .int .i64 cf.fr, .int .i64 cf.tp, .int .i64 cf.to, .int .i64 cf.lm, .int .i64 cf.bk, .int .i64 cf.st, .int .i64 cf.ah, .slice A nn c, .int .i64 (pg : Nat)]) := ⟨_, rfl⟩
  have x0 : ∀ p : Held Sx, p.w.cell? ⟨hp, 0, none⟩ = some (.pointer (some ⟨q, 0, none⟩)) := fun p => by have h := Held.get hSx p; exact h.cell (j := 0) rfl
  have x1 : ∀ p : Held Sx, p.w.cell? ⟨hp, 1, none⟩ = some (.pointer (some ⟨r, 0, none⟩)) := fun p => by have h := Held.get hSx p; exact h.cell (j := 1) rfl
  have x3 : ∀ p : Held Sx, p.w.cell? ⟨hp, 3, none⟩ = some (.int .i64 cf.tp) := fun p => by have h := Held.get hSx p; exact h.cell (j := 3) rfl
  have HS : Hid (∀ W', Rec W' hp 37 ([.pointer (some ⟨q, 0, none⟩), .pointer (some ⟨r, 0, none⟩), .int .i64 cf.fr, .int .i64 cf.tp, .int .i64 cf.to, .int .i64 cf.lm, .int .i64 cf.bk, .int .i64 cf.st, .int .i64 cf.ah, .slice A nn c, .int .i64 (pg : Nat)]) → Sx W') := ⟨fun W' h => by rw [hSx]; exact h⟩
  have hS0 := HS.out _ (HRC.out.gr (Gr.refl w1).drew)
  have inst : Inhabited (Held Sx) := ⟨⟨_, hS0⟩⟩
  clear hSx
  refine wp_region_mixS Sx 19 [([0, 1, 2, 3, 4, 5, 6, 7, 8, 9, 10, 11, 12], 13)] [14, 15, 16, 17, 18] (by kernel_rfl) (by kernel_rfl) hS0 ?_
  refine segs_step ?_
  try simp only [opsAt, List.getElem?_cons_zero, List.getElem?_cons_succ]
  repeat (go_big_quiet_step (fail))
  refine wpQuiet_nil ?_
  go_wp2_with ((go_at_call 28; refine (HCR.out _ (Gr.refl _).drew).mono ?_; rintro e w2 ⟨rfl, ht2, hv2, hr2⟩; have HT2 := hid ht2; have HV2 := hid hv2; have HR2 := hid hr2; clear ht2 hv2 hr2))
  refine ⟨.inr (Held.of (HS.out _ (HRK.out _ _ (Gr.refl w1).drew HT2.out))), ?_⟩
  refine segs_end ?_
  try simp only [opsAt, List.getElem?_cons_zero, List.getElem?_cons_succ]
  repeat (go_big_quiet_step (fail))
  refine wpQuiet_nil ?_
  refine NoPanic.normal ?_
  clear x0 x1 x3 hS0 inst
  clear HS Sx
  have hb := HRK.out _ _ (Gr.refl w1).drew HT2.out
  have y0 := hb.cell (j := 0) rfl
  have y1 := hb.cell (j := 1) rfl
  obtain ⟨v2, hv2, hu2⟩ := HV2.out
  have HV3 := hid (vm_used hv2)
  have HGT := hid (rt_get HR2.out (i := 0) (by decide))
  have hbl := hb.lt
  have HV2' := hid hv2
  have HFW := hid (HFG.out _ HT2.out)
  clear hb hv2 HV3
  go_wp2_with (first
    | (go_at_call 65; refine HGT.out.mono ?_; rintro e w3 ⟨rfl, hg3⟩; have HG3 := hid hg3; have HV4 := hid (vm_used (HV2'.out.gr hg3)); rw [hu2] at HV4; have y0 := (hg3.cell hbl 0).trans y0; clear hg3 hu2)
    | (go_at_call 20; refine HV4.out.mono ?_; rintro e w4 ⟨rfl, rfl⟩))
  go_ret
  exact ⟨rfl, HFW.out.trans HG3.out⟩
/-! Of nobody. -/
set_option maxRecDepth 100000 in
theorem pk_nobody {p r : Option Addr} {fr tp room : Int} {w : World}
    (HC : ∀ W, Gr w W → Calls Tryz.prog 82 #[.pointer p, .pointer r, .int .i64 fr, .int .i64 tp, .int .i64 room] W fun e w' => e = .returned (.int .i64 9) ∧ W = w') :
    Calls Tryz.prog 28 #[.pointer p, .pointer r, .int .i64 fr, .int .i64 tp, .int .i64 room] w fun e w' => e = .returned (.tuple #[.int .i64 0, .int .i64 9]) ∧ Gr w w' := by
  have HCC := hid HC
  have HG := hid (fun o => (Gr.refl w).alloc o)
  have HB := hid (fun o => (Boxed.new w 31 o))
  clear HC
  refine (callsIn_wide (n := 5)).1 ?_
  refine callsIn_of_wp_marks Tryz.func28 rfl trivial ?_ rfl
  simp only [Tryz.ntmps28, List.size_toArray, List.length_cons, List.length_nil, Nat.reduceAdd, Nat.reduceSub, Array.replicate_succ, Array.replicate_zero, List.push_toArray, List.append_toArray, List.nil_append, List.cons_append]
  gi_wp2_with (refine ⟨trivial, ?_⟩; gi_at_call 82; refine (callsIn_wide.2 (HCC.out _ (HG.out _))).mono ?_; rintro e w1 ⟨rfl, rfl⟩)
  refine ⟨.tuple #[.int .i64 0, .int .i64 9], ?_, rfl, HG.out _⟩
  simp [results, Tryz.f28, go_sem]
set_option maxRecDepth 100000 in
set_option maxHeartbeats 3200000 in
theorem nobody26_walk {w : World} (hT : TabAt w) (fr tp : Int) : Gets Tryz.prog 7 #[.int .i64 fr, .int .i64 tp] w (.bool true) := by
  have HT := hid hT
  have HL := hid (lay24_walk (w := w) (x := x0C) (A1 := none) (A2 := none) (A3 := none) (c1 := 0) (c2 := 0) (c3 := 0) (more := 0) ⟨fun i hi => absurd hi (Nat.not_lt_zero _), fun i hi => absurd hi (Nat.not_lt_zero _), fun i hi => absurd hi (Nat.not_lt_zero _), by decide, by decide, by decide, by decide, by decide, by decide, by decide⟩ (by decide))
  unfold laidV at HL
  clear hT
  unfold Gets
  go_enter Tryz.func7, Tryz.ntmps7
  go_upto_region 6 with (go_at_call 13; refine HL.out.mono ?_; rintro e w1 ⟨hp, q, r, g, A, c, v0, SV, rfl, hg1, hrn, hz0, hvm, hrt, hrec, hwr, hsv, hs1, hs2, hs3, hs4, hs5⟩; have HG := hid hg1; have HRT := hid hrt; have HRC := hid hrec; have HV := hid hvm; have HRN := hid hrn; clear hg1 hrn hz0 hvm hrt hrec hwr hsv hs1 hs2 hs3 hs4 hs5)
  unfold heapL at HRC
  have HN : Hid ((layC x0C v0).n ≠ 0) := ⟨by rw [(HRN.out.stays (Stays.layC HRN.out.ok x0C)).n]; decide⟩
  have y1 := HRC.out.cell (j := 1) rfl
  have yl := HRC.out.lt
  go_upto_region 7 with (go_at_call 28; refine (pk_nobody (fun W hW => pk_check_nilM _ _ _ _ _)).mono ?_; rintro e w2 ⟨rfl, hg2⟩; have HG2 := hid hg2; clear hg2)
  clear y1
  have y0 := (HRC.out.gr HG2.out).cell (j := 0) rfl
  go_upto_region 8 with (go_at_call 28; refine (pk_nobody (fun W hW => pk_check_nilR ((HV.out.gr HG2.out).gr hW) HN.out _ _ _)).mono ?_; rintro e w3 ⟨rfl, hg3⟩; have HG3 := hid ((HG.out.trans HG2.out).trans hg3); clear hg3)
  go_wp2_with (go_at_call 27; refine (lives26 (HG3.out.tab HT.out.lt HT.out)).mono ?_; rintro e w4 ⟨rfl, hg4⟩; have HG4 := hid hg4; clear hg4)
  go_ret
  exact ⟨rfl, HG3.out.trans HG4.out⟩
end Go.Proofs.YtbmidhlilafgeaaGreatDoor
end
