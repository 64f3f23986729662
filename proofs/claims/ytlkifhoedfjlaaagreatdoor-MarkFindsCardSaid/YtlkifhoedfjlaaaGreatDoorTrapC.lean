/- Package trap: part, Run, whatever is run. -/
import Derived.Test.YtlkifhoedfjlaaaGreatDoorTrapB
namespace Go.Proofs.YtlkifhoedfjlaaaGreatDoor
open Go.RowKit Word

/-- How a piece of work ends. -/
def BodyEnd (q k b4 : Nat) (Sx : Nat → Prop) (w0 : World) (G : World → Prop) (H : Int → Int → Vm → Lg → (Nat → Prop) → (Nat → Prop) → World → Prop) (e : Ending) (w1 : World) : Prop :=
  Touch Sx w0 w1 ∧ ((e = .returned (.tuple #[]) ∧ G w1) ∨
    ∃ why a v l S S2, e = .panicked [{ v := thrV why a, recovered := false }] ∧ WkAt w1 S k q l ∧ VmAt w1 S2 q v ∧ (∀ i, S i → ¬ S2 i) ∧ ¬ S b4 ∧ ¬ S2 b4 ∧ H why a v l S S2 w1)
section
variable {w : World} {S : Nat → Prop} {k q : Nat} {v : Vm} {l : Lg}
/-- The world that the piece of work starts from. -/
def partW (w : World) (k : Nat) : World := ((w.alloc (.cells #[.pointer (some ⟨k, 0, none⟩)] 74)).alloc (.cells #[.int .i64 0, .int .i64 0] 78)).alloc (.cells #[.int .i64 0] 3)
def PartEnd (w : World) (k q : Nat) (Sx : Nat → Prop) (G : World → Prop) (H : Int → Int → Vm → Lg → (Nat → Prop) → (Nat → Prop) → World → Prop) (e : Ending) (w' : World) : Prop :=
  ∃ w1, Touch Sx (partW w k) w1 ∧ ((G w1 ∧ e = .returned (.agg #[.int .i64 0, .int .i64 0]) ∧ w' = (w1.setCell ⟨w.heap.size + 1, 0, none⟩ (.int .i64 0)).setCell ⟨w.heap.size + 1, 1, none⟩ (.int .i64 0)) ∨
    ∃ why a v l S S2, H why a v l S S2 w1 ∧ e = .returned (.agg #[.int .i64 why, .int .i64 a]) ∧ CaughtEnd w1 S S2 (w.heap.size + 1) k q v l why a w')
theorem load_fault (W : World) (blk : Nat) (p q : Value) (h0 : W.cell? ⟨blk, 0, none⟩ = some p) (h1 : W.cell? ⟨blk, 1, none⟩ = some q) : (loadVar 78 ⟨blk, 0, none⟩).run Tryz.prog W = .ok (.agg #[p, q]) W := by
  have a1 : (isAgg 78).run Tryz.prog W = .ok true W := by kernel_rfl
  have a2 : (sizeOf 78).run Tryz.prog W = .ok 2 W := by kernel_rfl
  simp [loadVar, Sem.run_bind, a1, a2, Result.andThen, loadCells, go_sem, h0, h1]
set_option maxRecDepth 100000 in
set_option maxHeartbeats 1600000 in
theorem wk_part {F : Nat} {caps : Array Value} {Sx : Nat → Prop} {G : World → Prop} {H : Int → Int → Vm → Lg → (Nat → Prop) → (Nat → Prop) → World → Prop}
    (hcf : ∀ args w, (callFunc F args).run Tryz.prog w = .ok (.enter F args) w) (hW : WkAt w S k q []) (hF : Calls Tryz.prog F (#[.pointer (some ⟨k, 0, none⟩)] ++ caps) (partW w k) (BodyEnd q k (w.heap.size + 1) Sx (partW w k) G H)) (hx : ∀ i, w.heap.size ≤ i → i ≤ w.heap.size + 2 → ¬ Sx i) :
    Calls Tryz.prog 58 #[.pointer (some ⟨k, 0, none⟩), .func (.func F) #[] caps] w (PartEnd w k q Sx G H) := by
  have hmf : ∀ (fn : Fn) (first cap : Array Value) (w : World), (Instr.makeFunc fn first cap).run Tryz.prog w = .ok (.func fn first cap) w := fun _ _ _ _ => rfl
  obtain ⟨vl, hr, ho, -⟩ := hW.row
  obtain ⟨A, c, rfl, hc1, hc2⟩ := own_shape ho
  have c1 := hr.cell (j := 1) rfl
  have hkl := hr.lt
  clear hr ho
  go_enter_defers Tryz.func58, Tryz.ntmps58
  have r2 : Rec (partW w k) w.heap.size 74 [.pointer (some ⟨k, 0, none⟩)] := Rec.gr (Rec.gr (Rec.new w _ _) ((Gr.refl _).alloc _)) ((Gr.refl _).alloc _)
  have r4 : Rec (partW w k) (w.heap.size + 1) 78 [.int .i64 0, .int .i64 0] := by
    have := Rec.gr (Rec.new (w.alloc (.cells #[.pointer (some ⟨k, 0, none⟩)] 74)) 78 [.int .i64 0, .int .i64 0]) ((Gr.refl _).alloc (.cells #[.int .i64 0] 3))
    rw [World.size_alloc] at this
    exact this
  have r5 : Rec (partW w k) (w.heap.size + 1 + 1) 3 [.int .i64 0] := by
    have := Rec.new ((w.alloc (.cells #[.pointer (some ⟨k, 0, none⟩)] 74)).alloc (.cells #[.int .i64 0, .int .i64 0] 78)) 3 [.int .i64 0]
    rw [World.size_alloc, World.size_alloc] at this
    exact this
  have HR2 := hid r2
  have HR4 := hid r4
  have HR5 := hid r5
  clear r2 r4 r5
  go_wp2
  refine hF.mono ?_
  rintro e w1 ⟨ht1, he⟩
  have q2 := HR2.out.touch ht1 (hx _ (Nat.le_refl _) (by omega))
  have q4 := HR4.out.touch ht1 (hx _ (by omega) (by omega))
  have q5 := HR5.out.touch ht1 (hx _ (by omega) (by omega))
  have hT1 := hid ht1
  rcases he with ⟨rfl, hg1⟩ | ⟨why, a, v, l, S', S2, rfl, hw1, hv1, hd1, n4, m4, hh1⟩
  · have HG := hid hg1
    have k0 := q4.cell (j := 0) rfl
    have k1 := q4.cell (j := 1) rfl
    have kf := q4.free
    have HQ4 := hid q4
    clear q2 q4 q5 ht1 hF hx hg1
    go_wp2
    have R6 := Rec.set (Rec.set HQ4.out 0 (.int .i64 0)) 1 (.int .i64 0)
    refine leaves_cons (f := 85) (args := #[.pointer (some ⟨w.heap.size, 0, none⟩), .pointer (some ⟨w.heap.size + 1 + 1, 0, none⟩), .pointer (some ⟨w.heap.size + 1, 0, none⟩)]) (by simp) (by simp [go_sem]) ?_
    refine (part_idle _ _ _ _).mono ?_
    rintro e u' w2 ⟨rfl, rfl, rfl⟩
    have hl := load_fault _ (w.heap.size + 1) _ _ (R6.cell (j := 0) rfl) (R6.cell (j := 1) rfl)
    simp only [Leaves, settle]
    refine ⟨_, ?_, w1, hT1.out, .inl ⟨HG.out, rfl, rfl⟩⟩
    simp [results, Tryz.results58, asAddr, hl]
  · have HW1 := hid hw1
    have HV1 := hid hv1
    have HD1 := hid hd1
    have HH := hid hh1
    have HN := hid (And.intro n4 m4)
    have k2 := q2.cell (j := 0) rfl
    have k5 := q5.cell (j := 0) rfl
    have HQ4 := hid q4
    clear q2 q4 q5 ht1 hF hx hw1 hv1 hd1 hh1 n4 m4
    go_wp2
    refine leaves_cons (f := 85) (args := #[.pointer (some ⟨w.heap.size, 0, none⟩), .pointer (some ⟨w.heap.size + 1 + 1, 0, none⟩), .pointer (some ⟨w.heap.size + 1, 0, none⟩)]) (by simp) (by simp [go_sem]) ?_
    refine (part_caught HW1.out HV1.out HD1.out why a [] k2 k5 HQ4.out HN.out.1 HN.out.2).mono ?_
    rintro e u' w2 ⟨rfl, rfl, hc⟩
    have hl := load_fault _ (w.heap.size + 1) _ _ (hc.2.2.2.cell (j := 0) rfl) (hc.2.2.2.cell (j := 1) rfl)
    simp only [settle, List.dropWhile_nil, Leaves]
    refine ⟨_, ?_, w1, hT1.out, .inr ⟨why, a, v, l, S', S2, HH.out, rfl, hc⟩⟩
    simp [results, Tryz.results58, asAddr, hl]
/-- Run: the same, with a Work of its own. -/
def runW (w : World) (q : Nat) : World := (w.alloc (.cells #[.int .i64 0, .int .i64 0] 78)).alloc (.cells #[spV q, .slice none 0 0] 119)
theorem wk_new (w : World) (q : Nat) : WkAt (runW w q) (fun i => i = w.heap.size + 1) (w.heap.size + 1) q [] := by
  have := Rec.new (w.alloc (.cells #[.int .i64 0, .int .i64 0] 78)) 119 [spV q, .slice none 0 0]
  rw [World.size_alloc] at this
  exact ⟨rfl, Nat.zero_le _, (fun x hx => by cases hx), .slice none 0 0, this, own_nil _ _ _ _, (fun g hg => by cases hg)⟩
def TRunEnd (w : World) (q : Nat) (Sx : Nat → Prop) (G : World → Prop) (H : Int → Int → Vm → Lg → (Nat → Prop) → (Nat → Prop) → World → Prop) (e : Ending) (w' : World) : Prop :=
  ∃ w2, ∃ x y, PartEnd (runW w q) (w.heap.size + 1) q Sx G H (.returned (.agg #[.int .i64 x, .int .i64 y])) w2 ∧ e = .returned (.agg #[.int .i64 x, .int .i64 y]) ∧ w' = (w2.setCell ⟨w.heap.size, 0, none⟩ (.int .i64 x)).setCell ⟨w.heap.size, 1, none⟩ (.int .i64 y)
set_option maxRecDepth 100000 in
set_option maxHeartbeats 1600000 in
theorem trap_run {F : Nat} {caps : Array Value} {Sx : Nat → Prop} {G : World → Prop} {H : Int → Int → Vm → Lg → (Nat → Prop) → (Nat → Prop) → World → Prop}
    (hcf : ∀ args w, (callFunc F args).run Tryz.prog w = .ok (.enter F args) w)
    (hF : Calls Tryz.prog F (#[.pointer (some ⟨w.heap.size + 1, 0, none⟩)] ++ caps) (partW (runW w q) (w.heap.size + 1)) (BodyEnd q (w.heap.size + 1) (w.heap.size + 3) Sx (partW (runW w q) (w.heap.size + 1)) G H))
    (hx : ∀ i, w.heap.size + 2 ≤ i → i ≤ w.heap.size + 4 → ¬ Sx i) (hx0 : ¬ Sx w.heap.size) (hH : ∀ why a v l S S2 w1, H why a v l S S2 w1 → ¬ S w.heap.size ∧ ¬ S2 w.heap.size) :
    Calls Tryz.prog 29 #[spV q, .func (.func F) #[] caps] w (TRunEnd w q Sx G H) := by
  have hsz : (runW w q).heap.size = w.heap.size + 2 := by unfold runW; rw [World.size_alloc, World.size_alloc]
  have HP := hid (wk_part (k := w.heap.size + 1) (w := runW w q) (Sx := Sx) (G := G) (H := H) hcf (wk_new w q) (by rw [hsz]; exact hF) (by rw [hsz]; exact fun i h1 h2 => hx i h1 (by omega)))
  have HR0 := hid (Rec.gr (Rec.new w 78 [.int .i64 0, .int .i64 0]) ((Gr.refl _).alloc (.cells #[spV q, .slice none 0 0] 119)))
  have HPE : Hid (∀ e w', PartEnd (runW w q) (w.heap.size + 1) q Sx G H e w' → ∃ x y, e = .returned (.agg #[.int .i64 x, .int .i64 y]) ∧ Rec w' w.heap.size 78 [.int .i64 0, .int .i64 0]) := ⟨by
    rintro e w' ⟨w1, t1, h⟩
    have r0 : Rec (partW (runW w q) (w.heap.size + 1)) w.heap.size 78 [.int .i64 0, .int .i64 0] := HR0.out.gr (((((Gr.refl _).alloc _).alloc _).alloc _))
    have r1 := r0.touch t1 hx0
    rw [hsz] at h
    rcases h with ⟨-, rfl, rfl⟩ | ⟨why, a, v, l, S, S2, hh, rfl, hc⟩
    · exact ⟨0, 0, rfl, own_set_other (own_set_other r1 _ (fun g hg => by cases hg; show w.heap.size ≠ w.heap.size + 2 + 1; omega)) _ (fun g hg => by cases hg; show w.heap.size ≠ w.heap.size + 2 + 1; omega)⟩
    · obtain ⟨n1, n2⟩ := hH _ _ _ _ _ _ _ hh
      exact ⟨why, a, rfl, r1.touch hc.1 (fun h => by rcases h with h | h | h; exact n1 h; exact n2 h; omega)⟩⟩
  unfold spV at HP HPE HR0 ⊢
  clear hF hx hx0 hH hcf hsz
  go_enter Tryz.func29, Tryz.ntmps29
  go_wp2_with (go_at_call 58; refine HP.out.mono ?_; intro e w2 hpe; obtain ⟨x, y, rfl, hr2⟩ := HPE.out _ _ hpe; have k0 := hr2.cell (j := 0) rfl; have k1 := hr2.cell (j := 1) rfl; have kf := hr2.free; have HR2 := hid hr2; have HQ := hid hpe; clear hpe hr2)
  have R3 := Rec.set (Rec.set HR2.out 0 (.int .i64 x)) 1 (.int .i64 y)
  have hl := load_fault _ w.heap.size _ _ (R3.cell (j := 0) rfl) (R3.cell (j := 1) rfl)
  refine bodyPost_ret (v := .agg #[.int .i64 x, .int .i64 y]) ?_ rfl ⟨w2, x, y, HQ.out, rfl, rfl⟩
  simp [results, Tryz.results29, asAddr, hl]
end
end Go.Proofs.YtlkifhoedfjlaaaGreatDoor
