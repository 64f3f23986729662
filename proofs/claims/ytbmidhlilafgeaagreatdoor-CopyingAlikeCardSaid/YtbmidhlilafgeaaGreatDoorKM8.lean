/- Package stack. Package roots: New, check, Get, Set, Len, All. Package roots: Turn, by a function that is bound to one value or holds one. -/
import Derived.Test.YtbmidhlilafgeaaGreatDoorKM3
import Derived.Test.YtbmidhlilafgeaaGreatDoorK4
section
namespace Go.Proofs.YtbmidhlilafgeaaGreatDoor
open Go.RowKit Word

def IntsAt (w : World) (A : Option Addr) (l : List Int) : Prop := ∀ i (h : i < l.length), ∃ b o, A = some ⟨b, o, none⟩ ∧ b < w.heap.size ∧ w.cell? ⟨b, o + i, none⟩ = some (.int .i64 l[i])
/-- Numbers that lie in a row apart from some blocks. -/
def IntsOff (T : Nat → Prop) (w : World) (A : Option Addr) (l : List Int) : Prop := ∀ i (h : i < l.length), ∃ b o, A = some ⟨b, o, none⟩ ∧ b < w.heap.size ∧ ¬ T b ∧ w.cell? ⟨b, o + i, none⟩ = some (.int .i64 l[i])
theorem IntsOff.touch {T S : Nat → Prop} {w w' : World} {A : Option Addr} {l : List Int} (h : IntsOff T w A l) (t : Touch S w w') (hs : ∀ b, b < w.heap.size → S b → T b) : IntsOff T w' A l := fun i hi => by
  obtain ⟨b, o, e, hb, hT, hc⟩ := h i hi
  exact ⟨b, o, e, Nat.lt_of_lt_of_le hb t.size, hT, (t.cell hb (fun x => hT (hs b hb x)) _).trans hc⟩
theorem IntsOff.gr {T : Nat → Prop} {w w' : World} {A : Option Addr} {l : List Int} (h : IntsOff T w A l) (t : Gr w w') : IntsOff T w' A l := h.touch (t.touch (fun _ => False)) (fun _ _ h => h.elim)
theorem IntsOff.mono {T T' : Nat → Prop} {w : World} {A : Option Addr} {l : List Int} (h : IntsOff T w A l) (hs : ∀ b, b < w.heap.size → T' b → T b) : IntsOff T' w A l := fun i hi => by
  obtain ⟨b, o, e, hb, hT, hc⟩ := h i hi
  exact ⟨b, o, e, hb, fun x => hT (hs b hb x), hc⟩
def zs (l : List Int) : List Value := l.map fun x => .int .i64 x
theorem zs_at {l : List Int} {i : Nat} (h : i < l.length) : (zs l)[i]? = some (.int .i64 l[i]) := by simp [zs, h]
/-- A stack s of numbers l lies in w. -/
structure StkAt (w : World) (S : Nat → Prop) (s : Nat) (l : List Int) (R : Nat) (lost : Bool) : Prop where
  ss : S s
  r1 : 1 ≤ R ∧ R ≤ 4096
  le : l.length ≤ R
  row : ∃ vl hi, Rec w s 267 [vl, .int .i64 R, .int .i64 hi, .bool lost] ∧ w.ownsRow 0 3 1 vl l.length (zs l) ∧ ∀ g, vl.ownBlock = some g → S g
theorem StkAt.touch {S T : Nat → Prop} {w w' : World} {s : Nat} {l : List Int} {R : Nat} {b : Bool} (h : StkAt w S s l R b) (t : Touch T w w') (hS : ∀ k, S k → k < w.heap.size → ¬ T k) : StkAt w' S s l R b := by
  obtain ⟨h1, h2, h3, vl, hi, hr, ho, hs⟩ := h
  exact ⟨h1, h2, h3, vl, hi, hr.touch t (hS _ h1 hr.lt), own_touch ho t (fun g hg => hS g (hs g hg) (own_lt ho hg).2), hs⟩
theorem StkAt.gr {S : Nat → Prop} {w w' : World} {s : Nat} {l : List Int} {R : Nat} {b : Bool} (h : StkAt w S s l R b) (t : Gr w w') : StkAt w' S s l R b := h.touch (t.touch (fun _ => False)) (fun _ _ _ h => h)
theorem StkAt.mono {S T : Nat → Prop} {w : World} {s : Nat} {l : List Int} {R : Nat} {b : Bool} (h : StkAt w S s l R b) (hT : ∀ k, S k → T k) : StkAt w T s l R b := by
  obtain ⟨h1, h2, h3, vl, hi, hr, ho, hs⟩ := h
  exact ⟨hT _ h1, h2, h3, vl, hi, hr, ho, fun g hg => hT g (hs g hg)⟩
theorem StkAt.cut {S : Nat → Prop} {w : World} {s : Nat} {l : List Int} {R : Nat} {b : Bool} (h : StkAt w S s l R b) : StkAt w (cutS S w) s l R b := by
  obtain ⟨h1, h2, h3, vl, hi, hr, ho, hs⟩ := h
  exact ⟨⟨h1, hr.lt⟩, h2, h3, vl, hi, hr, ho, fun g hg => ⟨hs g hg, (own_lt ho hg).2⟩⟩
section
variable {w : World} {S : Nat → Prop} {s R : Nat} {l : List Int} {lost : Bool}
theorem stk_len (h : StkAt w S s l R lost) : Calls Tryz.prog 234 #[.pointer (some ⟨s, 0, none⟩)] w fun e w' => e = .returned (.int .i64 (l.length : Nat)) ∧ w = w' := by
  obtain ⟨h1, h2, h3, vl, hi, hr, ho, hs⟩ := h
  obtain ⟨A, c, rfl, hc1, hc2⟩ := own_shape ho
  have c0 := hr.cell (j := 0) rfl
  clear hr ho hs
  go_enter Tryz.func234, Tryz.ntmps234
  go_wp2
  go_ret
  exact ⟨rfl, rfl⟩
theorem stk_lost (h : StkAt w S s l R lost) : Calls Tryz.prog 210 #[.pointer (some ⟨s, 0, none⟩)] w fun e w' => e = .returned (.bool lost) ∧ w = w' := by
  obtain ⟨h1, h2, h3, vl, hi, hr, ho, hs⟩ := h
  have c3 := hr.cell (j := 3) rfl
  clear hr ho hs
  go_enter Tryz.func210, Tryz.ntmps210
  go_wp2
  go_ret
  exact ⟨rfl, rfl⟩
theorem stk_found (h : StkAt w S s l R lost) : Calls Tryz.prog 211 #[.pointer (some ⟨s, 0, none⟩)] w fun e w' => e = .returned (.tuple #[]) ∧ Touch S w w' ∧ StkAt w' S s l R false := by
  obtain ⟨h1, h2, h3, vl, hi, hr, ho, hs⟩ := h
  have c3 := hr.cell (j := 3) rfl
  have f3 := hr.free 3
  have HR := hid hr
  have HO := hid ho
  have HS := hid hs
  clear hr ho hs
  go_enter Tryz.func211, Tryz.ntmps211
  go_wp2
  refine bodyPost_end (results_none rfl _ _ _) rfl ?_
  exact ⟨rfl, (Touch.refl S w).setCell (a := ⟨s, 3, none⟩) (fun _ => h1) _, h1, h2, h3, vl, hi, Rec.set HR.out 3 _, own_set_other HO.out _ (fun g hg => own_ne HO.out HR.out (by decide) hg rfl), HS.out⟩
def PopEnd (w : World) (S : Nat → Prop) (s : Nat) (l : List Int) (R : Nat) (lost : Bool) (e : Ending) (w' : World) : Prop :=
  (l = [] ∧ e = .returned (.tuple #[.int .i64 0, .bool false]) ∧ w = w') ∨ (∃ l' a, l = l' ++ [a] ∧ e = .returned (.tuple #[.int .i64 a, .bool true]) ∧ Touch S w w' ∧ StkAt w' S s l' R lost)
set_option maxRecDepth 100000 in
set_option maxHeartbeats 800000 in
theorem stk_pop (h : StkAt w S s l R lost) : Calls Tryz.prog 228 #[.pointer (some ⟨s, 0, none⟩)] w (PopEnd w S s l R lost) := by
  have HL := hid (stk_len h)
  obtain ⟨h1, h2, h3, vl, hi, hr, ho, hs⟩ := h
  rcases List.eq_nil_or_concat l with rfl | ⟨l', a, rfl⟩
  · clear hr ho hs
    go_enter Tryz.func228, Tryz.ntmps228
    go_wp2_with (go_at_call 234; refine HL.out.mono ?_; rintro e w1 ⟨rfl, rfl⟩)
    go_ret2
    exact .inl ⟨rfl, rfl, rfl⟩
  · rw [List.concat_eq_append] at *
    have hlen : (l' ++ [a]).length = l'.length + 1 := by simp
    rw [hlen] at HL ho h3
    obtain ⟨g, c, rfl, -, hc1, hc2, -⟩ := own_form ho (by omega)
    unfold maxLen at hc2
    have c0 := hr.cell (j := 0) rfl
    have f0 := hr.free 0
    have kb := own_cell ho (j := l'.length) (u := .int .i64 a) (by simp [zs])
    have HR := hid hr
    have HO := hid ho
    have HS := hid hs
    obtain ⟨N, hN⟩ : ∃ N, N = l'.length := ⟨_, rfl⟩
    rw [← hN] at HL c0 kb h3 hc1
    have HN := hid hN
    clear hr ho hs hlen hN
    go_enter Tryz.func228, Tryz.ntmps228
    go_wp2_with (go_at_call 234; refine HL.out.mono ?_; rintro e w1 ⟨rfl, rfl⟩)
    go_ret2
    refine .inr ⟨l', a, rfl, rfl, (Touch.refl S w).setCell (a := ⟨s, 0, none⟩) (fun _ => h1) _, h1, h2, by have := HN.out; omega, .slice (some ⟨g, 0, none⟩) N c, hi, Rec.set HR.out 0 _, ?_, fun g' hg => HS.out g' hg⟩
    have ho' := HO.out
    rw [show zs (l' ++ [a]) = zs l' ++ [.int .i64 a] by unfold zs; rw [List.map_append]; rfl] at ho'
    have hp := own_pop ho'
    rw [HN.out]
    exact own_set_other hp _ (fun g' hg => own_ne hp HR.out (by decide) hg rfl)
def NewStk (w : World) (R : Int) (e : Ending) (w' : World) : Prop :=
  ((R < 1 ∨ 4096 < R) ∧ e = .returned (.tuple #[.pointer none, .int .i64 5]) ∧ w = w') ∨
  (1 ≤ R ∧ R ≤ 4096 ∧ e = .returned (.tuple #[.pointer (some ⟨w.heap.size, 0, none⟩), .int .i64 0]) ∧ Gr w w' ∧ StkAt w' (fun k => w.heap.size ≤ k) w.heap.size [] R.toNat false)
set_option maxRecDepth 100000 in
theorem stk_new (R : Int) (w : World) : Calls Tryz.prog 178 #[.int .i64 R] w (NewStk w R) := by
  rcases (by omega : R < 1 ∨ (1 ≤ R ∧ 4096 < R) ∨ (1 ≤ R ∧ R ≤ 4096)) with h | h | h
  · have d0 : decide (R < 1) = true := decide_eq_true h
    go_enter Tryz.func178, Tryz.ntmps178
    go_wp2
    go_ret2
    exact .inl ⟨.inl h, rfl, rfl⟩
  · have d0 : decide (R < 1) = false := decide_eq_false (by omega)
    have d1 : decide (4096 < R) = true := decide_eq_true h.2
    go_enter Tryz.func178, Tryz.ntmps178
    go_wp2
    go_ret2
    exact .inl ⟨.inr h.2, rfl, rfl⟩
  · obtain ⟨m, rfl⟩ : ∃ m : Nat, R = m := ⟨R.toNat, by omega⟩
    have d0 : decide ((m : Int) < 1) = false := decide_eq_false (by omega)
    have d1 : decide (4096 < (m : Int)) = false := decide_eq_false (by omega)
    go_enter Tryz.func178, Tryz.ntmps178
    go_wp2
    go_ret2
    refine .inr ⟨h.1, h.2, rfl, (Gr.refl w).alloc _, Nat.le_refl _, ?_, Nat.zero_le _, .slice none 0 0, 0, ?_, own_nil _ _ _ _, (fun g hg => by cases hg)⟩
    · rw [Int.toNat_natCast]; omega
    · rw [Int.toNat_natCast]; exact Rec.new w _ _
theorem infoIntV : (Tryz.prog.info? 3).map (fun i => (i.zero, i.size, i.bytes)) = some (some (.int .i64 0), 1, 8) := by kernel_rfl
def PushEnd (w : World) (S : Nat → Prop) (s : Nat) (l : List Int) (R : Nat) (lost : Bool) (a : Int) (e : Ending) (w' : World) : Prop :=
  (R ≤ l.length ∧ e = .returned (.bool false) ∧ Touch S w w' ∧ StkAt w' (plus S w) s l R true) ∨ (l.length < R ∧ e = .returned (.bool true) ∧ Touch S w w' ∧ StkAt w' (plus S w) s (l ++ [a]) R lost)
set_option maxRecDepth 100000 in
set_option maxHeartbeats 1600000 in
theorem stk_push (h : StkAt w S s l R lost) (a : Int) : Calls Tryz.prog 227 #[.pointer (some ⟨s, 0, none⟩), .int .i64 a] w (PushEnd w S s l R lost a) := by
  obtain ⟨h1, h2, h3, vl, hi, hr, ho, hs⟩ := h
  obtain ⟨A, c, rfl, hc1, hc2⟩ := own_shape ho
  unfold maxLen at hc2
  have hmax := run_maxB2 Tryz.prog
  have c0 := hr.cell (j := 0) rfl
  have c1 := hr.cell (j := 1) rfl
  have c3 := hr.cell (j := 3) rfl
  have f3 := hr.free 3
  have hsl := hr.lt
  have HR := hid hr
  have HO := hid ho
  have HS := hid hs
  obtain ⟨N, hN⟩ : ∃ N, N = l.length := ⟨_, rfl⟩
  rw [← hN] at c0 h3 hc1
  have HN := hid hN
  have z0 : ∀ m, (w.drewN m).cell? ⟨s, 0, none⟩ = some (.slice A N c) := fun m => c0
  have z1 : ∀ m, (w.drewN m).cell? ⟨s, 1, none⟩ = some (.int .i64 R) := fun m => c1
  have z3 : ∀ m, (w.drewN m).cell? ⟨s, 3, none⟩ = some (.bool lost) := fun m => c3
  have zf : ∀ m, (w.drewN m).frozen? ⟨s, 3, none⟩ = false := fun m => f3
  clear hr ho hs hN
  by_cases hfull : R ≤ N
  · have d0 : decide (R ≤ N) = true := decide_eq_true hfull
    go_enter Tryz.func227, Tryz.ntmps227
    go_wp2
    go_quiet (fail)
    go_wp2
    go_ret
    have hg : Gr w (w.drewN nq) := (Gr.refl w).drewN nq
    refine .inl ⟨by rw [← HN.out]; exact hfull, rfl, (hg.touch S).setCell (a := ⟨s, 3, none⟩) (fun _ => h1) _, .inl h1, h2, by rw [← HN.out]; exact h3, _, hi, Rec.set (HR.out.gr hg) 3 _, own_set_other (own_gr HO.out hg) _ (fun g hg' => own_ne HO.out HR.out (by decide) hg' rfl), fun g hg' => .inl (HS.out g hg')⟩
  · have d0 : decide (R ≤ N) = false := decide_eq_false hfull
    obtain ⟨ii, hii, hi0, hi1, hi2⟩ := info_parts infoIntV
    go_enter Tryz.func227, Tryz.ntmps227
    go_wp2
    go_quiet (fail)
    have hg : Gr w (w.drewN nq) := (Gr.refl w).drewN nq
    have HG := hid hg
    have ho1 := own_gr HO.out hg
    rw [← HN.out] at ho1
    have HO1 := hid ho1
    have HR1 := hid (HR.out.gr hg)
    clear hg ho1 z0 z1 z3 zf
    go_wp2_with (at_builtin; refine wpList_append_lies _ rfl _ _ 30 rfl 0 3 ii _ 1 8 Tryz.underlying30 hii hi0 hi1 hi2 rfl (by decide) (.slice A N c) N (zs l) rfl (HO1.out.alloc _) ⟨(w.drewN nq).heap.size, 0, none⟩ 1 1 [.int .i64 a] rfl rfl (World.news_of_block (cs := #[.int .i64 a]) (t := 3) (fr := (0, 0)) (heap_alloc_new (w.drewN nq) (.cells #[.int .i64 a] 3))) (by simp [Value.oneCell']) (by omega) (by unfold maxLen; omega) (by omega) (Nat.zero_le _) ((w.drewN nq).heap.size + 1) (by simp) ?_; intro g2 c2 w2 hown2 hgrow2 hat2 hlt2; have t2 : Touch (fun k => (Value.slice A N c).ownBlock = some k) (w.drewN nq) w2 := (((Gr.refl _).alloc _).touch _).trans (grown_touch hgrow2 _ (fun k e _ => e)); have HR2 := hid (HR1.out.touch t2 (fun e => own_ne HO1.out HR1.out (by decide) e rfl rfl)); have k0 := HR2.out.cell (j := 0) rfl; have kf := HR2.out.free 0; have HT2 := hid t2; have HO2 := hid hown2; have HA2 := hid (And.intro hat2 hlt2); clear hown2 hgrow2 hat2 hlt2 t2)
    obtain ⟨W3, hW3⟩ : ∃ W3, W3 = w2.setCell ⟨s, 0, none⟩ (.slice (some ⟨g2, 0, none⟩) (N + 1) c2) := ⟨_, rfl⟩
    rw [← hW3]
    have R3 : Rec W3 s 267 [.slice (some ⟨g2, 0, none⟩) (N + 1) c2, .int .i64 R, .int .i64 hi, .bool lost] := by rw [hW3]; exact Rec.set HR2.out 0 _
    have O3 := own_set_other (q := s) (j := 0) HO2.out (.slice (some ⟨g2, 0, none⟩) (N + 1) c2) (fun g hg => own_ne HO2.out HR2.out (by decide) hg rfl)
    rw [← hW3] at O3
    have T3 : Touch S w W3 := by
      rw [hW3]
      exact ((HG.out.touch S).trans (HT2.out.mono (fun k _ hk => HS.out k (by rw [← HN.out]; exact hk)))).setCell (a := ⟨s, 0, none⟩) (fun _ => h1) _
    have y0 := R3.cell (j := 0) rfl
    have y2 := R3.cell (j := 2) rfl
    have yf := R3.free 2
    have HW3 := hid (And.intro R3 (And.intro O3 T3))
    have hsz : (w.drewN nq).heap.size = w.heap.size := rfl
    clear hW3 R3 O3 T3 k0 kf c0 c1 c3 f3
    obtain ⟨Sx, hSx⟩ : ∃ Sx : World → Prop, Sx = fun W' => W'.cell? ⟨s, 0, none⟩ = some (.slice (some ⟨g2, 0, none⟩) (N + 1) c2) ∧ W'.cell? ⟨s, 2, none⟩ = some (.int .i64 hi) := ⟨_, rfl⟩
    have x0 : ∀ p' : Held Sx, p'.w.cell? ⟨s, 0, none⟩ = some (.slice (some ⟨g2, 0, none⟩) (N + 1) c2) := fun p' => (Held.get hSx p').1
    have x2 : ∀ p' : Held Sx, p'.w.cell? ⟨s, 2, none⟩ = some (.int .i64 hi) := fun p' => (Held.get hSx p').2
    have hS0 : Sx W3.drew := by rw [hSx]; exact ⟨y0, y2⟩
    clear hSx
    have inst : Inhabited (Held Sx) := ⟨⟨_, hS0⟩⟩
    refine wp_region_mixS Sx 13 [([0, 1, 2, 3, 4, 5, 6, 7, 8, 9, 10, 11, 12], 13)] [] (by kernel_rfl) (by kernel_rfl) hS0 ?_
    refine segs_step ?_
    simp only [opsAt, List.getElem?_cons_zero, List.getElem?_cons_succ]
    repeat (go_big_quiet_step (fail))
    refine wpQuiet_nil ?_
    go_wp2
    refine ⟨.inl trivial, ?_⟩
    refine segs_end ?_
    refine wpQuiet_nil ?_
    refine NoPanic.normal ?_
    clear x0 x2 hS0 inst
    clear Sx
    go_wp2
    go_ret
    obtain ⟨R3, O3, T3⟩ := HW3.out
    have hA2 := HA2.out
    refine .inr ⟨by rw [← HN.out]; omega, rfl, (T3.setCell (a := ⟨s, 2, none⟩) (fun _ => h1) _).drew, .inl h1, h2, by rw [List.length_append, ← HN.out]; simp; omega, .slice (some ⟨g2, 0, none⟩) (N + 1) c2, max hi ((N : Int) + 1), Rec.gr (Rec.set R3 2 _) (Gr.refl _).drew, ?_, fun g hg => ?_⟩
    · rw [List.length_append, ← HN.out, show zs (l ++ [a]) = zs l ++ [.int .i64 a] by unfold zs; rw [List.map_append]; rfl]
      exact own_gr (own_set_other O3 _ (fun g hg => own_ne O3 R3 (by decide) hg rfl)) (Gr.refl _).drew
    · cases hg
      rcases hA2.1 with h | h
      · exact .inl (HS.out _ (by rw [← HN.out]; exact h))
      · right
        show w.heap.size ≤ g2
        omega
end
end Go.Proofs.YtbmidhlilafgeaaGreatDoor
end

section
namespace Go.Proofs.YtbmidhlilafgeaaGreatDoor
open Go.RowKit Word

/-- A table of root slots: its block, the block of its row, the slots' addresses. -/
structure RtAt (w : World) (r g : Nat) (rs : List Int) : Prop where
  rcd : Rec w r 102 [.slice (some ⟨g, 0, none⟩) rs.length rs.length]
  row : w.ownsRow 0 3 1 (.slice (some ⟨g, 0, none⟩) rs.length rs.length) rs.length (zs rs)
  ne : rs ≠ []
  le : rs.length ≤ 64
theorem zs_set (l : List Int) (i : Nat) (a : Int) : (zs l).set i (.int .i64 a) = zs (l.set i a) := by unfold zs; rw [List.map_set]
theorem RtAt.touch {S : Nat → Prop} {w w' : World} {r g : Nat} {rs : List Int} (h : RtAt w r g rs) (t : Touch S w w') (h1 : ¬ S r) (h2 : ¬ S g) : RtAt w' r g rs :=
  ⟨h.rcd.touch t h1, own_touch h.row t (fun g' hg => by cases hg; exact h2), h.ne, h.le⟩
theorem RtAt.gr {w w' : World} {r g : Nat} {rs : List Int} (h : RtAt w r g rs) (t : Gr w w') : RtAt w' r g rs := ⟨h.rcd.gr t, own_gr h.row t, h.ne, h.le⟩
theorem RtAt.lt {w : World} {r g : Nat} {rs : List Int} (h : RtAt w r g rs) : r < w.heap.size ∧ g < w.heap.size := ⟨h.rcd.lt, (own_lt h.row rfl).2⟩
theorem RtAt.dif {w : World} {r g : Nat} {rs : List Int} (h : RtAt w r g rs) : g ≠ r := own_ne h.row h.rcd (by decide) rfl rfl
theorem RtAt.set {w : World} {r g : Nat} {rs : List Int} (h : RtAt w r g rs) (i : Nat) (a : Int) : RtAt (w.setCell ⟨g, i, none⟩ (.int .i64 a)) r g (rs.set i a) := by
  have hl : (rs.set i a).length = rs.length := List.length_set
  refine ⟨?_, ?_, fun e => h.ne ?_, by rw [hl]; exact h.le⟩
  · rw [hl]
    exact own_set_other h.rcd _ (fun g' hg e => by cases hg; exact h.dif e.symm)
  · rw [hl]
    have := (World.ownsRow.stored h.row i (.int .i64 a)).1
    rw [zs_set] at this
    exact this
  · have : (rs.set i a).length = 0 := by rw [e]; rfl
    rw [hl] at this
    exact List.eq_nil_of_length_eq_zero this
theorem RtAt.cell {w : World} {r g : Nat} {rs : List Int} (h : RtAt w r g rs) {i : Nat} (hi : i < rs.length) : w.cell? ⟨g, i, none⟩ = some (.int .i64 rs[i]) := own_cell h.row (zs_at hi)
theorem RtAt.ints {w : World} {r g : Nat} {rs : List Int} (h : RtAt w r g rs) : IntsAt w (some ⟨g, 0, none⟩) rs := fun i hi => ⟨g, 0, rfl, h.lt.2, by rw [Nat.zero_add]; exact h.cell hi⟩
section
variable {w : World} {r g : Nat} {rs : List Int}
/-- Whether there is a slot. -/
def slE (rs : List Int) (i : Int) : Int := if 0 ≤ i ∧ i < rs.length then 0 else 17
set_option maxRecDepth 100000 in
theorem rt_check (h : RtAt w r g rs) {b : Nat} {i : Int} (hc : w.cell? ⟨b, 0, none⟩ = some (.int .i64 i)) : Calls Tryz.prog 90 #[.pointer (some ⟨r, 0, none⟩), .slice (some ⟨b, 0, none⟩) 1 1] w fun e w' => e = .returned (.int .i64 (slE rs i)) ∧ w = w' := by
  have c0 := h.rcd.cell (j := 0) rfl
  have hle := h.le
  have hbl := lt_cell hc
  clear h
  obtain ⟨n, hn⟩ : ∃ n, n = rs.length := ⟨_, rfl⟩
  unfold slE
  rw [← hn] at c0 hle ⊢
  rcases (by omega : i < 0 ∨ (0 ≤ i ∧ (n : Int) ≤ i) ∨ (0 ≤ i ∧ i < n)) with h1 | h1 | h1
  · have d0 : decide (i < 0) = true := decide_eq_true h1
    have e0 : (if 0 ≤ i ∧ i < (n : Int) then (0 : Int) else 17) = 17 := if_neg (by omega)
    rw [e0]
    go_enter Tryz.func90, Tryz.ntmps90
    go_wp2
    go_loopw [11] (fun s11 wr => wr = w ∧ s11 = .int .i64 0) (fun _ _ => 0)
    case atStart => exact ⟨rfl, rfl⟩
    case round =>
      obtain ⟨rfl, rfl⟩ := hrel
      go_wp2
      go_ret
      exact ⟨rfl, rfl⟩
  · obtain ⟨h1, h2⟩ := h1
    have d0 : decide (i < 0) = false := decide_eq_false (by omega)
    have d1 : decide ((n : Int) ≤ i) = true := decide_eq_true h2
    have e0 : (if 0 ≤ i ∧ i < (n : Int) then (0 : Int) else 17) = 17 := if_neg (by omega)
    rw [e0]
    go_enter Tryz.func90, Tryz.ntmps90
    go_wp2
    go_loopw [11] (fun s11 wr => wr = w ∧ s11 = .int .i64 0) (fun _ _ => 0)
    case atStart => exact ⟨rfl, rfl⟩
    case round =>
      obtain ⟨rfl, rfl⟩ := hrel
      go_wp2
      go_ret
      exact ⟨rfl, rfl⟩
  · obtain ⟨h1, h2⟩ := h1
    have d0 : decide (i < 0) = false := decide_eq_false (by omega)
    have d1 : decide ((n : Int) ≤ i) = false := decide_eq_false (by omega)
    have e0 : (if 0 ≤ i ∧ i < (n : Int) then (0 : Int) else 17) = 0 := if_pos ⟨h1, h2⟩
    rw [e0]
    go_enter Tryz.func90, Tryz.ntmps90
    go_wp2
    go_loopw [11] (fun s11 wr => ∃ j : Nat, j ≤ 1 ∧ wr = w ∧ s11 = .int .i64 j) (fun s11 _ => 1 - (intOf s11).toNat)
    case atStart => exact ⟨0, by omega, by simp⟩
    case round =>
      obtain ⟨j, hj, rfl, rfl⟩ := hrel
      rcases (by omega : j = 0 ∨ j = 1) with rfl | rfl
      · go_wp2
        go_round
        case rel => exact ⟨1, by omega, trivial, by go_num⟩
        case measure => simp [intOf]
      · go_wp2
        go_ret
        exact ⟨rfl, rfl⟩
theorem rt_len (h : RtAt w r g rs) : Calls Tryz.prog 63 #[.pointer (some ⟨r, 0, none⟩)] w fun e w' => e = .returned (.int .i64 (rs.length : Nat)) ∧ w = w' := by
  have c0 := h.rcd.cell (j := 0) rfl
  clear h
  go_enter Tryz.func63, Tryz.ntmps63
  go_wp2
  go_ret
  exact ⟨rfl, rfl⟩
theorem rt_len_nil (w : World) : Calls Tryz.prog 63 #[.pointer none] w fun e w' => e = .returned (.int .i64 0) ∧ w = w' := by
  go_enter Tryz.func63, Tryz.ntmps63
  go_wp2
  go_ret
  exact ⟨rfl, rfl⟩
set_option maxRecDepth 100000 in
theorem rt_get (h : RtAt w r g rs) {i : Nat} (hi : i < rs.length) : Calls Tryz.prog 65 #[.pointer (some ⟨r, 0, none⟩), .int .i64 i] w fun e w' => e = .returned (.tuple #[.int .i64 rs[i], .int .i64 0]) ∧ Gr w w' := by
  have HC := hid (rt_check (h.gr ((Gr.refl w).alloc (.cells #[.int .i64 i] 3))) (b := w.heap.size) (i := i) ((Rec.new w 3 [.int .i64 i]).cell (j := 0) rfl))
  rw [show slE rs i = 0 from if_pos ⟨by omega, by omega⟩] at HC
  have h' := h.gr ((Gr.refl w).alloc (.cells #[.int .i64 i] 3))
  have c0 := h'.rcd.cell (j := 0) rfl
  have c1 := h'.cell hi
  have hle := h'.le
  obtain ⟨x, hx⟩ : ∃ x, x = rs[i] := ⟨_, rfl⟩
  rw [← hx] at c1 ⊢
  obtain ⟨n, hn⟩ : ∃ n, n = rs.length := ⟨_, rfl⟩
  rw [← hn] at c0 hle hi
  clear h h' hx hn
  go_enter Tryz.func65, Tryz.ntmps65
  go_wp2_with (go_at_call 90; refine HC.out.mono ?_; rintro e w1 ⟨rfl, rfl⟩)
  go_ret2
  exact ⟨rfl, (Gr.refl w).alloc _⟩
set_option maxRecDepth 100000 in
theorem rt_set (h : RtAt w r g rs) {i : Nat} (hi : i < rs.length) {a : Int} (ha : 0 ≤ a) : Calls Tryz.prog 29 #[.pointer (some ⟨r, 0, none⟩), .int .i64 i, .int .i64 a] w fun e w' => e = .returned (.int .i64 0) ∧ Touch (fun k => k = g) w w' ∧ RtAt w' r g (rs.set i a) := by
  have HC := hid (rt_check (h.gr ((Gr.refl w).alloc (.cells #[.int .i64 i] 3))) (b := w.heap.size) (i := i) ((Rec.new w 3 [.int .i64 i]).cell (j := 0) rfl))
  rw [show slE rs i = 0 from if_pos ⟨by omega, by omega⟩] at HC
  have h' := h.gr ((Gr.refl w).alloc (.cells #[.int .i64 i] 3))
  have HR := hid h'
  have c0 := h'.rcd.cell (j := 0) rfl
  have c1 := h'.cell hi
  have cf := own_free h'.row i
  have hle := h'.le
  have d0 : decide (a < 0) = false := decide_eq_false (by omega)
  obtain ⟨n, hn⟩ : ∃ n, n = rs.length := ⟨_, rfl⟩
  rw [← hn] at c0 hle hi
  clear h h' hn
  go_enter Tryz.func29, Tryz.ntmps29
  go_wp2_with (go_at_call 90; refine HC.out.mono ?_; rintro e w1 ⟨rfl, rfl⟩)
  go_ret
  exact ⟨rfl, Touch.setCell (S := fun k => k = g) (((Gr.refl w).alloc _).touch _) (a := ⟨g, i, none⟩) (fun _ => rfl) _, HR.out.set i a⟩
theorem made_ints (n : Nat) : (madeCells #[.int .i64 0] n).toList = zs (List.replicate n 0) := by
  unfold madeCells zs
  apply List.ext_getElem
  · simp
  · intro i h1 h2
    simp [Nat.mod_one]
theorem infoIntV' : (Tryz.prog.info? 3).map (fun i => (i.zero, i.size, i.bytes)) = some (some (.int .i64 0), 1, 8) := by kernel_rfl
set_option maxRecDepth 100000 in
set_option maxHeartbeats 800000 in
theorem rt_new {n : Nat} (h1 : 1 ≤ n) (h2 : n ≤ 64) (w : World) : Calls Tryz.prog 58 #[.int .i64 n] w fun e w' => ∃ r g, e = .returned (.tuple #[.pointer (some ⟨r, 0, none⟩), .int .i64 0]) ∧ Gr w w' ∧ RtAt w' r g (List.replicate n 0) ∧ w.heap.size ≤ r ∧ w.heap.size ≤ g := by
  obtain ⟨i0, hi, hz0, hz1, hz2⟩ := info_parts infoIntV'
  have HB : Hid (i0.bytes * n ≤ 281474976710656) := ⟨by rw [hz2]; omega⟩
  have HM : Hid (n ≤ maxLen) := ⟨by unfold maxLen; omega⟩
  have d0 : decide ((n : Int) < 1) = false := decide_eq_false (by omega)
  have d1 : decide (64 < (n : Int)) = false := decide_eq_false (by omega)
  go_enter Tryz.func58, Tryz.ntmps58
  go_wp2_with (at_make; refine wpList_make_full _ rfl _ _ 30 rfl w.heap.size 3 i0 (.int .i64 0) 1 Tryz.underlying30 hi hz0 hz1 .i64 .i64 _ _ n rfl rfl ?h1 ?h2 HB.out HM.out (Nat.le_refl _) ?h3)
  case h1 => omega
  case h2 => omega
  case h3 =>
    intro w1 hown hgrow
    have hg1 : Gr w w1 := (grownBy_touch hgrow (fun _ => False) (fun k e _ => by cases e)).gr
    have HO := hid hown
    have HG := hid hg1
    clear hown hgrow hg1
    go_wp2
    go_ret2
    obtain ⟨g, c, hv, hg2, -, -⟩ := slice_of_own HO.out (by omega)
    simp only [Value.slice.injEq, Option.some.injEq, Addr.mk.injEq, and_true, true_and] at hv
    have hl : (List.replicate n (0 : Int)).length = n := List.length_replicate
    refine ⟨w1.heap.size, w.heap.size, ret2 rfl rfl, HG.out.alloc _, ⟨?_, ?_, fun e => ?_, by rw [hl]; exact h2⟩, HG.out.size, Nat.le_refl _⟩
    · rw [hl]; exact Rec.new w1 _ _
    · rw [hl]
      have := own_gr (own_zero HO.out) ((Gr.refl w1).alloc (.cells #[.slice (some ⟨w.heap.size, 0, none⟩) n n] 102))
      rw [made_ints] at this
      exact this
    · have := congrArg List.length e
      rw [hl] at this
      simp at this
      omega
set_option maxRecDepth 100000 in
set_option maxHeartbeats 800000 in
theorem clone_ints {n b cap : Nat} {l : List Int} (hn : n = l.length) (hn0 : n ≠ 0) (hb : b < w.heap.size) (hc : ∀ i (h : i < l.length), w.cell? ⟨b, i, none⟩ = some (.int .i64 l[i])) (hl : n ≤ 64) :
    Calls Tryz.prog 66 #[.slice (some ⟨b, 0, none⟩) n cap] w fun e w' => ∃ g c, e = .returned (.slice (some ⟨g, 0, none⟩) n c) ∧ Gr w w' ∧ w.heap.size ≤ g ∧ w'.ownsRow 0 3 1 (.slice (some ⟨g, 0, none⟩) n c) n (zs l) := by
  obtain ⟨i0, hi, hz0, hz1, hz2⟩ := info_parts infoIntV'
  have hsn := Lib.run_eql_slice_nil (P := Tryz.prog) w 30 3 (some ⟨b, 0, none⟩) n cap 0 0 Tryz.underlying30
  have hown : (w.alloc (.cells #[] 3)).ownsRow w.heap.size 3 1 (.slice (some ⟨w.heap.size, 0, none⟩) 0 0) 0 [] :=
    ⟨rfl, .inr ⟨w.heap.size, 0, #[], rfl, Nat.le_refl _, heap_alloc_new w _, Nat.le_refl _, by unfold maxLen; omega, rfl, rfl⟩⟩
  have hcell : ∀ (j : Nat) (u : Value), (zs l)[j]? = some u → (w.alloc (.cells #[] 3)).cell? (Addr.add ⟨b, 0, none⟩ j) = some u := fun j u hj => by
    have hjl : j < l.length := by
      rcases Nat.lt_or_ge j l.length with h | h
      · exact h
      · rw [List.getElem?_eq_none (by simpa [zs] using h)] at hj; cases hj
    rw [zs_at hjl] at hj
    cases hj
    have e : Addr.add ⟨b, 0, none⟩ j = ⟨b, j, none⟩ := by unfold Addr.add; split <;> simp_all
    rw [e, World.cell?_alloc_lt (h := hb), hc j hjl]
  have h1c : ∀ u ∈ zs l, u.oneCell' = true := fun u hu => by
    obtain ⟨i, _, rfl⟩ := List.mem_map.1 hu; rfl
  have HO := hid hown
  have HC := hid hcell
  have H1 := hid h1c
  have HL := hid (show n = (zs l).length by rw [hn]; simp [zs])
  have HN0 := hid hn0
  clear hown hcell h1c hn0 hc hn
  go_enter Tryz.func66, Tryz.ntmps66
  go_wp2_with (at_builtin; (refine wpList_append_own _ rfl _ _ 30 rfl w.heap.size 3 i0 (.int .i64 0) 1 8 Tryz.underlying30 hi hz0 hz1 hz2 rfl (by decide) _ _ _ rfl HO.out ⟨b, 0, none⟩ n cap (zs l) rfl (by rw [← HL.out]; omega) HC.out H1.out (by unfold maxLen; omega) (by omega) (by simp) ?_); intro v' w1 hown1 hgrow _; obtain ⟨g, c, hv, hg1, hg2, hg3⟩ := slice_of_own hown1 (by have := HN0.out; omega); subst hv)
  go_ret
  have hgrow' : (w.alloc (.cells #[] 3)).grownBy w1 (some w.heap.size) := hgrow
  refine ⟨g, c, by simp, ?_, hg1, by simpa using own_zero hown1⟩
  refine Touch.gr ((((Gr.refl w).alloc _).touch _).trans' (grownBy_touch hgrow' (fun k => k = w.heap.size) (fun k e _ => by cases e; rfl)) ?_)
  rintro i hi rfl; omega
set_option maxRecDepth 100000 in
theorem rt_all (h : RtAt w r g rs) : Calls Tryz.prog 16 #[.pointer (some ⟨r, 0, none⟩)] w fun e w' => ∃ g c, e = .returned (.slice (some ⟨g, 0, none⟩) rs.length c) ∧ Gr w w' ∧ w.heap.size ≤ g ∧ w'.ownsRow 0 3 1 (.slice (some ⟨g, 0, none⟩) rs.length c) rs.length (zs rs) := by
  have c0 := h.rcd.cell (j := 0) rfl
  have HCL := hid (clone_ints (w := w) (b := g) (cap := rs.length) rfl (fun e => h.ne (List.eq_nil_of_length_eq_zero e)) h.lt.2 (fun i hi => h.cell hi) h.le)
  clear h
  go_enter Tryz.func16, Tryz.ntmps16
  go_wp2_with (go_at_call 66; refine HCL.out.mono ?_; rintro e w1 ⟨g1, c1, rfl, hg1, hg2, ho⟩; have HG1 := hid hg1; have HG2 := hid hg2; have HO1 := hid ho; clear hg1 hg2 ho)
  go_ret
  exact ⟨g1, c1, rfl, HG1.out, HG2.out, HO1.out⟩
end
end Go.Proofs.YtbmidhlilafgeaaGreatDoor
end

section
namespace Go.Proofs.YtbmidhlilafgeaaGreatDoor
open Go.RowKit Word

section
variable {w : World} {r g : Nat} {rs : List Int}
/-- What a round's call leaves. -/
def TurnStep (g r : Nat) (rs : List Int) (i : Nat) (out : List Int) (J : Nat → World → List Int → Prop) (e : Ending) (W' : World) : Prop :=
  ∃ b : Int, e = .returned (.int .i64 b) ∧ RtAt W' r g (out ++ rs.drop i) ∧ ∀ W'', Touch (fun k => k = g) W' W'' → J (i + 1) W'' (out ++ [max b 0])
theorem rt_split {out rs : List Int} {i : Nat} (hi : i < rs.length) (ho : out.length = i) (b : Int) : (out ++ rs.drop i).set i b = (out ++ [b]) ++ rs.drop (i + 1) := by
  subst ho
  rw [List.set_append_right _ _ (Nat.le_refl _), Nat.sub_self, List.drop_eq_getElem_cons hi, List.set_cons_zero, List.append_assoc]
  rfl
theorem rt_at {out rs : List Int} {i : Nat} (hi : i < rs.length) (ho : out.length = i) (h : i < (out ++ rs.drop i).length) : (out ++ rs.drop i)[i] = rs[i] := by
  subst ho
  simp
set_option maxRecDepth 100000 in
set_option maxHeartbeats 3200000 in
theorem rt_turn {F : Nat} {pre caps : Array Value} (J : Nat → World → List Int → Prop) (hcf : ∀ args w, (callFunc F args).run Tryz.prog w = .ok (.enter F args) w)
    (h : RtAt w r g rs) (h0 : J 0 w [])
    (hz : ∀ i (hi : i < rs.length) W out, out.length = i → J i W out → rs[i] = 0 → J (i + 1) W (out ++ [0]))
    (hF : ∀ i (hi : i < rs.length) W out, out.length = i → J i W out → RtAt W r g (out ++ rs.drop i) → rs[i] ≠ 0 → ∀ W0, Gr W W0 → Calls Tryz.prog F (pre ++ #[.int .i64 rs[i]] ++ caps) W0 (TurnStep g r rs i out J)) :
    Calls Tryz.prog 68 #[.pointer (some ⟨r, 0, none⟩), .func (.func F) pre caps] w fun e w' => e = .returned (.tuple #[]) ∧ ∃ out, out.length = rs.length ∧ J rs.length w' out ∧ RtAt w' r g out := by
  have hle := h.le
  obtain ⟨n, hn⟩ : ∃ n, n = rs.length := ⟨_, rfl⟩
  have c0 := h.rcd.cell (j := 0) rfl
  have HN := hid hn
  have HR := hid h
  have HJ0 := hid h0
  have HZ := hid hz
  have HF := hid hF
  rw [← hn] at c0 hle ⊢
  clear h h0 hz hF hn
  go_enter Tryz.func68, Tryz.ntmps68
  go_wp2
  go_loopw [13] (fun s13 wr => ∃ (i : Nat) (out : List Int), i ≤ n ∧ Hid (out.length = i) ∧ Hid (J i wr out) ∧ Hid (RtAt wr r g (out ++ rs.drop i)) ∧ s13 = .int .i64 i) (fun s13 _ => n - (intOf s13).toNat)
  case atStart => exact ⟨0, [], by omega, ⟨rfl⟩, HJ0, HR, rfl⟩
  case round =>
    obtain ⟨i, out, hi, HO, HJ, HT, rfl⟩ := hrel
    clear c0
    by_cases hlast : i = n
    · subst hlast
      go_wp2
      refine bodyPost_end (results_none rfl _ _ _) rfl ?_
      refine ⟨rfl, out, HO.out, HJ.out, ?_⟩
      have := HT.out
      rw [HN.out, List.drop_length, List.append_nil] at this
      exact this
    · have hil : i < rs.length := by have := HN.out; omega
      have hlen : (out ++ rs.drop i).length = n := by have := HO.out; have := HN.out; simp; omega
      have hiI : (i : Int) < (n : Int) := by omega
      have c1 := HT.out.cell (i := i) (by rw [hlen]; omega)
      rw [rt_at hil HO.out] at c1
      obtain ⟨a, ha⟩ : ∃ a, a = rs[i] := ⟨_, rfl⟩
      have HA := hid ha
      have HIL := hid hil
      have HLL := hid hlen
      have HNL := hid hlast
      rw [← ha] at c1
      clear ha hlast
      by_cases ha0 : a = 0
      · subst ha0
        clear hlen
        go_wp2
        go_round
        case rel =>
          refine ⟨i + 1, out ++ [0], by have := HNL.out; omega, ⟨by have := HO.out; simp [this]⟩, ⟨HZ.out i HIL.out _ out HO.out HJ.out HA.out.symm⟩, ⟨?_⟩, by go_num⟩
          have := HT.out
          rw [List.drop_eq_getElem_cons HIL.out, ← HA.out] at this
          simpa using this
        case measure => have := HNL.out; simp [intOf]; omega
      · have d0 : (a != 0) = true := by simpa using ha0
        have HCALL := hid (HF.out i HIL.out wr out HO.out HJ.out HT.out (by rw [← HA.out]; exact ha0) _ (Gr.refl wr).drew)
        rw [← HA.out] at HCALL
        unfold TurnStep at HCALL
        have y0 := HT.out.rcd.cell (j := 0) rfl
        rw [hlen] at y0
        have hrl := HT.out.lt
        clear hlen
        go_upto_region 5 with (fail)
        obtain ⟨Sx, hSx⟩ : ∃ Sx : World → Prop, Sx = fun W' => W'.cell? ⟨r, 0, none⟩ = some (.slice (some ⟨g, 0, none⟩) n n) := ⟨_, rfl⟩
        have x0 : ∀ p' : Held Sx, p'.w.cell? ⟨r, 0, none⟩ = some (.slice (some ⟨g, 0, none⟩) n n) := fun p' => Held.get hSx p'
        have hS0 : Sx wr.drew := by rw [hSx]; exact y0
        have HSX := hid hSx
        clear hSx
        have inst : Inhabited (Held Sx) := ⟨⟨_, hS0⟩⟩
        have hmax := run_maxB2 Tryz.prog
        refine wp_region_mixS Sx 10 [([0, 1, 2, 3, 4, 5, 6], 7), ([8, 9], 10)] [] (by kernel_rfl) (by kernel_rfl) hS0 ?_
        refine segs_step ?_
        simp only [opsAt, List.getElem?_cons_zero, List.getElem?_cons_succ]
        repeat (go_big_quiet_step (fail))
        refine wpQuiet_nil ?_
        go_wp2_with (refine HCALL.out.mono ?_; rintro e w3 ⟨b, rfl, hr3, hj3⟩; have HR3 := hid hr3; have HJ3 := hid hj3; have z0 := hr3.rcd.cell (j := 0) rfl; have z1 := hr3.cell (i := i) (by rw [HLL.out]; have := HNL.out; omega); have zf := own_free hr3.row i; rw [HLL.out] at z0; clear hr3 hj3)
        refine ⟨.inr (Held.of (by rw [HSX.out]; exact z0)), ?_⟩
        refine segs_step ?_
        simp only [opsAt, List.getElem?_cons_zero, List.getElem?_cons_succ]
        repeat (go_big_quiet_step (fail))
        refine wpQuiet_nil ?_
        go_wp2
        refine ⟨.inl trivial, ?_⟩
        refine segs_end ?_
        refine wpQuiet_nil ?_
        refine NoPanic.normal ?_
        clear x0 hS0 inst
        go_wp2
        go_round
        case rel =>
          refine ⟨i + 1, out ++ [max b 0], by have := HNL.out; omega, ⟨by have := HO.out; simp [this]⟩, ⟨HJ3.out _ ?_⟩, ⟨?_⟩, by go_num⟩
          · exact Touch.setCell (S := fun k => k = g) (Touch.refl _ _) (a := ⟨g, i, none⟩) (fun _ => rfl) _
          · have := HR3.out.set i (max b 0)
            rw [rt_split HIL.out HO.out] at this
            exact this
        case measure => have := HNL.out; simp [intOf]; omega
end
end Go.Proofs.YtbmidhlilafgeaaGreatDoor
end
