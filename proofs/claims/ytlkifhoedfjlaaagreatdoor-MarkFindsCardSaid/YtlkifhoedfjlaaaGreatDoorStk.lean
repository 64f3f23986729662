/- Package stack. -/
import Derived.Test.YtlkifhoedfjlaaaGreatDoorVm
namespace Go.Proofs.YtlkifhoedfjlaaaGreatDoor
open Go.RowKit Word

def IntsAt (w : World) (A : Option Addr) (l : List Int) : Prop := ∀ i (h : i < l.length), ∃ b o, A = some ⟨b, o, none⟩ ∧ b < w.heap.size ∧ w.cell? ⟨b, o + i, none⟩ = some (.int .i64 l[i])
/-- Numbers that lie in a row apart from some blocks. -/
def IntsOff (T : Nat → Prop) (w : World) (A : Option Addr) (l : List Int) : Prop := ∀ i (h : i < l.length), ∃ b o, A = some ⟨b, o, none⟩ ∧ b < w.heap.size ∧ ¬ T b ∧ w.cell? ⟨b, o + i, none⟩ = some (.int .i64 l[i])
theorem IntsOff.touch {T S : Nat → Prop} {w w' : World} {A : Option Addr} {l : List Int} (h : IntsOff T w A l) (t : Touch S w w') (hs : ∀ b, b < w.heap.size → S b → T b) : IntsOff T w' A l := fun i hi => by
  obtain ⟨b, o, e, hb, hT, hc⟩ := h i hi
  exact ⟨b, o, e, Nat.lt_of_lt_of_le hb t.size, hT, (t.cell hb (fun x => hT (hs b hb x)) _).trans hc⟩
theorem IntsOff.gr {T : Nat → Prop} {w w' : World} {A : Option Addr} {l : List Int} (h : IntsOff T w A l) (t : Gr w w') : IntsOff T w' A l := h.touch (t.touch (fun _ => False)) (fun _ _ h => h.elim)
theorem IntsOff.mono {T T' : Nat → Prop} {w : World} {A : Option Addr} {l : List Int} (h : IntsOff T w A l) (hs : ∀ b, b < w.heap.size → T' b → T b) : IntsOff T' w A l := fun i hi => by
  obtain ⟨b, o, e, hb, hT, hc⟩ := h i hi
  exact ⟨b, o, e, hb, fun x => hT (hs b hb x), hc⟩
def zs (l : List Int) : List Value := l.map fun x => .int .i64 x
/-- A stack s of numbers l lies in w. -/
structure StkAt (w : World) (S : Nat → Prop) (s : Nat) (l : List Int) (R : Nat) (lost : Bool) : Prop where
  ss : S s
  r1 : 1 ≤ R ∧ R ≤ 4096
  le : l.length ≤ R
  row : ∃ vl hi, Rec w s 115 [vl, .int .i64 R, .int .i64 hi, .bool lost] ∧ w.ownsRow 0 3 1 vl l.length (zs l) ∧ ∀ g, vl.ownBlock = some g → S g
theorem StkAt.touch {S T : Nat → Prop} {w w' : World} {s : Nat} {l : List Int} {R : Nat} {b : Bool} (h : StkAt w S s l R b) (t : Touch T w w') (hS : ∀ k, S k → k < w.heap.size → ¬ T k) : StkAt w' S s l R b := by
  obtain ⟨h1, h2, h3, vl, hi, hr, ho, hs⟩ := h
  exact ⟨h1, h2, h3, vl, hi, hr.touch t (hS _ h1 hr.lt), own_touch ho t (fun g hg => hS g (hs g hg) (own_lt ho hg).2), hs⟩
theorem StkAt.gr {S : Nat → Prop} {w w' : World} {s : Nat} {l : List Int} {R : Nat} {b : Bool} (h : StkAt w S s l R b) (t : Gr w w') : StkAt w' S s l R b := h.touch (t.touch (fun _ => False)) (fun _ _ _ h => h)
theorem StkAt.mono {S T : Nat → Prop} {w : World} {s : Nat} {l : List Int} {R : Nat} {b : Bool} (h : StkAt w S s l R b) (hT : ∀ k, S k → T k) : StkAt w T s l R b := by
  obtain ⟨h1, h2, h3, vl, hi, hr, ho, hs⟩ := h
  exact ⟨hT _ h1, h2, h3, vl, hi, hr, ho, fun g hg => hT g (hs g hg)⟩
theorem StkAt.cut {S : Nat → Prop} {w : World} {s : Nat} {l : List Int} {R : Nat} {b : Bool} (h : StkAt w S s l R b) : StkAt w (cutS S w) s l R b := by
  obtain ⟨h1, h2, h3, vl, hi, hr, ho, hs⟩ := h
  exact ⟨⟨h1, hr.lt⟩, h2, h3, vl, hi, hr, ho, fun g hg => ⟨hs g hg, (own_lt ho hg).2⟩⟩
section
variable {w : World} {S : Nat → Prop} {s R : Nat} {l : List Int} {lost : Bool}
theorem stk_len (h : StkAt w S s l R lost) : Calls Tryz.prog 106 #[.pointer (some ⟨s, 0, none⟩)] w fun e w' => e = .returned (.int .i64 (l.length : Nat)) ∧ w = w' := by
  obtain ⟨h1, h2, h3, vl, hi, hr, ho, hs⟩ := h
  obtain ⟨A, c, rfl, hc1, hc2⟩ := own_shape ho
  have c0 := hr.cell (j := 0) rfl
  clear hr ho hs
  go_enter Tryz.func106, Tryz.ntmps106
  go_wp2
  go_ret
  exact ⟨rfl, rfl⟩
theorem stk_lost (h : StkAt w S s l R lost) : Calls Tryz.prog 61 #[.pointer (some ⟨s, 0, none⟩)] w fun e w' => e = .returned (.bool lost) ∧ w = w' := by
  obtain ⟨h1, h2, h3, vl, hi, hr, ho, hs⟩ := h
  have c3 := hr.cell (j := 3) rfl
  clear hr ho hs
  go_enter Tryz.func61, Tryz.ntmps61
  go_wp2
  go_ret
  exact ⟨rfl, rfl⟩
theorem stk_found (h : StkAt w S s l R lost) : Calls Tryz.prog 62 #[.pointer (some ⟨s, 0, none⟩)] w fun e w' => e = .returned (.tuple #[]) ∧ Touch S w w' ∧ StkAt w' S s l R false := by
  obtain ⟨h1, h2, h3, vl, hi, hr, ho, hs⟩ := h
  have c3 := hr.cell (j := 3) rfl
  have f3 := hr.free 3
  have HR := hid hr
  have HO := hid ho
  have HS := hid hs
  clear hr ho hs
  go_enter Tryz.func62, Tryz.ntmps62
  go_wp2
  refine bodyPost_end (results_none rfl _ _ _) rfl ?_
  exact ⟨rfl, (Touch.refl S w).setCell (a := ⟨s, 3, none⟩) (fun _ => h1) _, h1, h2, h3, vl, hi, Rec.set HR.out 3 _, own_set_other HO.out _ (fun g hg => own_ne HO.out HR.out (by decide) hg rfl), HS.out⟩
def PopEnd (w : World) (S : Nat → Prop) (s : Nat) (l : List Int) (R : Nat) (lost : Bool) (e : Ending) (w' : World) : Prop :=
  (l = [] ∧ e = .returned (.tuple #[.int .i64 0, .bool false]) ∧ w = w') ∨ (∃ l' a, l = l' ++ [a] ∧ e = .returned (.tuple #[.int .i64 a, .bool true]) ∧ Touch S w w' ∧ StkAt w' S s l' R lost)
set_option maxRecDepth 100000 in
set_option maxHeartbeats 800000 in
theorem stk_pop (h : StkAt w S s l R lost) : Calls Tryz.prog 90 #[.pointer (some ⟨s, 0, none⟩)] w (PopEnd w S s l R lost) := by
  have HL := hid (stk_len h)
  obtain ⟨h1, h2, h3, vl, hi, hr, ho, hs⟩ := h
  rcases List.eq_nil_or_concat l with rfl | ⟨l', a, rfl⟩
  · clear hr ho hs
    go_enter Tryz.func90, Tryz.ntmps90
    go_wp2_with (go_at_call 106; refine HL.out.mono ?_; rintro e w1 ⟨rfl, rfl⟩)
    go_ret2
    exact .inl ⟨rfl, rfl, rfl⟩
  · rw [List.concat_eq_append] at *
    have hlen : (l' ++ [a]).length = l'.length + 1 := by simp
    rw [hlen] at HL ho h3
    obtain ⟨g, c, rfl, -, hc1, hc2, -⟩ := own_form ho (by omega)
    unfold maxLen at hc2
    have c0 := hr.cell (j := 0) rfl
    have f0 := hr.free 0
    have kb := own_cell ho (j := l'.length) (u := .int .i64 a) (by simp [zs])
    have HR := hid hr
    have HO := hid ho
    have HS := hid hs
    obtain ⟨N, hN⟩ : ∃ N, N = l'.length := ⟨_, rfl⟩
    rw [← hN] at HL c0 kb h3 hc1
    have HN := hid hN
    clear hr ho hs hlen hN
    go_enter Tryz.func90, Tryz.ntmps90
    go_wp2_with (go_at_call 106; refine HL.out.mono ?_; rintro e w1 ⟨rfl, rfl⟩)
    go_ret2
    refine .inr ⟨l', a, rfl, rfl, (Touch.refl S w).setCell (a := ⟨s, 0, none⟩) (fun _ => h1) _, h1, h2, by have := HN.out; omega, .slice (some ⟨g, 0, none⟩) N c, hi, Rec.set HR.out 0 _, ?_, fun g' hg => HS.out g' hg⟩
    have ho' := HO.out
    rw [show zs (l' ++ [a]) = zs l' ++ [.int .i64 a] by unfold zs; rw [List.map_append]; rfl] at ho'
    have hp := own_pop ho'
    rw [HN.out]
    exact own_set_other hp _ (fun g' hg => own_ne hp HR.out (by decide) hg rfl)
def NewStk (w : World) (R : Int) (e : Ending) (w' : World) : Prop :=
  ((R < 1 ∨ 4096 < R) ∧ e = .returned (.tuple #[.pointer none, .int .i64 5]) ∧ w = w') ∨
  (1 ≤ R ∧ R ≤ 4096 ∧ e = .returned (.tuple #[.pointer (some ⟨w.heap.size, 0, none⟩), .int .i64 0]) ∧ Gr w w' ∧ StkAt w' (fun k => w.heap.size ≤ k) w.heap.size [] R.toNat false)
set_option maxRecDepth 100000 in
theorem stk_new (R : Int) (w : World) : Calls Tryz.prog 27 #[.int .i64 R] w (NewStk w R) := by
  rcases (by omega : R < 1 ∨ (1 ≤ R ∧ 4096 < R) ∨ (1 ≤ R ∧ R ≤ 4096)) with h | h | h
  · have d0 : decide (R < 1) = true := decide_eq_true h
    go_enter Tryz.func27, Tryz.ntmps27
    go_wp2
    go_ret2
    exact .inl ⟨.inl h, rfl, rfl⟩
  · have d0 : decide (R < 1) = false := decide_eq_false (by omega)
    have d1 : decide (4096 < R) = true := decide_eq_true h.2
    go_enter Tryz.func27, Tryz.ntmps27
    go_wp2
    go_ret2
    exact .inl ⟨.inr h.2, rfl, rfl⟩
  · obtain ⟨m, rfl⟩ : ∃ m : Nat, R = m := ⟨R.toNat, by omega⟩
    have d0 : decide ((m : Int) < 1) = false := decide_eq_false (by omega)
    have d1 : decide (4096 < (m : Int)) = false := decide_eq_false (by omega)
    go_enter Tryz.func27, Tryz.ntmps27
    go_wp2
    go_ret2
    refine .inr ⟨h.1, h.2, rfl, (Gr.refl w).alloc _, Nat.le_refl _, ?_, Nat.zero_le _, .slice none 0 0, 0, ?_, own_nil _ _ _ _, (fun g hg => by cases hg)⟩
    · rw [Int.toNat_natCast]; omega
    · rw [Int.toNat_natCast]; exact Rec.new w _ _
theorem infoIntV : (Tryz.prog.info? 3).map (fun i => (i.zero, i.size, i.bytes)) = some (some (.int .i64 0), 1, 8) := by kernel_rfl
def PushEnd (w : World) (S : Nat → Prop) (s : Nat) (l : List Int) (R : Nat) (lost : Bool) (a : Int) (e : Ending) (w' : World) : Prop :=
  (R ≤ l.length ∧ e = .returned (.bool false) ∧ Touch S w w' ∧ StkAt w' (plus S w) s l R true) ∨ (l.length < R ∧ e = .returned (.bool true) ∧ Touch S w w' ∧ StkAt w' (plus S w) s (l ++ [a]) R lost)
set_option maxRecDepth 100000 in
set_option maxHeartbeats 1600000 in
theorem stk_push (h : StkAt w S s l R lost) (a : Int) : Calls Tryz.prog 89 #[.pointer (some ⟨s, 0, none⟩), .int .i64 a] w (PushEnd w S s l R lost a) := by
  obtain ⟨h1, h2, h3, vl, hi, hr, ho, hs⟩ := h
  obtain ⟨A, c, rfl, hc1, hc2⟩ := own_shape ho
  unfold maxLen at hc2
  have hmax := run_maxB2 Tryz.prog
  have c0 := hr.cell (j := 0) rfl
  have c1 := hr.cell (j := 1) rfl
  have c3 := hr.cell (j := 3) rfl
  have f3 := hr.free 3
  have hsl := hr.lt
  have HR := hid hr
  have HO := hid ho
  have HS := hid hs
  obtain ⟨N, hN⟩ : ∃ N, N = l.length := ⟨_, rfl⟩
  rw [← hN] at c0 h3 hc1
  have HN := hid hN
  have z0 : ∀ m, (w.drewN m).cell? ⟨s, 0, none⟩ = some (.slice A N c) := fun m => c0
  have z1 : ∀ m, (w.drewN m).cell? ⟨s, 1, none⟩ = some (.int .i64 R) := fun m => c1
  have z3 : ∀ m, (w.drewN m).cell? ⟨s, 3, none⟩ = some (.bool lost) := fun m => c3
  have zf : ∀ m, (w.drewN m).frozen? ⟨s, 3, none⟩ = false := fun m => f3
  clear hr ho hs hN
  by_cases hfull : R ≤ N
  · have d0 : decide (R ≤ N) = true := decide_eq_true hfull
    go_enter Tryz.func89, Tryz.ntmps89
    go_wp2
    go_quiet (fail)
    go_wp2
    go_ret
    have hg : Gr w (w.drewN nq) := (Gr.refl w).drewN nq
    refine .inl ⟨by rw [← HN.out]; exact hfull, rfl, (hg.touch S).setCell (a := ⟨s, 3, none⟩) (fun _ => h1) _, .inl h1, h2, by rw [← HN.out]; exact h3, _, hi, Rec.set (HR.out.gr hg) 3 _, own_set_other (own_gr HO.out hg) _ (fun g hg' => own_ne HO.out HR.out (by decide) hg' rfl), fun g hg' => .inl (HS.out g hg')⟩
  · have d0 : decide (R ≤ N) = false := decide_eq_false hfull
    obtain ⟨ii, hii, hi0, hi1, hi2⟩ := info_parts infoIntV
    go_enter Tryz.func89, Tryz.ntmps89
    go_wp2
    go_quiet (fail)
    have hg : Gr w (w.drewN nq) := (Gr.refl w).drewN nq
    have HG := hid hg
    have ho1 := own_gr HO.out hg
    rw [← HN.out] at ho1
    have HO1 := hid ho1
    have HR1 := hid (HR.out.gr hg)
    clear hg ho1 z0 z1 z3 zf
    go_wp2_with (at_builtin; refine wpList_append_lies _ rfl _ _ 23 rfl 0 3 ii _ 1 8 Tryz.underlying23 hii hi0 hi1 hi2 rfl (by decide) (.slice A N c) N (zs l) rfl (HO1.out.alloc _) ⟨(w.drewN nq).heap.size, 0, none⟩ 1 1 [.int .i64 a] rfl rfl (World.news_of_block (cs := #[.int .i64 a]) (t := 3) (fr := (0, 0)) (heap_alloc_new (w.drewN nq) (.cells #[.int .i64 a] 3))) (by simp [Value.oneCell']) (by omega) (by unfold maxLen; omega) (by omega) (Nat.zero_le _) ((w.drewN nq).heap.size + 1) (by simp) ?_; intro g2 c2 w2 hown2 hgrow2 hat2 hlt2; have t2 : Touch (fun k => (Value.slice A N c).ownBlock = some k) (w.drewN nq) w2 := (((Gr.refl _).alloc _).touch _).trans (grown_touch hgrow2 _ (fun k e _ => e)); have HR2 := hid (HR1.out.touch t2 (fun e => own_ne HO1.out HR1.out (by decide) e rfl rfl)); have k0 := HR2.out.cell (j := 0) rfl; have kf := HR2.out.free 0; have HT2 := hid t2; have HO2 := hid hown2; have HA2 := hid (And.intro hat2 hlt2); clear hown2 hgrow2 hat2 hlt2 t2)
    obtain ⟨W3, hW3⟩ : ∃ W3, W3 = w2.setCell ⟨s, 0, none⟩ (.slice (some ⟨g2, 0, none⟩) (N + 1) c2) := ⟨_, rfl⟩
    rw [← hW3]
    have R3 : Rec W3 s 115 [.slice (some ⟨g2, 0, none⟩) (N + 1) c2, .int .i64 R, .int .i64 hi, .bool lost] := by rw [hW3]; exact Rec.set HR2.out 0 _
    have O3 := own_set_other (q := s) (j := 0) HO2.out (.slice (some ⟨g2, 0, none⟩) (N + 1) c2) (fun g hg => own_ne HO2.out HR2.out (by decide) hg rfl)
    rw [← hW3] at O3
    have T3 : Touch S w W3 := by
      rw [hW3]
      exact ((HG.out.touch S).trans (HT2.out.mono (fun k _ hk => HS.out k (by rw [← HN.out]; exact hk)))).setCell (a := ⟨s, 0, none⟩) (fun _ => h1) _
    have y0 := R3.cell (j := 0) rfl
    have y2 := R3.cell (j := 2) rfl
    have yf := R3.free 2
    have HW3 := hid (And.intro R3 (And.intro O3 T3))
    have hsz : (w.drewN nq).heap.size = w.heap.size := rfl
    clear hW3 R3 O3 T3 k0 kf c0 c1 c3 f3
    obtain ⟨Sx, hSx⟩ : ∃ Sx : World → Prop, Sx = fun W' => W'.cell? ⟨s, 0, none⟩ = some (.slice (some ⟨g2, 0, none⟩) (N + 1) c2) ∧ W'.cell? ⟨s, 2, none⟩ = some (.int .i64 hi) := ⟨_, rfl⟩
    have x0 : ∀ p' : Held Sx, p'.w.cell? ⟨s, 0, none⟩ = some (.slice (some ⟨g2, 0, none⟩) (N + 1) c2) := fun p' => (Held.get hSx p').1
    have x2 : ∀ p' : Held Sx, p'.w.cell? ⟨s, 2, none⟩ = some (.int .i64 hi) := fun p' => (Held.get hSx p').2
    have hS0 : Sx W3.drew := by rw [hSx]; exact ⟨y0, y2⟩
    clear hSx
    have inst : Inhabited (Held Sx) := ⟨⟨_, hS0⟩⟩
    refine wp_region_mixS Sx 13 [([0, 1, 2, 3, 4, 5, 6, 7, 8, 9, 10, 11, 12], 13)] [] (by kernel_rfl) (by kernel_rfl) hS0 ?_
    refine segs_step ?_
    simp only [opsAt, List.getElem?_cons_zero, List.getElem?_cons_succ]
    repeat (go_big_quiet_step (fail))
    refine wpQuiet_nil ?_
    go_wp2
    refine ⟨.inl trivial, ?_⟩
    refine segs_end ?_
    refine wpQuiet_nil ?_
    refine NoPanic.normal ?_
    clear x0 x2 hS0 inst
    clear Sx
    go_wp2
    go_ret
    obtain ⟨R3, O3, T3⟩ := HW3.out
    have hA2 := HA2.out
    refine .inr ⟨by rw [← HN.out]; omega, rfl, (T3.setCell (a := ⟨s, 2, none⟩) (fun _ => h1) _).drew, .inl h1, h2, by rw [List.length_append, ← HN.out]; simp; omega, .slice (some ⟨g2, 0, none⟩) (N + 1) c2, max hi ((N : Int) + 1), Rec.gr (Rec.set R3 2 _) (Gr.refl _).drew, ?_, fun g hg => ?_⟩
    · rw [List.length_append, ← HN.out, show zs (l ++ [a]) = zs l ++ [.int .i64 a] by unfold zs; rw [List.map_append]; rfl]
      exact own_gr (own_set_other O3 _ (fun g hg => own_ne O3 R3 (by decide) hg rfl)) (Gr.refl _).drew
    · cases hg
      rcases hA2.1 with h | h
      · exact .inl (HS.out _ (by rw [← HN.out]; exact h))
      · right
        show w.heap.size ≤ g2
        omega
end
end Go.Proofs.YtlkifhoedfjlaaaGreatDoor
