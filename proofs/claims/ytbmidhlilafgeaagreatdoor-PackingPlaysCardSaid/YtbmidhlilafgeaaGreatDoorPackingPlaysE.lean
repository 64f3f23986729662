/- Part 5 of what PackingPlays leans on: my own lemmas, merged by shake.py. -/
import Derived.Test.YtbmidhlilafgeaaGreatDoorPackingPlaysD
import Derived.Defers
import Derived.Recover
import Derived.Laws.Pointers
section
section
namespace Go.Proofs.YtbmidhlilafgeaaGreatDoor
open Go.RowKit Word

/-- What stood at addresses. -/
abbrev Lg := List (Int × Nat)
def lgV (l : Lg) : List Value := l.flatMap fun x => [.int .i64 x.1, .int .u64 (x.2 : Nat)]
/-- A piece of work k on the memory q, with its log. -/
structure WkAt (w : World) (S : Nat → Prop) (k q : Nat) (l : Lg) : Prop where
  sk : S k
  ll : l.length ≤ 1048576
  lv : ∀ x ∈ l, x.2 < 18446744073709551616
  row : ∃ vl, Rec w k 225 [spV q, vl] ∧ w.ownsRow 0 230 2 vl l.length (lgV l) ∧ ∀ g, vl.ownBlock = some g → S g
theorem WkAt.touch {S T : Nat → Prop} {w w' : World} {k q : Nat} {l : Lg} (h : WkAt w S k q l) (t : Touch T w w') (hS : ∀ k, S k → k < w.heap.size → ¬ T k) : WkAt w' S k q l := by
  obtain ⟨h1, h2, h3, vl, hr, ho, hs⟩ := h
  exact ⟨h1, h2, h3, vl, hr.touch t (hS _ h1 hr.lt), own_touch ho t (fun g hg => hS g (hs g hg) (own_lt ho hg).2), hs⟩
theorem WkAt.gr {S : Nat → Prop} {w w' : World} {k q : Nat} {l : Lg} (h : WkAt w S k q l) (t : Gr w w') : WkAt w' S k q l := h.touch (t.touch (fun _ => False)) (fun _ _ _ h => h)
theorem WkAt.mono {S T : Nat → Prop} {w : World} {k q : Nat} {l : Lg} (h : WkAt w S k q l) (hT : ∀ k, S k → T k) : WkAt w T k q l := by
  obtain ⟨h1, h2, h3, vl, hr, ho, hs⟩ := h
  exact ⟨hT _ h1, h2, h3, vl, hr, ho, fun g hg => hT g (hs g hg)⟩
/-- A thrown fault. -/
def thrV (why at' : Int) : Value := .iface 264 (.agg #[.int .i64 why, .int .i64 at'])
theorem sp_nil (a : Addr) (w : World) : (binOp BinOp.eql 165 (.iface 31 (.pointer (some a))) .nilIface).run Tryz.prog w = .ok (.bool false) w := by kernel_rfl
section
variable {w : World} {S : Nat → Prop} {k q : Nat} {v : Vm} {l : Lg}
set_option maxRecDepth 100000 in
set_option maxHeartbeats 800000 in
theorem wk_fail (hW : WkAt w S k q l) (why a : Int) : Calls Tryz.prog 175 #[.pointer (some ⟨k, 0, none⟩), .int .i64 why, .int .i64 a] w fun e w' => e = .panicked [{ v := thrV why a, recovered := false }] ∧ w = w' := by
  obtain ⟨vl, hr, -⟩ := hW.row
  have c0 := hr.cell (j := 0) rfl
  unfold spV at c0
  have n0 := sp_nil
  clear hr hW
  go_enter Tryz.func175, Tryz.ntmps175
  go_wp2
  exact ⟨rfl, rfl, rfl⟩
theorem nil_store (n : Nat) (a : Addr) (w : World) : (nilAhead (n + 1) 31 (.pointer (some a)) "Store").run Tryz.prog w = .ok (some false) w := by kernel_rfl
theorem method_store (n : Nat) (a : Addr) (w : World) : (method (n + 1) 31 (.pointer (some a)) "Store").run Tryz.prog w = .ok (61, .pointer (some a)) w := by kernel_rfl
def WLoadEnd (w : World) (v : Vm) (a : Int) (e : Ending) (w' : World) : Prop := Gr w w' ∧ (v.ldE a = 0 → e = .returned (.int .u64 (v.ldV a : Nat))) ∧ (v.ldE a ≠ 0 → e = .panicked [{ v := thrV (v.ldE a) a, recovered := false }])
set_option maxRecDepth 100000 in
set_option maxHeartbeats 800000 in
theorem wk_load {S2 : Nat → Prop} (hW : WkAt w S k q l) (hV : VmAt w S2 q v) (a : Int) : Calls Tryz.prog 174 #[.pointer (some ⟨k, 0, none⟩), .int .i64 a] w (WLoadEnd w v a) := by
  have HW := hid hW
  have HL := hid (fun (w' : World) (g : Gr w w') => vm_load (hV.gr g) a)
  obtain ⟨vl, hr, -⟩ := hW.row
  have c0 := hr.cell (j := 0) rfl
  unfold spV at c0
  have n0 := sp_nil
  have n1 := nil_load
  have n2 := method_load
  clear hr hW hV
  by_cases h0 : v.ldE a = 0
  · have HE := hid h0
    rw [h0] at HL
    clear h0
    go_enter Tryz.func174, Tryz.ntmps174
    go_wp2_with (go_at_call 64; refine (HL.out _ (Gr.refl w)).mono ?_; rintro e w1 ⟨rfl, hg1⟩; have HG1 := hid hg1; clear hg1)
    go_ret
    exact ⟨HG1.out, fun _ => rfl, fun h => absurd HE.out h⟩
  · have HE := hid h0
    obtain ⟨y, hy⟩ : ∃ y, y = v.ldE a := ⟨_, rfl⟩
    have d2 : (y == 0) = false := by rw [hy]; simpa using h0
    rw [← hy] at HL
    have HY := hid hy
    clear h0 hy
    go_enter Tryz.func174, Tryz.ntmps174
    go_wp2_with (first
      | (go_at_call 64; refine (HL.out _ (Gr.refl w)).mono ?_; rintro e w1 ⟨rfl, hg1⟩; have HG1 := hid hg1; clear hg1)
      | (go_at_call 175; refine (wk_fail (HW.out.gr HG1.out) y a).mono ?_; rintro e w2 ⟨rfl, rfl⟩))
    exact ⟨rfl, HG1.out, fun h => absurd h HE.out, fun _ => by rw [← HY.out]⟩
/-- The memory that was, where the log is undone. -/
def undoL (v : Vm) (l : Lg) : Vm := l.foldr (fun x v => v.st x.1 x.2) v
theorem undoL_snoc (v : Vm) (l : Lg) (x : Int × Nat) : undoL v (l ++ [x]) = undoL (v.st x.1 x.2) l := by
  unfold undoL; rw [List.foldr_append]; rfl
theorem st_back {v : Vm} (h : VmOk v) {a : Int} (ha : v.ldE a = 0) (x : Nat) : (v.st a x).st a (v.ldV a) = v := by
  have e1 : v.st a x = { v with pl := { v.pl with wd := v.pl.wd.set (v.at a) x } } := if_pos ha
  have e2 : (v.st a x).ldE a = 0 := by rw [st_ldE]; exact ha
  have e3 : (v.st a x).st a (v.ldV a) = { v with pl := { v.pl with wd := (v.pl.wd.set (v.at a) x).set (v.at a) (v.ldV a) } } := by
    rw [e1] at e2 ⊢
    exact if_pos e2
  have e4 : v.ldV a = v.pl.wd.getD (v.at a) 0 := if_pos ha
  have hl := h.place_lt ha
  rw [e3, List.set_set, e4]
  have e5 : v.pl.wd.set (v.at a) (v.pl.wd.getD (v.at a) 0) = v.pl.wd := by
    rw [List.getD_eq_getElem?_getD, List.getElem?_eq_getElem hl, Option.getD_some, List.set_getElem_self]
  rw [e5]
def WStoreEnd (w : World) (S S2 : Nat → Prop) (k q : Nat) (v : Vm) (l : Lg) (a : Int) (x : Nat) (e : Ending) (w' : World) : Prop :=
  (v.ldE a ≠ 0 ∧ Gr w w' ∧ e = .panicked [{ v := thrV (v.ldE a) a, recovered := false }]) ∨
  (v.ldE a = 0 ∧ e = .returned (.tuple #[]) ∧ Touch (fun i => S i ∨ S2 i) w w' ∧ VmAt w' (cutS S2 w) q (v.st a x) ∧ WkAt w' (plus S w) k q (l ++ [(a, v.ldV a)]))
theorem infoOld : (Tryz.prog.info? 230).map (fun i => (i.zero, i.size, i.bytes)) = some (some (.agg #[.int .i64 0, .int .u64 0]), 2, 16) := by kernel_rfl
set_option maxRecDepth 100000 in
set_option maxHeartbeats 1600000 in
theorem wk_store {S2 : Nat → Prop} (hW : WkAt w S k q l) (hV : VmAt w S2 q v) (hd : ∀ i, S i → ¬ S2 i) (hl : l.length < 1048576) (a : Int) {x : Nat} (hx : x < 18446744073709551616) :
    Calls Tryz.prog 127 #[.pointer (some ⟨k, 0, none⟩), .int .i64 a, .int .u64 x] w (WStoreEnd w S S2 k q v l a x) := by
  have HW := hid hW
  have HV := hid hV
  have HX := hid hx
  have HD := hid hd
  obtain ⟨vl, hr, ho, hs⟩ := hW.row
  have c0 := hr.cell (j := 0) rfl
  unfold spV at c0
  have n0 := sp_nil
  have n1 := nil_store
  have n2 := method_store
  by_cases h0 : v.ldE a = 0
  · have HE := hid h0
    obtain ⟨A, c, rfl, hc1, hc2⟩ := own_shape ho
    unfold maxLen at hc2
    have HR := hid hr
    have HO := hid ho
    have HS := hid hs
    obtain ⟨N, hN⟩ : ∃ N, N = l.length := ⟨_, rfl⟩
    have HN := hid hN
    rw [← hN] at hl hc1
    obtain ⟨ii, hii, hi0, hi1, hi2⟩ := info_parts infoOld
    have hkl := hr.lt
    have hSk := hW.sk
    clear hr hW hV h0 ho hs hN hd
    go_enter Tryz.func127, Tryz.ntmps127
    go_wp2_with (first
      | (go_at_call 174; refine (wk_load HW.out HV.out a).mono ?_; rintro e w1 ⟨hg1, he, -⟩; obtain rfl := he HE.out; have k0 := (hg1.cell hkl 0).trans c0; have HG1 := hid hg1; clear hg1 he)
      | (go_at_call 61; refine (vm_store (HV.out.cut.gr HG1.out) a HX.out).mono ?_; rintro e w2 ⟨rfl, ht2, hv2⟩; rw [HE.out]; have HR2 := hid ((HR.out.gr HG1.out).touch ht2 (fun h => HD.out _ hSk h.1)); have d1 := HR2.out.cell (j := 1) rfl; have df := HR2.out.free 1; have HO2 := hid (own_touch (own_gr HO.out HG1.out) ht2 (fun g hg h => HD.out _ (HS.out g hg) h.1)); rw [← HN.out] at d1 HO2; have HT2 := hid ht2; have HV2 := hid hv2; clear ht2 hv2)
      | (at_builtin; refine wpList_append_lies _ rfl _ _ 223 rfl 0 230 ii _ 2 16 Tryz.underlying223 hii hi0 hi1 hi2 rfl (by decide) (.slice A N c) N (lgV l) rfl (HO2.out.alloc _) ⟨w2.heap.size, 0, none⟩ 1 1 [.int .i64 a, .int .u64 (v.ldV a : Nat)] rfl rfl (World.news_of_block (cs := #[.int .i64 a, .int .u64 (v.ldV a : Nat)]) (t := 230) (fr := (0, 0)) (heap_alloc_new w2 (.cells #[.int .i64 a, .int .u64 (v.ldV a : Nat)] 230))) (by simp [Value.oneCell']) (by omega) (by unfold maxLen; omega) (by omega) (Nat.zero_le _) (w2.heap.size + 1) (by simp) ?_; intro g3 c3 w3 hown3 hgrow3 hat3 hlt3; have t3 : Touch (fun k => (Value.slice A N c).ownBlock = some k) w2 w3 := (((Gr.refl _).alloc _).touch _).trans (grown_touch hgrow3 _ (fun k e _ => e)); have HR3 := hid (HR2.out.touch t3 (fun e => own_ne HO2.out HR2.out (by decide) e rfl rfl)); have d3 := HR3.out.cell (j := 1) rfl; have df3 := HR3.out.free 1; have HT3 := hid t3; have HO3 := hid hown3; have HA3 := hid (And.intro hat3 hlt3); clear hown3 hgrow3 hat3 hlt3 t3))
    refine bodyPost_end (results_none rfl _ _ _) rfl ?_
    have hsz1 := HG1.out.size
    have hsz2 := HT2.out.size
    have hA3 := HA3.out
    have hT : Touch (fun i => S i ∨ S2 i) w w3 := ((HG1.out.touch _).trans (HT2.out.mono (fun i _ hi => .inr hi.1))).trans (HT3.out.mono (fun i _ hi => .inl (HS.out i (by rw [← HN.out]; exact hi))))
    have hdk : ∀ i, cutS S2 w i → ¬ (Value.slice A N c).ownBlock = some i := fun i hi e => HD.out i (HS.out i (by rw [← HN.out]; exact e)) hi.1
    refine .inr ⟨HE.out, rfl, hT.setCell (a := ⟨k, 1, none⟩) (fun _ => .inl hSk) _, ?_, .inl hSk, by rw [List.length_append, ← HN.out]; simp; omega, fun y hy => (List.mem_append.1 hy).elim (HW.out.lv y) (fun h => by simp at h; subst h; exact HV.out.ok.ldV_lt a), .slice (some ⟨g3, 0, none⟩) (N + 1) c3, Rec.set HR3.out 1 _, ?_, fun g hg => ?_⟩
    · exact (HV2.out.touch HT3.out (fun i hi _ => hdk i hi)).touch ((Touch.refl (fun i => i = k) w3).setCell (a := ⟨k, 1, none⟩) (fun _ => rfl) _) (fun i hi _ e => by subst e; exact HD.out i hSk hi.1)
    · rw [List.length_append, ← HN.out, show lgV (l ++ [(a, v.ldV a)]) = lgV l ++ [.int .i64 a, .int .u64 (v.ldV a : Nat)] by unfold lgV; rw [List.flatMap_append]; rfl]
      exact own_set_other HO3.out _ (fun g hg => own_ne HO3.out HR3.out (by decide) hg rfl)
    · cases hg
      rcases hA3.1 with h | h
      · exact .inl (HS.out _ (by rw [← HN.out]; exact h))
      · right
        show w.heap.size ≤ g3
        omega
  · have HE := hid h0
    clear hr hW hV h0 ho hs hd
    go_enter Tryz.func127, Tryz.ntmps127
    go_wp2_with (go_at_call 174; refine (wk_load HW.out HV.out a).mono ?_; rintro e w1 ⟨hg1, -, he⟩; obtain rfl := he HE.out; have HG1 := hid hg1; clear hg1 he)
    exact ⟨rfl, .inl ⟨HE.out, HG1.out, rfl⟩⟩
theorem undoL_drop (v : Vm) {l : Lg} {j : Nat} (h : j < l.length) : undoL v (l.drop j) = (undoL v (l.drop (j + 1))).st l[j].1 l[j].2 := by
  rw [List.drop_eq_getElem_cons h]; rfl
theorem lgV_at {l : Lg} {j : Nat} (h : j < l.length) : (lgV l)[j * 2]? = some (.int .i64 l[j].1) ∧ (lgV l)[j * 2 + 1]? = some (.int .u64 (l[j].2 : Nat)) := by
  induction l generalizing j with
  | nil => exact absurd h (by simp)
  | cons x l ih =>
    have e : lgV (x :: l) = .int .i64 x.1 :: .int .u64 (x.2 : Nat) :: lgV l := rfl
    cases j with
    | zero => rw [e]; exact ⟨rfl, rfl⟩
    | succ j =>
      have := ih (j := j) (by simpa using h)
      rw [e, show (j + 1) * 2 = j * 2 + 1 + 1 by omega, show j * 2 + 1 + 1 + 1 = (j * 2 + 1) + 1 + 1 by omega]
      exact this
theorem own_clip0 {w : World} {E size : Nat} {A : Option Addr} {n c : Nat} {xs : List Value} (h : w.ownsRow 0 E size (.slice A n c) n xs) : w.ownsRow 0 E size (.slice A 0 c) 0 [] := by
  obtain ⟨h1, ⟨h, _⟩ | ⟨g, cap, cur, e1, e2, e3, e4, e5, e6, e7⟩⟩ := h
  · cases h; exact ⟨by simp, .inl ⟨rfl, rfl⟩⟩
  · simp only [Value.slice.injEq] at e1
    obtain ⟨rfl, -, rfl⟩ := e1
    exact ⟨by simp, .inr ⟨g, c, cur, rfl, e2, e3, Nat.zero_le _, e5, e6, by simp⟩⟩
def UndoEnd (w : World) (S S2 : Nat → Prop) (k q : Nat) (v : Vm) (l : Lg) (e : Ending) (w' : World) : Prop :=
  e = .returned (.tuple #[]) ∧ Touch (fun i => S i ∨ S2 i) w w' ∧ VmAt w' S2 q (undoL v l) ∧ WkAt w' S k q []
set_option maxRecDepth 100000 in
set_option maxHeartbeats 1600000 in
theorem wk_undo {S2 : Nat → Prop} (hW : WkAt w S k q l) (hV : VmAt w S2 q v) (hd : ∀ i, S i → ¬ S2 i) : Calls Tryz.prog 206 #[.pointer (some ⟨k, 0, none⟩), .int .i64 0] w (UndoEnd w S S2 k q v l) := by
  have HW := hid hW
  have HV := hid hV
  have HD := hid hd
  obtain ⟨vl, hr, ho, hs⟩ := hW.row
  obtain ⟨A, c, rfl, hc1, hc2⟩ := own_shape ho
  unfold maxLen at hc2
  have c1 := hr.cell (j := 1) rfl
  have HR := hid hr
  have HO := hid ho
  have HS := hid hs
  have hll := hW.ll
  obtain ⟨N, hN⟩ : ∃ N, N = l.length := ⟨_, rfl⟩
  have HN := hid hN
  rw [← hN] at c1 hc1 hll
  have hkl := hr.lt
  have hSk := hid hW.sk
  clear hr ho hs hW hV hd hN
  go_enter Tryz.func206, Tryz.ntmps206
  go_wp2
  go_loopw [4] (fun i wr => ∃ m : Nat, m ≤ N ∧ Hid (Touch S2 w wr) ∧ Hid (VmAt wr S2 q (undoL v (l.drop m))) ∧ i = .int .i64 ((m : Int) - 1)) (fun i _ => (intOf i + 1).toNat)
  case atStart => exact ⟨N, Nat.le_refl _, ⟨Touch.refl S2 w⟩, ⟨by rw [HN.out, List.drop_length]; exact HV.out⟩, by go_num⟩
  case round =>
    obtain ⟨m, hm, HT, HK, rfl⟩ := hrel
    have HR1 := hid (HR.out.touch HT.out (HD.out _ hSk.out))
    have HO1 := hid (own_touch HO.out HT.out (fun g hg h => HD.out _ (HS.out g hg) h))
    have e1 := HR1.out.cell (j := 1) rfl
    have ef := HR1.out.free 1
    rw [← HN.out] at e1
    clear c1
    by_cases hm0 : m = 0
    · subst hm0
      go_wp2
      refine bodyPost_end (results_none rfl _ _ _) rfl ?_
      have hdd : ∀ i, S2 i → i ≠ k := fun i hi e => HD.out k hSk.out (by rw [← e]; exact hi)
      refine ⟨rfl, (HT.out.mono (fun i _ hi => .inr hi)).setCell (a := ⟨k, 1, none⟩) (fun _ => .inl hSk.out) _, ?_, hSk.out, Nat.zero_le _, (fun x hx => by cases hx), .slice A 0 c, Rec.set HR1.out 1 _, ?_, fun g hg => HS.out g (by cases A with | none => cases hg | some a => exact hg)⟩
      · have := HK.out.touch ((Touch.refl (fun i => i = k) wr).setCell (a := ⟨k, 1, none⟩) (fun _ => rfl) (.slice A 0 c)) (fun i hi _ => hdd i hi)
        rw [List.drop_zero] at this
        exact this
      · exact own_set_other (own_clip0 HO1.out) _ (fun g hg => own_ne (own_clip0 HO1.out) HR1.out (by decide) hg rfl)
    · obtain ⟨j, rfl⟩ : ∃ j, m = j + 1 := ⟨m - 1, by omega⟩
      have hjl : j < l.length := by have := HN.out; omega
      have hUD := undoL_drop v hjl
      obtain ⟨g, c', e2, -, -, -, -⟩ := own_form HO1.out (by omega)
      simp only [Value.slice.injEq] at e2
      obtain ⟨rfl, -, rfl⟩ := e2
      have r1 := own_cell HO1.out (lgV_at hjl).1
      have r2 := own_cell HO1.out (lgV_at hjl).2
      have hxl := HW.out.lv _ (List.getElem_mem hjl)
      obtain ⟨⟨xa, xw⟩, hxe⟩ : ∃ x, x = l[j] := ⟨_, rfl⟩
      rw [← hxe] at r1 r2 hxl hUD
      have HXL := hid hxl
      have HUD := hid hUD
      have hgl := (own_lt HO1.out (g := g) rfl).2
      have n1 := nil_store
      have n2 := method_store
      have e0 := HR1.out.cell (j := 0) rfl
      unfold spV at e0
      have hkl1 := HR1.out.lt
      have KS : Hid (∀ W', Gr wr W' → W'.cell? ⟨k, 0, none⟩ = some (.iface 31 (.pointer (some ⟨q, 0, none⟩))) ∧ W'.cell? ⟨k, 1, none⟩ = some (.slice (some ⟨g, 0, none⟩) N c) ∧ W'.cell? ⟨g, j * 2, none⟩ = some (.int .i64 xa) ∧ W'.cell? ⟨g, j * 2 + 1, none⟩ = some (.int .u64 (xw : Nat))) :=
        ⟨fun W' h => ⟨(h.cell hkl1 0).trans e0, (h.cell hkl1 1).trans e1, (h.cell hgl _).trans r1, (h.cell hgl _).trans r2⟩⟩
      have hjN : (j : Int) < (N : Int) := by have := HN.out; omega
      clear hjl hUD r1 r2 hxl hxe hgl e0 e1 ef hkl1
      go_upto_region 3 with (fail)
      obtain ⟨Sx, hSx⟩ : ∃ Sx : World → Prop, Sx = fun W' => Gr wr W' := ⟨_, rfl⟩
      have x1 : ∀ p : Held Sx, p.w.cell? ⟨k, 0, none⟩ = some (.iface 31 (.pointer (some ⟨q, 0, none⟩))) := fun p => (KS.out _ (Held.get hSx p)).1
      have x2 : ∀ p : Held Sx, p.w.cell? ⟨k, 1, none⟩ = some (.slice (some ⟨g, 0, none⟩) N c) := fun p => (KS.out _ (Held.get hSx p)).2.1
      have x3 : ∀ p : Held Sx, p.w.cell? ⟨g, j * 2, none⟩ = some (.int .i64 xa) := fun p => (KS.out _ (Held.get hSx p)).2.2.1
      have x4 : ∀ p : Held Sx, p.w.cell? ⟨g, j * 2 + 1, none⟩ = some (.int .u64 (xw : Nat)) := fun p => (KS.out _ (Held.get hSx p)).2.2.2
      have hS0 : Sx wr.drew := by rw [hSx]; exact (Gr.refl wr).drew
      have inst : Inhabited (Held Sx) := ⟨⟨_, hS0⟩⟩
      clear hSx
      refine wp_region_mixS Sx 22 [([0, 1, 2, 3, 4, 5, 6, 7, 8, 9, 10, 11, 12, 13, 14, 15, 16, 17, 18, 19, 20, 21], 22)] [] (by kernel_rfl) (by kernel_rfl) hS0 ?_
      refine segs_step ?_
      simp only [opsAt, List.getElem?_cons_zero, List.getElem?_cons_succ]
      repeat (go_big_quiet_step (fail))
      refine wpQuiet_nil ?_
      go_wp2_with (go_at_call 61; refine (vm_store (HK.out.gr (Gr.refl wr).drew) xa HXL.out).mono ?_; rintro e w1 ⟨rfl, ht1, hv1⟩; have HT1 := hid ht1; have HV1 := hid hv1; clear ht1 hv1)
      refine ⟨.inl trivial, ?_⟩
      refine segs_end ?_
      refine wpQuiet_nil ?_
      refine NoPanic.normal ?_
      clear x1 x2 x3 x4 hS0 inst
      clear Sx
      go_wp2
      go_round
      case rel =>
        refine ⟨j, by omega, ⟨HT.out.trans (((Gr.refl wr).drew.touch _).trans HT1.out)⟩, ⟨?_⟩, by go_num⟩
        rw [HUD.out]
        exact HV1.out
      case measure => simp [intOf]
end
end Go.Proofs.YtbmidhlilafgeaaGreatDoor
end

section
namespace Go.Proofs.YtbmidhlilafgeaaGreatDoor
open Go.RowKit Word

section
variable {w : World} {S : Nat → Prop} {k q : Nat} {v : Vm} {l : Lg}
theorem tmps22 (x y z r : Value) : #[x, y, z] ++ ((Array.replicate 19 undef).setIfInBounds 3 r).setIfInBounds 0 r =
    #[x, y, z, r, undef, undef, r, undef, undef, undef, undef, undef, undef, undef, undef, undef, undef, undef, undef, undef, undef, undef] := by kernel_rfl
theorem part_idle (p2 p5 p4 : Addr) (w : World) : CallsD Tryz.prog 205 #[.pointer (some p2), .pointer (some p5), .pointer (some p4)] .returning w fun e u' w' => e = .returned (.tuple #[]) ∧ u' = .returning ∧ w' = w := by
  have hnil : ∀ w : World, (binOp BinOp.eql 20 .nilIface .nilIface).run Tryz.prog w = .ok (.bool true) w := fun _ => by kernel_rfl
  refine callsD_of_wpS Tryz.func205 rfl fun c₀ cs hu => ?_
  apply wpS_seq
  apply wpS_region
  simp [wpOpsS, go_sem, recoverD, hu, Tryz.ntmps205, Exit.thenS]
  rw [tmps22]
  refine wpS_of_wp ?_
  go_wp2
  refine ⟨rfl, .returning, ?_, _, results_none rfl _ _ _, rfl, rfl, rfl⟩
  cases c₀
  simp_all
def CaughtEnd (w : World) (S S2 : Nat → Prop) (b4 k q : Nat) (v : Vm) (l : Lg) (why a : Int) (w' : World) : Prop :=
  Touch (fun i => S i ∨ S2 i ∨ i = b4) w w' ∧ VmAt w' S2 q (undoL v l) ∧ WkAt w' S k q [] ∧ Rec w' b4 168 [.int .i64 why, .int .i64 a]
set_option maxRecDepth 100000 in
set_option maxHeartbeats 1600000 in
theorem part_caught {S2 : Nat → Prop} {b2 b5 b4 : Nat} (hW : WkAt w S k q l) (hV : VmAt w S2 q v) (hd : ∀ i, S i → ¬ S2 i) (why a : Int) (older : List PanicEntry)
    (r2 : w.cell? ⟨b2, 0, none⟩ = some (.pointer (some ⟨k, 0, none⟩))) (r5 : w.cell? ⟨b5, 0, none⟩ = some (.int .i64 0)) (r4 : Rec w b4 168 [.int .i64 0, .int .i64 0]) (n4 : ¬ S b4) (m4 : ¬ S2 b4) :
    CallsD Tryz.prog 205 #[.pointer (some ⟨b2, 0, none⟩), .pointer (some ⟨b5, 0, none⟩), .pointer (some ⟨b4, 0, none⟩)] (.panicking ({ v := thrV why a, recovered := false } :: older)) w fun e u' w' =>
      e = .returned (.tuple #[]) ∧ u' = .panicking ({ v := thrV why a, recovered := true } :: older) ∧ CaughtEnd w S S2 b4 k q v l why a w' := by
  have hta : ∀ (x y : Int) (w : World), (Instr.typeAssert (.iface 264 (.agg #[.int .i64 x, .int .i64 y])) 20 264 true).run Tryz.prog w = .ok (.tuple #[.agg #[.int .i64 x, .int .i64 y], .bool true]) w := fun _ _ _ => by kernel_rfl
  have hnn : ∀ (x : Value) (w : World), (binOp BinOp.eql 20 (.iface 264 x) .nilIface).run Tryz.prog w = .ok (.bool false) w := fun _ _ => by kernel_rfl
  have HW := hid hW
  have HV := hid hV
  have HD := hid hd
  clear hW hV hd
  refine callsD_of_wpS Tryz.func205 rfl fun c₀ cs hu => ?_
  apply wpS_seq
  apply wpS_region
  unfold thrV at hu ⊢
  simp [wpOpsS, go_sem, recoverD, hu, Tryz.ntmps205, Exit.thenS]
  rw [tmps22]
  refine wpS_of_wp ?_
  go_wp2_with (go_at_call 206; refine (wk_undo HW.out HV.out HD.out).mono ?_; rintro e w1 ⟨rfl, ht1, hv1, hw1⟩; have HR1 := hid (r4.touch ht1 (fun h => h.elim n4 m4)); have d0 := HR1.out.cell (j := 0) rfl; have d1 := HR1.out.cell (j := 1) rfl; have df := HR1.out.free; have hb4 := HR1.out.lt; have HT1 := hid ht1; have HV1 := hid hv1; have HW1 := hid hw1; clear ht1 hv1 hw1)
  have hbl := HR1.out.lt
  have hdk : ∀ i, S2 i → i ≠ b4 := fun i hi e => m4 (by rw [← e]; exact hi)
  have hds : ∀ i, S i → i ≠ b4 := fun i hi e => n4 (by rw [← e]; exact hi)
  have hT := ((Touch.refl (fun i => i = b4) w1).setCell (a := ⟨b4, 0, none⟩) (fun _ => rfl) (.int .i64 why)).setCell (a := ⟨b4, 1, none⟩) (fun _ => rfl) (.int .i64 a)
  have hTA : Touch (fun i => S i ∨ S2 i ∨ i = b4) w _ := (HT1.out.mono (fun i _ hi => hi.elim Or.inl (fun h => Or.inr (Or.inl h)))).trans (hT.mono (fun i _ hi => Or.inr (Or.inr hi)))
  refine ⟨rfl, _, rfl, _, results_none rfl _ _ _, rfl, rfl, ?_⟩
  exact ⟨hTA.alloc _, (HV1.out.touch hT (fun i hi _ => hdk i hi)).gr ((Gr.refl _).alloc _), (HW1.out.touch hT (fun i hi _ => hds i hi)).gr ((Gr.refl _).alloc _), Rec.gr (Rec.set (Rec.set HR1.out 0 _) 1 _) ((Gr.refl _).alloc _)⟩
end
end Go.Proofs.YtbmidhlilafgeaaGreatDoor
end

section
namespace Go.Proofs.YtbmidhlilafgeaaGreatDoor
open Go.RowKit Word

/-- How a piece of work ends. -/
def BodyEnd (q k b4 : Nat) (Sx : Nat → Prop) (w0 : World) (G : World → Prop) (H : Int → Int → Vm → Lg → (Nat → Prop) → (Nat → Prop) → World → Prop) (e : Ending) (w1 : World) : Prop :=
  Touch Sx w0 w1 ∧ ((e = .returned (.tuple #[]) ∧ G w1) ∨
    ∃ why a v l S S2, e = .panicked [{ v := thrV why a, recovered := false }] ∧ WkAt w1 S k q l ∧ VmAt w1 S2 q v ∧ (∀ i, S i → ¬ S2 i) ∧ ¬ S b4 ∧ ¬ S2 b4 ∧ H why a v l S S2 w1)
section
variable {w : World} {S : Nat → Prop} {k q : Nat} {v : Vm} {l : Lg}
/-- The world that the piece of work starts from. -/
def partW (w : World) (k : Nat) : World := ((w.alloc (.cells #[.pointer (some ⟨k, 0, none⟩)] 170)).alloc (.cells #[.int .i64 0, .int .i64 0] 168)).alloc (.cells #[.int .i64 0] 3)
def PartEnd (w : World) (k q : Nat) (Sx : Nat → Prop) (G : World → Prop) (H : Int → Int → Vm → Lg → (Nat → Prop) → (Nat → Prop) → World → Prop) (e : Ending) (w' : World) : Prop :=
  ∃ w1, Touch Sx (partW w k) w1 ∧ ((G w1 ∧ e = .returned (.agg #[.int .i64 0, .int .i64 0]) ∧ w' = (w1.setCell ⟨w.heap.size + 1, 0, none⟩ (.int .i64 0)).setCell ⟨w.heap.size + 1, 1, none⟩ (.int .i64 0)) ∨
    ∃ why a v l S S2, H why a v l S S2 w1 ∧ e = .returned (.agg #[.int .i64 why, .int .i64 a]) ∧ CaughtEnd w1 S S2 (w.heap.size + 1) k q v l why a w')
theorem load_fault (W : World) (blk : Nat) (p q : Value) (h0 : W.cell? ⟨blk, 0, none⟩ = some p) (h1 : W.cell? ⟨blk, 1, none⟩ = some q) : (loadVar 168 ⟨blk, 0, none⟩).run Tryz.prog W = .ok (.agg #[p, q]) W := by
  have a1 : (isAgg 168).run Tryz.prog W = .ok true W := by kernel_rfl
  have a2 : (sizeOf 168).run Tryz.prog W = .ok 2 W := by kernel_rfl
  simp [loadVar, Sem.run_bind, a1, a2, Result.andThen, loadCells, go_sem, h0, h1]
set_option maxRecDepth 100000 in
set_option maxHeartbeats 1600000 in
theorem wk_part {F : Nat} {caps : Array Value} {Sx : Nat → Prop} {G : World → Prop} {H : Int → Int → Vm → Lg → (Nat → Prop) → (Nat → Prop) → World → Prop}
    (hcf : ∀ args w, (callFunc F args).run Tryz.prog w = .ok (.enter F args) w) (hW : WkAt w S k q []) (hF : Calls Tryz.prog F (#[.pointer (some ⟨k, 0, none⟩)] ++ caps) (partW w k) (BodyEnd q k (w.heap.size + 1) Sx (partW w k) G H)) (hx : ∀ i, w.heap.size ≤ i → i ≤ w.heap.size + 2 → ¬ Sx i) :
    Calls Tryz.prog 173 #[.pointer (some ⟨k, 0, none⟩), .func (.func F) #[] caps] w (PartEnd w k q Sx G H) := by
  have hmf : ∀ (fn : Fn) (first cap : Array Value) (w : World), (Instr.makeFunc fn first cap).run Tryz.prog w = .ok (.func fn first cap) w := fun _ _ _ _ => rfl
  obtain ⟨vl, hr, ho, -⟩ := hW.row
  obtain ⟨A, c, rfl, hc1, hc2⟩ := own_shape ho
  have c1 := hr.cell (j := 1) rfl
  have hkl := hr.lt
  clear hr ho
  go_enter_defers Tryz.func173, Tryz.ntmps173
  have r2 : Rec (partW w k) w.heap.size 170 [.pointer (some ⟨k, 0, none⟩)] := Rec.gr (Rec.gr (Rec.new w _ _) ((Gr.refl _).alloc _)) ((Gr.refl _).alloc _)
  have r4 : Rec (partW w k) (w.heap.size + 1) 168 [.int .i64 0, .int .i64 0] := by
    have := Rec.gr (Rec.new (w.alloc (.cells #[.pointer (some ⟨k, 0, none⟩)] 170)) 168 [.int .i64 0, .int .i64 0]) ((Gr.refl _).alloc (.cells #[.int .i64 0] 3))
    rw [World.size_alloc] at this
    exact this
  have r5 : Rec (partW w k) (w.heap.size + 1 + 1) 3 [.int .i64 0] := by
    have := Rec.new ((w.alloc (.cells #[.pointer (some ⟨k, 0, none⟩)] 170)).alloc (.cells #[.int .i64 0, .int .i64 0] 168)) 3 [.int .i64 0]
    rw [World.size_alloc, World.size_alloc] at this
    exact this
  have HR2 := hid r2
  have HR4 := hid r4
  have HR5 := hid r5
  clear r2 r4 r5
  go_wp2
  refine hF.mono ?_
  rintro e w1 ⟨ht1, he⟩
  have q2 := HR2.out.touch ht1 (hx _ (Nat.le_refl _) (by omega))
  have q4 := HR4.out.touch ht1 (hx _ (by omega) (by omega))
  have q5 := HR5.out.touch ht1 (hx _ (by omega) (by omega))
  have hT1 := hid ht1
  rcases he with ⟨rfl, hg1⟩ | ⟨why, a, v, l, S', S2, rfl, hw1, hv1, hd1, n4, m4, hh1⟩
  · have HG := hid hg1
    have k0 := q4.cell (j := 0) rfl
    have k1 := q4.cell (j := 1) rfl
    have kf := q4.free
    have HQ4 := hid q4
    clear q2 q4 q5 ht1 hF hx hg1
    go_wp2
    have R6 := Rec.set (Rec.set HQ4.out 0 (.int .i64 0)) 1 (.int .i64 0)
    refine leaves_cons (f := 205) (args := #[.pointer (some ⟨w.heap.size, 0, none⟩), .pointer (some ⟨w.heap.size + 1 + 1, 0, none⟩), .pointer (some ⟨w.heap.size + 1, 0, none⟩)]) (by simp) (by simp [go_sem]) ?_
    refine (part_idle _ _ _ _).mono ?_
    rintro e u' w2 ⟨rfl, rfl, rfl⟩
    have hl := load_fault _ (w.heap.size + 1) _ _ (R6.cell (j := 0) rfl) (R6.cell (j := 1) rfl)
    simp only [Leaves, settle]
    refine ⟨_, ?_, w1, hT1.out, .inl ⟨HG.out, rfl, rfl⟩⟩
    simp [results, Tryz.results173, asAddr, hl]
  · have HW1 := hid hw1
    have HV1 := hid hv1
    have HD1 := hid hd1
    have HH := hid hh1
    have HN := hid (And.intro n4 m4)
    have k2 := q2.cell (j := 0) rfl
    have k5 := q5.cell (j := 0) rfl
    have HQ4 := hid q4
    clear q2 q4 q5 ht1 hF hx hw1 hv1 hd1 hh1 n4 m4
    go_wp2
    refine leaves_cons (f := 205) (args := #[.pointer (some ⟨w.heap.size, 0, none⟩), .pointer (some ⟨w.heap.size + 1 + 1, 0, none⟩), .pointer (some ⟨w.heap.size + 1, 0, none⟩)]) (by simp) (by simp [go_sem]) ?_
    refine (part_caught HW1.out HV1.out HD1.out why a [] k2 k5 HQ4.out HN.out.1 HN.out.2).mono ?_
    rintro e u' w2 ⟨rfl, rfl, hc⟩
    have hl := load_fault _ (w.heap.size + 1) _ _ (hc.2.2.2.cell (j := 0) rfl) (hc.2.2.2.cell (j := 1) rfl)
    simp only [settle, List.dropWhile_nil, Leaves]
    refine ⟨_, ?_, w1, hT1.out, .inr ⟨why, a, v, l, S', S2, HH.out, rfl, hc⟩⟩
    simp [results, Tryz.results173, asAddr, hl]
/-- Run: the same, with a Work of its own. -/
def runW (w : World) (q : Nat) : World := (w.alloc (.cells #[.int .i64 0, .int .i64 0] 168)).alloc (.cells #[spV q, .slice none 0 0] 225)
theorem wk_new (w : World) (q : Nat) : WkAt (runW w q) (fun i => i = w.heap.size + 1) (w.heap.size + 1) q [] := by
  have := Rec.new (w.alloc (.cells #[.int .i64 0, .int .i64 0] 168)) 225 [spV q, .slice none 0 0]
  rw [World.size_alloc] at this
  exact ⟨rfl, Nat.zero_le _, (fun x hx => by cases hx), .slice none 0 0, this, own_nil _ _ _ _, (fun g hg => by cases hg)⟩
def TRunEnd (w : World) (q : Nat) (Sx : Nat → Prop) (G : World → Prop) (H : Int → Int → Vm → Lg → (Nat → Prop) → (Nat → Prop) → World → Prop) (e : Ending) (w' : World) : Prop :=
  ∃ w2, ∃ x y, PartEnd (runW w q) (w.heap.size + 1) q Sx G H (.returned (.agg #[.int .i64 x, .int .i64 y])) w2 ∧ e = .returned (.agg #[.int .i64 x, .int .i64 y]) ∧ w' = (w2.setCell ⟨w.heap.size, 0, none⟩ (.int .i64 x)).setCell ⟨w.heap.size, 1, none⟩ (.int .i64 y)
set_option maxRecDepth 100000 in
set_option maxHeartbeats 1600000 in
theorem trap_run {F : Nat} {caps : Array Value} {Sx : Nat → Prop} {G : World → Prop} {H : Int → Int → Vm → Lg → (Nat → Prop) → (Nat → Prop) → World → Prop}
    (hcf : ∀ args w, (callFunc F args).run Tryz.prog w = .ok (.enter F args) w)
    (hF : Calls Tryz.prog F (#[.pointer (some ⟨w.heap.size + 1, 0, none⟩)] ++ caps) (partW (runW w q) (w.heap.size + 1)) (BodyEnd q (w.heap.size + 1) (w.heap.size + 3) Sx (partW (runW w q) (w.heap.size + 1)) G H))
    (hx : ∀ i, w.heap.size + 2 ≤ i → i ≤ w.heap.size + 4 → ¬ Sx i) (hx0 : ¬ Sx w.heap.size) (hH : ∀ why a v l S S2 w1, H why a v l S S2 w1 → ¬ S w.heap.size ∧ ¬ S2 w.heap.size) :
    Calls Tryz.prog 125 #[spV q, .func (.func F) #[] caps] w (TRunEnd w q Sx G H) := by
  have hsz : (runW w q).heap.size = w.heap.size + 2 := by unfold runW; rw [World.size_alloc, World.size_alloc]
  have HP := hid (wk_part (k := w.heap.size + 1) (w := runW w q) (Sx := Sx) (G := G) (H := H) hcf (wk_new w q) (by rw [hsz]; exact hF) (by rw [hsz]; exact fun i h1 h2 => hx i h1 (by omega)))
  have HR0 := hid (Rec.gr (Rec.new w 168 [.int .i64 0, .int .i64 0]) ((Gr.refl _).alloc (.cells #[spV q, .slice none 0 0] 225)))
  have HPE : Hid (∀ e w', PartEnd (runW w q) (w.heap.size + 1) q Sx G H e w' → ∃ x y, e = .returned (.agg #[.int .i64 x, .int .i64 y]) ∧ Rec w' w.heap.size 168 [.int .i64 0, .int .i64 0]) := ⟨by
    rintro e w' ⟨w1, t1, h⟩
    have r0 : Rec (partW (runW w q) (w.heap.size + 1)) w.heap.size 168 [.int .i64 0, .int .i64 0] := HR0.out.gr (((((Gr.refl _).alloc _).alloc _).alloc _))
    have r1 := r0.touch t1 hx0
    rw [hsz] at h
    rcases h with ⟨-, rfl, rfl⟩ | ⟨why, a, v, l, S, S2, hh, rfl, hc⟩
    · exact ⟨0, 0, rfl, own_set_other (own_set_other r1 _ (fun g hg => by cases hg; show w.heap.size ≠ w.heap.size + 2 + 1; omega)) _ (fun g hg => by cases hg; show w.heap.size ≠ w.heap.size + 2 + 1; omega)⟩
    · obtain ⟨n1, n2⟩ := hH _ _ _ _ _ _ _ hh
      exact ⟨why, a, rfl, r1.touch hc.1 (fun h => by rcases h with h | h | h; exact n1 h; exact n2 h; omega)⟩⟩
  unfold spV at HP HPE HR0 ⊢
  clear hF hx hx0 hH hcf hsz
  go_enter Tryz.func125, Tryz.ntmps125
  go_wp2_with (go_at_call 173; refine HP.out.mono ?_; intro e w2 hpe; obtain ⟨x, y, rfl, hr2⟩ := HPE.out _ _ hpe; have k0 := hr2.cell (j := 0) rfl; have k1 := hr2.cell (j := 1) rfl; have kf := hr2.free; have HR2 := hid hr2; have HQ := hid hpe; clear hpe hr2)
  have R3 := Rec.set (Rec.set HR2.out 0 (.int .i64 x)) 1 (.int .i64 y)
  have hl := load_fault _ w.heap.size _ _ (R3.cell (j := 0) rfl) (R3.cell (j := 1) rfl)
  refine bodyPost_ret (v := .agg #[.int .i64 x, .int .i64 y]) ?_ rfl ⟨w2, x, y, HQ.out, rfl, rfl⟩
  simp [results, Tryz.results125, asAddr, hl]
end
end Go.Proofs.YtbmidhlilafgeaaGreatDoor
end
end
section
section
namespace Go.Proofs.YtbmidhlilafgeaaGreatDoor
open Go.RowKit Word

def mkV (v : Vm) (a : Int) (x : Nat) : Nat → Vm
  | 0 => v.st a x
  | m + 1 => (mkV v a x m).st (a + 1 + m) 0
def mkE (v : Vm) (a : Int) : Nat → Int
  | 0 => v.ldE a
  | m + 1 => if mkE v a m ≠ 0 then mkE v a m else v.ldE (a + 1 + m)
theorem mkV_ldE (v : Vm) (a : Int) (x : Nat) (m : Nat) (b : Int) : (mkV v a x m).ldE b = v.ldE b := by
  induction m with
  | zero => exact st_ldE ..
  | succ m ih => unfold mkV; rw [st_ldE, ih]
theorem mkE_stop {v : Vm} {a : Int} {m : Nat} (h : mkE v a m ≠ 0) {n : Nat} (hn : m ≤ n) : mkE v a n = mkE v a m := by
  induction n with
  | zero => rw [Nat.le_zero.1 hn]
  | succ n ih =>
    rcases Nat.lt_or_ge n m with h' | h'
    · rw [show m = n + 1 by omega]
    · have := ih h'
      show (if mkE v a n ≠ 0 then mkE v a n else _) = _
      rw [if_pos (by rw [this]; exact h), this]
section
variable {w : World} {S2 : Nat → Prop} {k q b4 : Nat} {v : Vm}
/-- The blocks of a piece of work that starts in w. -/
def wkS (w : World) (k i : Nat) : Prop := i = k ∨ w.heap.size ≤ i
def mkG (q : Nat) (S2 : Nat → Prop) (v : Vm) (a : Int) (x n : Nat) (w1 : World) : Prop := mkE v a n = 0 ∧ VmAt w1 S2 q (mkV v a x n)
def mkH (w : World) (k : Nat) (S2 : Nat → Prop) (v : Vm) (a : Int) (n : Nat) (why _a : Int) (v' : Vm) (l : Lg) (S S2' : Nat → Prop) (_w1 : World) : Prop :=
  why = mkE v a n ∧ mkE v a n ≠ 0 ∧ undoL v' l = v ∧ S = wkS w k ∧ S2' = S2
structure MkInv (w wr : World) (S2 : Nat → Prop) (k q : Nat) (v : Vm) (a : Int) (x m : Nat) (l : Lg) : Prop where
  e : mkE v a m = 0
  wk : WkAt wr (wkS w k) k q l
  vm : VmAt wr S2 q (mkV v a x m)
  un : undoL (mkV v a x m) l = v
  ll : l.length = m + 1
  t : Touch (fun i => wkS w k i ∨ S2 i) w wr
set_option maxRecDepth 100000 in
set_option maxHeartbeats 1600000 in
theorem make_body {bA bW bH p f c : Nat} {a : Int} {x : Nat} (hs : p + f + c ≤ 255) (hx : x < 18446744073709551616) (hW : WkAt w (fun i => i = k) k q []) (hV : VmAt w S2 q v) (hS : ∀ i, S2 i → i < w.heap.size) (hk : ¬ S2 k)
    (cA : Rec w bA 3 [.int .i64 a]) (cW : Rec w bW 50 [.int .u64 x]) (cH : Rec w bH 90 [.int .i64 p, .int .i64 f, .int .i64 c]) (nA : ¬ S2 bA) (nH : ¬ S2 bH) (n4 : ¬ S2 b4) (m4 : b4 < w.heap.size) (d4 : b4 ≠ k) :
    Calls Tryz.prog 126 #[.pointer (some ⟨k, 0, none⟩), .pointer (some ⟨bA, 0, none⟩), .pointer (some ⟨bW, 0, none⟩), .pointer (some ⟨bH, 0, none⟩)] w
      (BodyEnd q k b4 (fun i => wkS w k i ∨ S2 i) w (mkG q S2 v a x (p + f + c)) (mkH w k S2 v a (p + f + c))) := by
  have kA := cA.cell (j := 0) rfl
  have kW := cW.cell (j := 0) rfl
  obtain ⟨vl, hr, -⟩ := hW.row
  have hkA : bA ≠ k := own_ne cA hr (by decide) rfl rfl
  have hkH : bH ≠ k := own_ne cH hr (by decide) rfl rfl
  have hkl := hr.lt
  have hd : ∀ i, wkS w k i → ¬ S2 i := fun i hi h => by
    rcases hi with rfl | hi
    · exact hk h
    · have := hS i h; omega
  have hW' : WkAt w (wkS w k) k q [] := hW.mono (fun i hi => .inl hi)
  have HD := hid hd
  have HWK := hid hW'
  have HST := hid (wk_store hW' hV hd (by simp) a hx)
  have hN : hdrN ⟨p, f, c⟩ = 1 + (p : Int) + f + c := if_pos (hdrE_of hs)
  have HSZ := hid (fun W => hdr_size ⟨p, f, c⟩ W)
  rw [hN] at HSZ
  unfold hdrV at HSZ
  have HV := hid hV
  have HCA := hid cA
  have HCH := hid cH
  have HNN := hid (And.intro nA (And.intro nH (And.intro n4 (And.intro hkA hkH))))
  have HB4 := hid (show ¬ wkS w k b4 from fun h => by rcases h with h | h; exact d4 h; omega)
  clear hr hW hV hd hW' hk nA nH n4 hN cA cW cH
  by_cases h0 : v.ldE a = 0
  · have HE := hid h0
    have har := ldE_in h0
    have hn2 := HV.out.ok.n2
    clear h0
    go_enter Tryz.func126, Tryz.ntmps126
    go_wp2_with (first
      | (go_at_call 127; refine HST.out.mono ?_; rintro e w1 (⟨h, -⟩ | ⟨-, rfl, ht1, hv1, hk1⟩); (exact absurd HE.out h); have hH1 := HCH.out.touch ht1 (fun h => h.elim (fun h => h.elim HNN.out.2.2.2.2 (fun h => absurd HCH.out.lt (Nat.not_lt_of_le h))) HNN.out.2.1); have j0 := hH1.cell (j := 0) rfl; have j1 := hH1.cell (j := 1) rfl; have j2 := hH1.cell (j := 2) rfl; have HH1 := hid hH1; have HT1 := hid ht1; have HV1 := hid hv1; have HK1 := hid hk1; clear ht1 hv1 hk1 hH1)
      | (go_at_call 55; refine (HSZ.out _).mono ?_; rintro e w2 ⟨rfl, hg2⟩; have HG2 := hid hg2; clear hg2))
    have HI0 : Hid (MkInv w w2 S2 k q v a x 0 [(a, v.ldV a)]) := ⟨⟨HE.out, (HK1.out.gr HG2.out).mono (fun i hi => hi.elim id .inr), (HV1.out.gr HG2.out).mono (fun i hi => hi.1), st_back HV.out.ok HE.out x, rfl, HT1.out.trans (HG2.out.touch _)⟩⟩
    go_loopw [13] (fun i wr => ∃ (m : Nat) (l : Lg), m ≤ p + f + c ∧ Hid (MkInv w wr S2 k q v a x m l) ∧ i = .int .i64 m) (fun i _ => p + f + c - (intOf i).toNat)
    case atStart => exact ⟨0, _, by omega, HI0, rfl⟩
    case round =>
      obtain ⟨m, l, hm, HI, rfl⟩ := hrel
      have cA1 := HCA.out.touch HI.out.t (fun h => h.elim (fun h => h.elim HNN.out.2.2.2.1 (fun h => absurd HCA.out.lt (Nat.not_lt_of_le h))) HNN.out.1)
      have kA1 := cA1.cell (j := 0) rfl
      clear HI0 kA kW j0 j1 j2
      by_cases hlast : m = p + f + c
      · have d0 : decide ((m : Int) < 1 + (p : Int) + f + c - 1) = false := decide_eq_false (by omega)
        have HM := hid hlast
        clear hlast
        go_wp2
        refine bodyPost_end (results_none rfl _ _ _) rfl ?_
        refine ⟨HI.out.t, .inl ⟨rfl, ?_⟩⟩
        rw [← HM.out]
        exact ⟨HI.out.e, HI.out.vm⟩
      · have d0 : decide ((m : Int) < 1 + (p : Int) + f + c - 1) = true := decide_eq_true (by omega)
        have hll := HI.out.ll
        have HST2 := hid (wk_store HI.out.wk HI.out.vm HD.out (by omega) (a + 1 + m) (x := 0) (by omega))
        have hEE : mkE v a (m + 1) = v.ldE (a + 1 + m) := by
          show (if mkE v a m ≠ 0 then mkE v a m else _) = _
          rw [if_neg (fun h => h HI.out.e)]
        have hLE := mkV_ldE v a x m (a + 1 + m)
        by_cases h1 : v.ldE (a + 1 + m) = 0
        · have H1 := hid (hLE.trans h1)
          have HE1 := hid (hEE.trans h1)
          have HML := hid hlast
          clear hLE h1 hEE hlast hll
          go_wp2_with (go_at_call 127; refine HST2.out.mono ?_; rintro e w3 (⟨h, -⟩ | ⟨-, rfl, ht3, hv3, hk3⟩); (exact absurd H1.out h); have HT3 := hid ht3; have HV3 := hid hv3; have HK3 := hid hk3; clear ht3 hv3 hk3)
          go_round
          case rel =>
            refine ⟨m + 1, l ++ [(a + 1 + m, (mkV v a x m).ldV (a + 1 + m))], by have := HML.out; omega, ⟨HE1.out, HK3.out.mono (fun i hi => hi.elim id (fun h => .inr (Nat.le_trans HI.out.t.size h))), HV3.out.mono (fun i hi => hi.1), ?_, by rw [List.length_append, HI.out.ll]; rfl, HI.out.t.trans HT3.out⟩, by go_num⟩
            rw [undoL_snoc]
            show undoL (((mkV v a x m).st (a + 1 + m) 0).st _ _) l = v
            rw [st_back HI.out.vm.ok H1.out]
            exact HI.out.un
          case measure => have := HML.out; simp [intOf]; omega
        · have H1 : Hid ((mkV v a x m).ldE (a + 1 + m) ≠ 0) := ⟨by rw [hLE]; exact h1⟩
          have HE1 : Hid (mkE v a (p + f + c) = (mkV v a x m).ldE (a + 1 + m)) := ⟨by rw [hLE, ← hEE]; exact mkE_stop (by rw [hEE]; exact h1) (by omega)⟩
          clear hLE h1 hEE hlast hll
          go_wp2_with (go_at_call 127; refine HST2.out.mono ?_; rintro e w3 (⟨-, hg3, rfl⟩ | ⟨h, -⟩); rotate_left; (exact absurd h H1.out); have HG3 := hid hg3; clear hg3)
          exact ⟨rfl, HI.out.t.trans (HG3.out.touch _), .inr ⟨_, _, _, l, wkS w k, S2, rfl, HI.out.wk.gr HG3.out, HI.out.vm.gr HG3.out, HD.out, HB4.out, HNN.out.2.2.1, HE1.out.symm, by rw [HE1.out]; exact H1.out, HI.out.un, rfl, rfl⟩⟩
  · have HE := hid h0
    clear h0
    go_enter Tryz.func126, Tryz.ntmps126
    go_wp2_with (go_at_call 127; refine HST.out.mono ?_; rintro e w1 (⟨-, hg1, rfl⟩ | ⟨h, -⟩); rotate_left; (exact absurd h HE.out); have HG1 := hid hg1; clear hg1)
    have he : mkE v a (p + f + c) = v.ldE a := mkE_stop (m := 0) HE.out (Nat.zero_le _)
    exact ⟨rfl, HG1.out.touch _, .inr ⟨v.ldE a, a, v, [], wkS w k, S2, rfl, HWK.out.gr HG1.out, HV.out.gr HG1.out, HD.out, HB4.out, HNN.out.2.2.1, he.symm, by rw [he]; exact HE.out, rfl, rfl, rfl⟩⟩
end
end Go.Proofs.YtbmidhlilafgeaaGreatDoor
end

section
namespace Go.Proofs.YtbmidhlilafgeaaGreatDoor
open Go.RowKit Word

theorem call_make (args : Array Value) (w : World) : (callFunc 126 args).run Tryz.prog w = .ok (.enter 126 args) w := by kernel_rfl
theorem field_fault (x y : Value) (w : World) : (Instr.field 168 (.agg #[x, y]) 0).run Tryz.prog w = .ok x w := by kernel_rfl
section
variable {w : World} {S : Nat → Prop} {q : Nat} {v : Vm}
set_option maxRecDepth 100000 in
set_option maxHeartbeats 1600000 in
theorem hdr_put_bad {h : Hdr} (he : hdrE h ≠ 0) (w : World) : Calls Tryz.prog 124 #[hdrV h] w fun e w' => e = .returned (.tuple #[.int .u64 0, .int .i64 15]) ∧ Gr w w' := by
  have HC := hid (fun W => hdr_check h W)
  have h15 : hdrE h = 15 := (hdrE_two h).resolve_left he
  rw [h15] at HC
  clear h15 he
  unfold hdrV at HC ⊢
  go_enter Tryz.func124, Tryz.ntmps124
  go_wp2_with (go_at_call 118; refine (HC.out _).mono ?_; rintro e w1 ⟨rfl, hg1⟩; have HG1 := hid (((Gr.refl w).alloc _).trans hg1); clear hg1)
  go_ret2
  exact ⟨rfl, HG1.out⟩
/-- What running Make's closure leaves. -/
def MakeEnd (w : World) (S : Nat → Prop) (q : Nat) (v : Vm) (a : Int) (x n : Nat) (e : Ending) (w' : World) : Prop :=
  ∃ b : Int, e = .returned (.agg #[.int .i64 (mkE v a n), .int .i64 b]) ∧ Touch S w w' ∧ VmAt w' S q (if mkE v a n = 0 then mkV v a x n else v)
theorem run_make (hV : VmAt w S q v) {bA bW bH p f c : Nat} {a : Int} {x : Nat} (hs : p + f + c ≤ 255) (hx : x < 18446744073709551616)
    (cA : Rec w bA 3 [.int .i64 a]) (cW : Rec w bW 50 [.int .u64 x]) (cH : Rec w bH 90 [.int .i64 p, .int .i64 f, .int .i64 c]) (nA : ¬ S bA) (nH : ¬ S bH) :
    Calls Tryz.prog 125 #[spV q, .func (.func 126) #[] #[.pointer (some ⟨bA, 0, none⟩), .pointer (some ⟨bW, 0, none⟩), .pointer (some ⟨bH, 0, none⟩)]] w (MakeEnd w S q v a x (p + f + c)) := by
  have hsz : (runW w q).heap.size = w.heap.size + 2 := by unfold runW; rw [World.size_alloc, World.size_alloc]
  obtain ⟨W0, hW0⟩ : ∃ W0, W0 = partW (runW w q) (w.heap.size + 1) := ⟨_, rfl⟩
  have hsz0 : W0.heap.size = w.heap.size + 5 := by rw [hW0]; unfold partW; rw [World.size_alloc, World.size_alloc, World.size_alloc, hsz]
  have g1 : Gr w (runW w q) := ((Gr.refl w).alloc _).alloc _
  have g2 : Gr (runW w q) W0 := by rw [hW0]; exact (((Gr.refl _).alloc _).alloc _).alloc _
  have g : Gr w W0 := g1.trans g2
  have hS2 : ∀ i, cutS S w i → i < w.heap.size := fun i hi => hi.2
  have hbody := make_body (b4 := w.heap.size + 3) (S2 := cutS S w) hs hx ((wk_new w q).gr g2) (hV.cut.gr g) (fun i hi => by have := hS2 i hi; omega) (fun h => by have := hS2 _ h; omega) (cA.gr g) (cW.gr g) (cH.gr g) (fun h => nA h.1) (fun h => nH h.1) (fun h => by have := hS2 _ h; omega) (by omega) (by omega)
  have hrun := trap_run (w := w) (q := q) (F := 126) (caps := #[.pointer (some ⟨bA, 0, none⟩), .pointer (some ⟨bW, 0, none⟩), .pointer (some ⟨bH, 0, none⟩)]) (Sx := fun i => wkS W0 (w.heap.size + 1) i ∨ cutS S w i)
    (G := mkG q (cutS S w) v a x (p + f + c)) (H := mkH W0 (w.heap.size + 1) (cutS S w) v a (p + f + c)) call_make (by rw [← hW0]; exact hbody)
    (fun i h1 h2 h => by
      rcases h with (h | h) | h
      · omega
      · omega
      · have := h.2; omega)
    (fun h => by
      rcases h with (h | h) | h
      · omega
      · omega
      · exact absurd h.2 (Nat.lt_irrefl _))
    (fun why a' v' l S' S2 w1 h => by
      obtain ⟨-, -, -, rfl, rfl⟩ := h
      refine ⟨fun h => ?_, fun h => absurd h.2 (Nat.lt_irrefl _)⟩
      rcases h with h | h <;> omega)
  refine hrun.mono ?_
  rintro e w' ⟨w2, fx, fy, ⟨w1, ht1, hp⟩, rfl, rfl⟩
  rw [← hW0] at ht1
  rw [hsz] at hp
  have hTw : ∀ (X : World) (T : Touch (fun i => w.heap.size ≤ i ∨ S i) w X), Touch S w X := fun X T => T.mono (fun i hi h => h.resolve_left (by omega))
  have T1 : Touch (fun i => w.heap.size ≤ i ∨ S i) w w1 := (g.touch _).trans' ht1 (fun i hi h => by
    rcases h with (h | h) | h
    · left; omega
    · left; omega
    · exact .inr h.1)
  rcases hp with ⟨⟨e0, hv1⟩, he, rfl⟩ | ⟨why, a', v', l, S', S2, ⟨rfl, e0, hu, rfl, rfl⟩, he, hc⟩
  · simp only [Ending.returned.injEq, Value.agg.injEq] at he
    have hfx : fx = 0 ∧ fy = 0 := by simpa using he
    obtain ⟨rfl, rfl⟩ := hfx
    have hT := (((Touch.refl (fun i => w.heap.size ≤ i) w1).setCell (a := ⟨w.heap.size + 2 + 1, 0, none⟩) (fun _ => by show w.heap.size ≤ w.heap.size + 2 + 1; omega) (.int .i64 0)).setCell (a := ⟨w.heap.size + 2 + 1, 1, none⟩) (fun _ => by show w.heap.size ≤ w.heap.size + 2 + 1; omega) (.int .i64 0)).setCell (a := ⟨w.heap.size, 0, none⟩) (fun _ => Nat.le_refl _) (.int .i64 0) |>.setCell (a := ⟨w.heap.size, 1, none⟩) (fun _ => Nat.le_refl _) (.int .i64 0)
    refine ⟨0, by rw [e0], hTw _ (T1.trans (hT.mono (fun i _ h => .inl h))), ?_⟩
    rw [if_pos e0]
    exact (hv1.touch hT (fun i hi _ h => by have := hi.2; omega)).mono (fun i hi => hi.1)
  · simp only [Ending.returned.injEq, Value.agg.injEq] at he
    have hfx : fx = mkE v a (p + f + c) ∧ fy = a' := by simpa using he
    obtain ⟨rfl, rfl⟩ := hfx
    have hT := fun z1 z2 => ((Touch.refl (fun i => w.heap.size ≤ i) w2).setCell (a := ⟨w.heap.size, 0, none⟩) (fun _ => Nat.le_refl _) z1).setCell (a := ⟨w.heap.size, 1, none⟩) (fun _ => Nat.le_refl _) z2
    refine ⟨fy, rfl, hTw _ ((T1.trans' hc.1 (fun i hi h => ?_)).trans ((hT _ _).mono (fun i _ h => .inl h))), ?_⟩
    · rcases h with (h | h) | h | h
      · left; omega
      · left; omega
      · exact .inr h.1
      · left; omega
    · rw [if_neg e0]
      have := (hc.2.1.touch (hT (.int .i64 (mkE v a (p + f + c))) (.int .i64 fy)) (fun i hi _ h => by have := hi.2; omega)).mono (fun i hi => hi.1)
      rw [hu] at this
      exact this
def mkRes (v : Vm) (a : Int) (h : Hdr) : Int := if a ≤ 0 then 5 else if hdrE h ≠ 0 then 15 else mkE v a (h.p + h.f + h.k).toNat
def mkVm (v : Vm) (a : Int) (h : Hdr) : Vm := if mkRes v a h = 0 then mkV v a (hdrW h.p.toNat h.f.toNat h.k.toNat) (h.p + h.f + h.k).toNat else v
theorem hdrW_lt {a b c : Nat} (hs : a + b + c ≤ 255) : hdrW a b c < 18446744073709551616 := by
  have := hdrL_lt hs
  unfold hdrW
  omega
set_option maxRecDepth 100000 in
set_option maxHeartbeats 1600000 in
theorem obj_make (hV : VmAt w S q v) (a : Int) (h : Hdr) : Calls Tryz.prog 60 #[spV q, .int .i64 a, hdrV h] w fun e w' => e = .returned (.int .i64 (mkRes v a h)) ∧ Touch S w w' ∧ VmAt w' (plus S w) q (mkVm v a h) := by
  have HV := hid hV
  have hmf : ∀ (fn : Fn) (first cap : Array Value) (w : World), (Instr.makeFunc fn first cap).run Tryz.prog w = .ok (.func fn first cap) w := fun _ _ _ _ => rfl
  have HSAME : Hid (mkRes v a h ≠ 0 → ∀ w', Gr w w' → Touch S w w' ∧ VmAt w' (plus S w) q (mkVm v a h)) := ⟨fun hn w' g => ⟨g.touch S, by unfold mkVm; rw [if_neg hn]; exact (hV.gr g).mono (fun k hk => .inl hk)⟩⟩
  by_cases h0 : a ≤ 0
  · have HR : Hid (mkRes v a h = 5) := ⟨if_pos h0⟩
    have d0 : decide (a ≤ 0) = true := decide_eq_true h0
    unfold spV hdrV
    clear h0 hV
    go_enter Tryz.func60, Tryz.ntmps60
    go_wp2
    go_ret
    exact ⟨ret_int HR.out.symm, HSAME.out (by rw [HR.out]; decide) _ (((Gr.refl w).alloc _).alloc _)⟩
  · have d0 : decide (a ≤ 0) = false := decide_eq_false h0
    by_cases h1 : hdrE h = 0
    · obtain ⟨p, f, c, rfl, hs⟩ := hdrE_zero h1
      have hR : mkRes v a ⟨p, f, c⟩ = mkE v a (p + f + c) := by
        unfold mkRes
        rw [if_neg h0, if_neg (fun h => h h1)]
        congr 1
      have HR := hid hR
      have HM : Hid (mkVm v a ⟨p, f, c⟩ = if mkE v a (p + f + c) = 0 then mkV v a (hdrW p f c) (p + f + c) else v) := ⟨by
        unfold mkVm
        rw [hR]
        congr 1⟩
      have HP := hid (fun W => hdr_put_ok hs W)
      have HRUN := hid (fun (W : World) (g : Gr w W) (bW : Nat) (cA : Rec W w.heap.size 3 [.int .i64 a]) (cW : Rec W bW 50 [.int .u64 (hdrW p f c : Nat)]) (cH : Rec W (w.heap.size + 1) 90 [.int .i64 p, .int .i64 f, .int .i64 c]) =>
        run_make (hV.cut.gr g) hs (hdrW_lt hs) cA cW cH (fun h => absurd h.2 (Nat.lt_irrefl _)) (fun h => by have := h.2; omega))
      unfold hdrV at HP
      unfold spV hdrV
      unfold spV at HRUN
      have hfl := field_fault
      clear hV h0 h1 hR
      go_enter Tryz.func60, Tryz.ntmps60
      go_wp2_with (first
        | (go_at_call 124; refine (HP.out _).mono ?_; rintro e w1 ⟨rfl, hg1⟩; have HG1 := hid hg1; clear hg1)
        | (go_at_call 125; have cA := (((Rec.new w 3 [.int .i64 a]).gr ((Gr.refl _).alloc _)).gr HG1.out).gr ((Gr.refl w1).alloc (.cells #[.int .u64 (hdrW p f c : Nat)] 50)); have cH := ((Rec.new (w.alloc (.cells #[.int .i64 a] 3)) 90 [.int .i64 p, .int .i64 f, .int .i64 c]).gr HG1.out).gr ((Gr.refl w1).alloc (.cells #[.int .u64 (hdrW p f c : Nat)] 50)); rw [World.size_alloc] at cH; have cW := Rec.new w1 50 [.int .u64 (hdrW p f c : Nat)]; refine (HRUN.out _ (((((Gr.refl w).alloc _).alloc _).trans HG1.out).alloc _) _ cA cW cH).mono ?_; rintro e w2 ⟨b, rfl, ht2, hv2⟩; have HT2 := hid ht2; have HV2 := hid hv2; clear ht2 hv2 cA cH cW))
      go_ret
      refine ⟨ret_int HR.out.symm, ((((((Gr.refl w).alloc _).alloc _).trans HG1.out).alloc _).touch S).trans (HT2.out.mono (fun i _ hi => hi.1)), ?_⟩
      rw [HM.out]
      exact HV2.out.mono (fun i hi => .inl hi.1)
    · have HR : Hid (mkRes v a h = 15) := ⟨by unfold mkRes; rw [if_neg h0, if_pos h1]⟩
      have HP := hid (fun W => hdr_put_bad h1 W)
      unfold hdrV at HP
      unfold spV hdrV
      clear hV h0 h1
      go_enter Tryz.func60, Tryz.ntmps60
      go_wp2_with (go_at_call 124; refine (HP.out _).mono ?_; rintro e w1 ⟨rfl, hg1⟩; have HG1 := hid ((((Gr.refl w).alloc _).alloc _).trans hg1); clear hg1)
      go_ret
      exact ⟨ret_int HR.out.symm, HSAME.out (by rw [HR.out]; decide) _ (HG1.out.alloc _)⟩
end
end Go.Proofs.YtbmidhlilafgeaaGreatDoor
end

section
namespace Go.Proofs.YtbmidhlilafgeaaGreatDoor
open Go.RowKit Word

section
variable {w : World} {S S2 : Nat → Prop} {k q b4 : Nat} {v : Vm}
end
end Go.Proofs.YtbmidhlilafgeaaGreatDoor
end
end
section
namespace Go.Proofs.YtbmidhlilafgeaaGreatDoor
open Go.RowKit Word

/-- The data of a heap that is laid. -/
structure LaidC where
  pg : Nat
  H : List Hdr
  P : List Nat
  R : List Nat
  bk : Nat
  st : Nat
  ah : Nat
def hdC (H : List Hdr) (k : Nat) : Hdr := H.getD k ⟨0, 0, 0⟩
/-- The words of the first k headers. -/
def szC (H : List Hdr) : Nat → Nat
  | 0 => 0
  | k + 1 => szC H k + (hdrN (hdC H k)).toNat
def fitC (H : List Hdr) (k : Nat) : Bool := decide (hdrE (hdC H k) = 0) && decide (szC H (k + 1) ≤ 512)
/-- How many headers are laid. -/
def kC (H : List Hdr) : Nat := first (fun k => !fitC H k) H.length
def LaidC.page (x : LaidC) : Nat := 2 ^ (x.pg % 6)
def LaidC.k (x : LaidC) : Nat := kC x.H
def LaidC.top (x : LaidC) : Nat := x.page + szC x.H x.k
def LaidC.cf (x : LaidC) : Cf := ⟨x.page, x.top, x.page + 512, x.page + 1024, 2 ^ (x.bk % 8), x.st % 20 + 1, x.ah % 5⟩
def LaidC.n (x : LaidC) : Nat := x.page + 1024
/-- The frames that are enough. -/
def LaidC.room (x : LaidC) : Nat := (x.top - x.page + x.page - 1) / x.page + (x.ah % 5 + 1) * max 1 (2 ^ (x.bk % 8) / x.page) + 1
theorem pow6 (k : Nat) : 2 ^ (k % 6) = 1 ∨ 2 ^ (k % 6) = 2 ∨ 2 ^ (k % 6) = 4 ∨ 2 ^ (k % 6) = 8 ∨ 2 ^ (k % 6) = 16 ∨ 2 ^ (k % 6) = 32 := by
  have h : k % 6 < 6 := Nat.mod_lt _ (by decide)
  rcases (by omega : k % 6 = 0 ∨ k % 6 = 1 ∨ k % 6 = 2 ∨ k % 6 = 3 ∨ k % 6 = 4 ∨ k % 6 = 5) with e | e | e | e | e | e <;> rw [e] <;> decide
theorem pow8 (k : Nat) : 2 ^ (k % 8) = 1 ∨ 2 ^ (k % 8) = 2 ∨ 2 ^ (k % 8) = 4 ∨ 2 ^ (k % 8) = 8 ∨ 2 ^ (k % 8) = 16 ∨ 2 ^ (k % 8) = 32 ∨ 2 ^ (k % 8) = 64 ∨ 2 ^ (k % 8) = 128 := by
  have h : k % 8 < 8 := Nat.mod_lt _ (by decide)
  rcases (by omega : k % 8 = 0 ∨ k % 8 = 1 ∨ k % 8 = 2 ∨ k % 8 = 3 ∨ k % 8 = 4 ∨ k % 8 = 5 ∨ k % 8 = 6 ∨ k % 8 = 7) with e | e | e | e | e | e | e | e <;> rw [e] <;> decide
theorem fitC_iff {H : List Hdr} {k : Nat} : fitC H k = true ↔ hdrE (hdC H k) = 0 ∧ szC H (k + 1) ≤ 512 := by unfold fitC; simp
theorem kC_fit {H : List Hdr} {j : Nat} (h : j < kC H) : fitC H j = true := by
  have := first_not _ _ j h
  simpa using this
theorem kC_le (H : List Hdr) : kC H ≤ H.length := first_le _ _
theorem kC_end {H : List Hdr} {k : Nat} (hk : k ≤ H.length) (hn : ∀ j, j < k → fitC H j = true) (ha : k < H.length → fitC H k = false) : kC H = k :=
  first_eq hk (fun i hi => by rw [hn i hi]; rfl) (fun h => by rw [ha h]; rfl)
theorem szC_mono (H : List Hdr) {i j : Nat} (h : i ≤ j) : szC H i ≤ szC H j := by
  induction j with
  | zero => rw [Nat.le_zero.1 h]; exact Nat.le_refl _
  | succ j ih =>
    rcases Nat.lt_or_ge j i with h' | h'
    · rw [show i = j + 1 by omega]; exact Nat.le_refl _
    · exact Nat.le_trans (ih h') (Nat.le_add_right _ _)
theorem szC_le (H : List Hdr) : szC H (kC H) ≤ 512 := by
  rcases Nat.eq_zero_or_pos (kC H) with h | h
  · rw [h]; exact Nat.zero_le _
  · have := (fitC_iff.1 (kC_fit (H := H) (j := kC H - 1) (by omega))).2
    rwa [show kC H - 1 + 1 = kC H by omega] at this
/-- A header that is laid. -/
theorem kC_hd {H : List Hdr} {j : Nat} (h : j < kC H) : ∃ p f c : Nat, hdC H j = ⟨p, f, c⟩ ∧ p + f + c ≤ 255 ∧ hdrN (hdC H j) = ((1 + p + f + c : Nat) : Int) ∧ szC H (j + 1) = szC H j + (1 + p + f + c) ∧ szC H (j + 1) ≤ szC H (kC H) := by
  obtain ⟨p, f, c, e, hs⟩ := hdrE_zero (fitC_iff.1 (kC_fit h)).1
  have hN : hdrN (hdC H j) = ((1 + p + f + c : Nat) : Int) := by rw [e, show hdrN ⟨p, f, c⟩ = 1 + (p : Int) + f + c from if_pos (hdrE_of hs)]; push_cast; rfl
  refine ⟨p, f, c, e, hs, hN, ?_, szC_mono H h⟩
  show szC H j + (hdrN (hdC H j)).toNat = _
  rw [hN]; omega
theorem szC_len {H : List Hdr} : kC H ≤ szC H (kC H) := by
  have : ∀ j, j ≤ kC H → j ≤ szC H j := fun j => by
    induction j with
    | zero => intro _; exact Nat.zero_le _
    | succ j ih =>
      intro h
      obtain ⟨p, f, c, -, -, -, h1, -⟩ := kC_hd (H := H) (j := j) h
      have := ih (by omega)
      omega
  exact this _ (Nat.le_refl _)
section
variable (x : LaidC)
theorem LaidC.page_cases : x.page = 1 ∨ x.page = 2 ∨ x.page = 4 ∨ x.page = 8 ∨ x.page = 16 ∨ x.page = 32 := pow6 _
theorem LaidC.page_pos : 1 ≤ x.page ∧ x.page ≤ 32 := by have := x.page_cases; omega
theorem LaidC.top_le : x.page ≤ x.top ∧ x.top ≤ x.page + 512 := by
  have := szC_le x.H
  unfold LaidC.top LaidC.k
  omega
theorem LaidC.room_le : 1 ≤ x.room ∧ x.room ≤ 1200 := by
  have h1 := x.page_cases
  have h2 := x.top_le
  have h3 := pow8 x.bk
  have h5 : x.ah % 5 < 5 := Nat.mod_lt _ (by decide)
  have h6 : (x.ah % 5 + 1) * max 1 (2 ^ (x.bk % 8) / x.page) ≤ 5 * 128 := Nat.mul_le_mul (by omega) (by
    have := Nat.div_le_self (2 ^ (x.bk % 8)) x.page
    omega)
  have h7 : (x.top - x.page + x.page - 1) / x.page ≤ x.top - x.page + x.page - 1 := Nat.div_le_self _ _
  unfold LaidC.room
  generalize (x.ah % 5 + 1) * max 1 (2 ^ (x.bk % 8) / x.page) = c at *
  generalize (x.top - x.page + x.page - 1) / x.page = d at *
  omega
/-- A pointer of an object's number. -/
def LaidC.put (i : Nat) : Nat := if i % 8 = 7 ∨ x.k = 0 then 0 else x.page + szC x.H (i % x.k)
theorem LaidC.put_le (i : Nat) : x.put i ≤ x.top := by
  unfold LaidC.put
  split
  · exact Nat.zero_le _
  · rename_i h
    have := szC_mono x.H (Nat.le_of_lt (Nat.mod_lt i (by omega : 0 < x.k)))
    unfold LaidC.top
    omega
end
/-- A word that is put into a field. -/
def wrdC (n : Nat) : Nat := n * 11400714819323198485 % 18446744073709551616
/-- m fields of an object at a that has p pointers. -/
def fldC (a p : Nat) (s : Vm × Nat × List Int) : Nat → Vm × Nat × List Int
  | 0 => s
  | m + 1 => if m < p then ((fldC a p s m).1, (fldC a p s m).2.1, (fldC a p s m).2.2 ++ [((a + 1 + m : Nat) : Int)]) else ((fldC a p s m).1.st ((a + 1 + m : Nat) : Int) (wrdC ((fldC a p s m).2.1 + 1)), (fldC a p s m).2.1 + 1, (fldC a p s m).2.2)
/-- k objects. -/
def objC (page : Nat) (H : List Hdr) (v : Vm) : Nat → Vm × Nat × List Int
  | 0 => (v, 0, [])
  | k + 1 => fldC (page + szC H k) (hdC H k).p.toNat (mkVm (objC page H v k).1 ((page + szC H k : Nat) : Int) (hdC H k), (objC page H v k).2) ((hdrN (hdC H k)).toNat - 1)
/-- k pointers put into fields. -/
def ptrC (x : LaidC) (F : List Int) (v : Vm) : Nat → Vm
  | 0 => v
  | k + 1 => (ptrC x F v k).st (F.getD ((x.P.getD (2 * k) 0 + 2 * k) % F.length) 0) (x.put (x.P.getD (2 * k + 1) 0))
def LaidC.fields (x : LaidC) (v0 : Vm) : List Int := (objC x.page x.H v0 x.k).2.2
/-- The memory that is laid. -/
def layC (x : LaidC) (v0 : Vm) : Vm := if x.fields v0 = [] then (objC x.page x.H v0 x.k).1 else ptrC x (x.fields v0) (objC x.page x.H v0 x.k).1 (x.P.length / 2)
def LaidC.nr (x : LaidC) : Nat := max 1 (min x.R.length 64)
/-- The roots, i of them set. -/
def LaidC.rsN (x : LaidC) (i : Nat) : List Int := (List.range x.nr).map fun j => if j < i ∧ j < x.R.length then ((x.put (x.R.getD j 0) : Nat) : Int) else 0
def LaidC.rs (x : LaidC) : List Int := x.rsN x.nr
theorem LaidC.rsN_len (x : LaidC) (i : Nat) : (x.rsN i).length = x.nr := by simp [LaidC.rsN]
theorem LaidC.rsN_zero (x : LaidC) : x.rsN 0 = List.replicate x.nr 0 := by
  unfold LaidC.rsN
  apply List.ext_getElem
  · simp
  · intro i h1 h2; simp
theorem LaidC.rsN_skip (x : LaidC) {i : Nat} (h : ¬ i < x.R.length) : x.rsN (i + 1) = x.rsN i := by
  unfold LaidC.rsN
  apply List.map_congr_left
  intro j _
  by_cases hj : j < x.R.length
  · by_cases hi : j < i
    · rw [if_pos ⟨by omega, hj⟩, if_pos ⟨hi, hj⟩]
    · omega
  · rw [if_neg (fun h => hj h.2), if_neg (fun h => hj h.2)]
theorem LaidC.rsN_set (x : LaidC) {i : Nat} (h : i < x.R.length) : (x.rsN i).set i ((x.put (x.R.getD i 0) : Nat) : Int) = x.rsN (i + 1) := by
  apply List.ext_getElem
  · simp [LaidC.rsN]
  · intro j h1 h2
    rw [List.getElem_set]
    simp only [LaidC.rsN, List.getElem_map, List.getElem_range]
    by_cases e : i = j
    · subst e
      rw [if_pos rfl, if_pos ⟨by omega, h⟩]
    · rw [if_neg e]
      by_cases hj : j < x.R.length
      · by_cases hi : j < i
        · rw [if_pos ⟨hi, hj⟩, if_pos ⟨by omega, hj⟩]
        · rw [if_neg (by omega), if_neg (by omega)]
      · rw [if_neg (fun h => hj h.2), if_neg (fun h => hj h.2)]
theorem LaidC.nr_le (x : LaidC) : 1 ≤ x.nr ∧ x.nr ≤ 64 := by unfold LaidC.nr; omega
/-! The same pages all along. -/
theorem wrdC_lt (n : Nat) : wrdC n < 18446744073709551616 := Nat.mod_lt _ (by decide)
structure Stays (v v' : Vm) : Prop where
  ok : VmOk v'
  sm : SamePg v v'
theorem Stays.refl {v : Vm} (h : VmOk v) : Stays v v := ⟨h, SamePg.refl v⟩
theorem Stays.st {v v' : Vm} (h : Stays v v') (a : Int) {x : Nat} (hx : x < 18446744073709551616) : Stays v (v'.st a x) := ⟨h.ok.st a hx, h.sm.trans (SamePg.st _ _ _)⟩
theorem Stays.mkV {v v' : Vm} (h : Stays v v') (a : Int) {x : Nat} (hx : x < 18446744073709551616) (m : Nat) : Stays v (mkV v' a x m) := by
  induction m with
  | zero => exact h.st a hx
  | succ m ih => exact ih.st _ (by decide)
theorem Stays.mkVm {v v' : Vm} (h : Stays v v') (a : Int) (hd : Hdr) : Stays v (mkVm v' a hd) := by
  unfold Go.Proofs.YtbmidhlilafgeaaGreatDoor.mkVm
  split
  · rename_i h0
    unfold mkRes at h0
    split at h0
    · cases h0
    · split at h0
      · cases h0
      · rename_i h1
        obtain ⟨p, f, c, rfl, hs⟩ := hdrE_zero (Decidable.not_not.1 h1)
        exact h.mkV a (hdrW_lt (by simpa using hs)) _
  · exact h
theorem Stays.fldC {v : Vm} (a p : Nat) {s : Vm × Nat × List Int} (h : Stays v s.1) (m : Nat) : Stays v (fldC a p s m).1 ∧ (fldC a p s m).2.1 + (fldC a p s m).2.2.length = s.2.1 + s.2.2.length + m := by
  induction m with
  | zero => exact ⟨h, rfl⟩
  | succ m ih =>
    unfold Go.Proofs.YtbmidhlilafgeaaGreatDoor.fldC
    split
    · exact ⟨ih.1, by simp only [List.length_append, List.length_singleton]; omega⟩
    · exact ⟨ih.1.st _ (wrdC_lt _), by dsimp only; omega⟩
theorem Stays.objC {v : Vm} (h : VmOk v) (page : Nat) (H : List Hdr) (k : Nat) : Stays v (objC page H v k).1 ∧ (objC page H v k).2.1 + (objC page H v k).2.2.length ≤ szC H k := by
  induction k with
  | zero => exact ⟨Stays.refl h, Nat.le_refl _⟩
  | succ k ih =>
    have e1 : Go.Proofs.YtbmidhlilafgeaaGreatDoor.objC page H v (k + 1) = Go.Proofs.YtbmidhlilafgeaaGreatDoor.fldC (page + szC H k) (hdC H k).p.toNat (Go.Proofs.YtbmidhlilafgeaaGreatDoor.mkVm (Go.Proofs.YtbmidhlilafgeaaGreatDoor.objC page H v k).1 ((page + szC H k : Nat) : Int) (hdC H k), (Go.Proofs.YtbmidhlilafgeaaGreatDoor.objC page H v k).2) ((hdrN (hdC H k)).toNat - 1) := rfl
    have e2 : szC H (k + 1) = szC H k + (hdrN (hdC H k)).toNat := rfl
    rw [e1, e2]
    have := Stays.fldC (v := v) (page + szC H k) (hdC H k).p.toNat (s := (Go.Proofs.YtbmidhlilafgeaaGreatDoor.mkVm (Go.Proofs.YtbmidhlilafgeaaGreatDoor.objC page H v k).1 ((page + szC H k : Nat) : Int) (hdC H k), (Go.Proofs.YtbmidhlilafgeaaGreatDoor.objC page H v k).2)) (ih.1.mkVm _ _) ((hdrN (hdC H k)).toNat - 1)
    refine ⟨this.1, ?_⟩
    have h2 := this.2
    have h3 := ih.2
    dsimp only at h2
    omega
theorem put_lt (x : LaidC) (i : Nat) : x.put i < 18446744073709551616 := by have := x.put_le i; have := x.top_le; have := x.page_pos; omega
theorem Stays.ptrC {v v' : Vm} (h : Stays v v') (x : LaidC) (F : List Int) (k : Nat) : Stays v (ptrC x F v' k) := by
  induction k with
  | zero => exact h
  | succ k ih => exact ih.st _ (put_lt x _)
theorem Stays.layC {v : Vm} (h : VmOk v) (x : LaidC) : Stays v (layC x v) := by
  unfold Go.Proofs.YtbmidhlilafgeaaGreatDoor.layC
  split
  · exact (Stays.objC h _ _ _).1
  · exact (Stays.objC h _ _ _).1.ptrC _ _ _
/-- The frames of a new memory in which the pages of a run are mapped. -/
structure Run24 (x : LaidC) (rm : Nat) (v : Vm) : Prop where
  ok : VmOk v
  n : v.n = x.n
  pg : v.pl.pg = x.page
  rm : v.pl.rm = rm
  us : v.pl.used = (x.top - 1) / x.page
  le : ∀ a : Nat, a < x.n → v.ldE a = if x.page ≤ a ∧ a < upN x.top x.page then 0 else 12
theorem Run24.stays {x : LaidC} {rm : Nat} {v v' : Vm} (h : Run24 x rm v) (s : Stays v v') : Run24 x rm v' :=
  ⟨s.ok, s.sm.n.trans h.n, s.sm.pg.trans h.pg, s.sm.rm.trans h.rm, by rw [s.ok.us, s.sm.pt, ← h.ok.us]; exact h.us, fun a ha => by rw [s.sm.ldE]; exact h.le a ha⟩
theorem new24_ok {x : LaidC} {rm : Nat} (h1 : 1 ≤ rm) (h2 : rm ≤ 4096) : roomOk rm = true ∧ pageOk x.page = true ∧ x.n % x.page = 0 ∧ x.n ≤ 524288 ∧ VmOk (Vm.new x.n x.page rm) := by
  have hp := x.page_cases
  have a1 : roomOk rm = true := by unfold roomOk; simp; omega
  have a2 : pageOk x.page = true := by rcases hp with e | e | e | e | e | e <;> rw [e] <;> decide
  have a3 : x.n % x.page = 0 := by unfold LaidC.n; rcases hp with e | e | e | e | e | e <;> rw [e]
  have a4 : x.n ≤ 524288 := by unfold LaidC.n; omega
  exact ⟨a1, a2, a3, a4, VmOk.new a1 a2 (by unfold LaidC.n; omega) a4 a3⟩
theorem unm_new (n pg rm p0 k : Nat) : unmL (Vm.new n pg rm) p0 k = List.range' p0 k := by
  unfold unmL
  rw [List.filter_eq_self]
  intro p _
  show ((List.replicate (n / pg) 0).getD p 0 == 0) = true
  rw [rep_getD]; rfl
theorem need24 {x : LaidC} {rm : Nat} (hrm : x.room ≤ rm) (ht : x.page < x.top) : needE (Vm.new x.n x.page rm) x.page x.top = 0 ∧ needF (Vm.new x.n x.page rm) x.page x.top = List.range' 1 ((x.top - 1) / x.page) := by
  have hp := x.page_pos
  have h2 := x.top_le
  have hu : (Vm.new x.n x.page rm).pl.used = 0 := rfl
  have e1 : pgsN (Vm.new x.n x.page rm) x.page x.top = (x.top - 1) / x.page := by
    unfold pgsN
    show (((x.top : Int) - 1) / (x.page : Int) - (x.page : Int) / (x.page : Int) + 1).toNat = _
    rw [show (x.top : Int) - 1 = ((x.top - 1 : Nat) : Int) by omega, ← Int.natCast_ediv, Int.ediv_self (by omega)]
    generalize (x.top - 1) / x.page = d
    omega
  have e2 : (((x.page : Nat) : Int) / ((Vm.new x.n x.page rm).pl.pg : Int)).toNat = 1 := by
    show (((x.page : Nat) : Int) / (x.page : Int)).toNat = 1
    rw [Int.ediv_self (by omega)]; rfl
  have e3 : unmL (Vm.new x.n x.page rm) 1 ((x.top - 1) / x.page) = List.range' 1 ((x.top - 1) / x.page) := unm_new _ _ _ _ _
  have hE : needE (Vm.new x.n x.page rm) x.page x.top = 0 := by
    unfold needE
    rw [if_neg (by show ¬ ((x.page : Int) < 0 ∨ ((x.n : Nat) : Int) < (x.top : Int)); unfold LaidC.n; omega), if_neg (by omega), e1, e2, e3, List.length_range', hu]
    refine if_pos ?_
    show 0 + (x.top - 1) / x.page ≤ rm
    have : (x.top - 1) / x.page ≤ x.room := by
      unfold LaidC.room
      rw [show x.top - x.page + x.page - 1 = x.top - 1 by omega]
      exact Nat.le_trans (Nat.le_add_right _ _) (Nat.le_add_right _ _)
    rw [Nat.zero_add]
    exact Nat.le_trans this hrm
  refine ⟨hE, ?_⟩
  unfold needF
  rw [if_pos ⟨hE, by omega⟩, e1, e2, e3]
theorem pages24 {x : LaidC} {a : Nat} (h : x.page < x.top) : (x.page ≤ a ∧ a < upN x.top x.page) ↔ a / x.page ∈ List.range' 1 ((x.top - 1) / x.page) := by
  have hp := x.page_pos
  rw [List.mem_range'_1]
  have e1 : upN x.top x.page = ((x.top - 1) / x.page + 1) * x.page := by
    unfold upN
    rw [show x.top + x.page - 1 = x.top - 1 + x.page by omega, Nat.add_div_right _ (by omega)]
  rw [e1]
  have h1 : x.page ≤ a ↔ 1 ≤ a / x.page := by rw [Nat.le_div_iff_mul_le (by omega)]; omega
  have h2 : a < ((x.top - 1) / x.page + 1) * x.page ↔ a / x.page < (x.top - 1) / x.page + 1 := by rw [Nat.div_lt_iff_lt_mul (by omega)]
  rw [h1, h2]
  omega
theorem run24_grown {x : LaidC} {rm : Nat} (h1 : 1 ≤ rm) (h2 : rm ≤ 4096) (hrm : x.room ≤ rm) (ht : x.page < x.top) {v : Vm} (h : Grown (Vm.new x.n x.page rm) v (needF (Vm.new x.n x.page rm) x.page x.top)) : Run24 x rm v ∧ ∀ a : Nat, a < x.n → v.ldV a = 0 := by
  obtain ⟨-, -, -, -, hok⟩ := new24_ok (x := x) h1 h2
  rw [(need24 hrm ht).2] at h
  have hz : ∀ a : Nat, a < x.n → (Vm.new x.n x.page rm).ldE a = 12 := fun a ha => by
    rw [hok.ldE_of ha]
    refine if_pos ?_
    show (List.replicate (x.n / x.page) 0).getD (a / x.page) 0 = 0
    exact rep_getD _ _
  refine ⟨⟨h.ok, h.n, h.pg, h.rm, by rw [h.us, List.length_range']; show 0 + _ = _; omega, fun a ha => ?_⟩, fun a ha => ?_⟩
  · rw [h.ldE hok ha, hz a ha]
    by_cases hh : a / x.page ∈ List.range' 1 ((x.top - 1) / x.page)
    · rw [if_pos (show a / (Vm.new x.n x.page rm).pl.pg ∈ _ from hh), if_pos ((pages24 ht).2 hh)]
    · rw [if_neg (show ¬ a / (Vm.new x.n x.page rm).pl.pg ∈ _ from hh), if_neg (fun h => hh ((pages24 ht).1 h))]
  · rw [h.vl a ha]
    split
    · rfl
    · unfold Vm.ldV
      rw [hz a ha]; rfl
theorem run24_none {x : LaidC} {rm : Nat} (h1 : 1 ≤ rm) (h2 : rm ≤ 4096) (ht : ¬ x.page < x.top) : Run24 x rm (Vm.new x.n x.page rm) ∧ ∀ a : Nat, a < x.n → (Vm.new x.n x.page rm).ldV a = 0 := by
  obtain ⟨-, -, -, -, hok⟩ := new24_ok (x := x) h1 h2
  have hp := x.page_pos
  have h3 := x.top_le
  have e : x.top = x.page := by omega
  have hz : ∀ a : Nat, a < x.n → (Vm.new x.n x.page rm).ldE a = 12 := fun a ha => by
    rw [hok.ldE_of ha]
    refine if_pos ?_
    show (List.replicate (x.n / x.page) 0).getD (a / x.page) 0 = 0
    exact rep_getD _ _
  refine ⟨⟨hok, rfl, rfl, rfl, ?_, fun a ha => ?_⟩, fun a ha => ?_⟩
  · rw [e, Nat.div_eq_of_lt (by omega)]; rfl
  · rw [hz a ha, if_neg]
    rintro ⟨h1, h2⟩
    rw [e] at h2
    unfold upN at h2
    rw [show x.page + x.page - 1 = (x.page - 1) + x.page by omega, Nat.add_div_right _ (by omega), Nat.div_eq_of_lt (by omega)] at h2
    omega
  · unfold Vm.ldV
    rw [hz a ha]; rfl
end Go.Proofs.YtbmidhlilafgeaaGreatDoor
end
section
namespace Go.Proofs.YtbmidhlilafgeaaGreatDoor
open Go.RowKit Word

theorem tk_hdrW {p f c : Nat} (hs : p + f + c ≤ 255) : tkE (hdrW p f c) = 0 ∧ tkH (hdrW p f c) = ⟨p, f, c⟩ := by
  have e : hdrW p f c = (4294967295 - (p + 256 * f + 65536 * c + 2768240640)) * 4294967296 + (p + 256 * f + 65536 * c + 2768240640) := rfl
  have a1 : hdrW p f c % 4294967296 = p + 256 * f + 65536 * c + 2768240640 := by rw [e]; omega
  have a2 : hdrW p f c / 4294967296 = 4294967295 - (p + 256 * f + 65536 * c + 2768240640) := by rw [e]; omega
  have a3 : hdrW p f c % 256 = p := by rw [e]; omega
  have a4 : hdrW p f c / 256 % 256 = f := by rw [e]; omega
  have a5 : hdrW p f c / 65536 % 256 = c := by rw [e]; omega
  have hok : tkOk (hdrW p f c) = true := by
    unfold tkOk
    rw [a1, a2, a3, a4, a5]
    simp only [Bool.and_eq_true, decide_eq_true_eq]
    exact ⟨⟨by omega, by first | trivial | rfl⟩, hs⟩
  unfold tkE tkH
  rw [if_pos hok, if_pos hok, a3, a4, a5]
  exact ⟨rfl, rfl⟩
theorem mkV_ldV {v : Vm} (h : VmOk v) (a : Int) {x : Nat} (hx : x < 18446744073709551616) (m : Nat) (hm : ∀ j : Nat, j ≤ m → v.ldE (a + j) = 0) (b : Int) : (mkV v a x m).ldV b = if b = a then x else if a < b ∧ b ≤ a + m then 0 else v.ldV b := by
  induction m with
  | zero =>
    have h0 := hm 0 (Nat.le_refl _)
    rw [show a + ((0 : Nat) : Int) = a by omega] at h0
    show (v.st a x).ldV b = _
    rw [h.st_ldV x h0]
    by_cases e : a = b
    · rw [if_pos e, if_pos e.symm]
    · rw [if_neg e, if_neg (fun h => e h.symm), if_neg (by omega)]
  | succ m ih =>
    have ih := ih (fun j hj => hm j (by omega))
    have hok := ((Stays.refl h).mkV a hx m).ok
    have hl : (mkV v a x m).ldE (a + 1 + m) = 0 := by
      rw [mkV_ldE, show a + 1 + (m : Int) = a + ((m + 1 : Nat) : Int) by omega]
      exact hm (m + 1) (Nat.le_refl _)
    show ((mkV v a x m).st (a + 1 + m) 0).ldV b = _
    rw [hok.st_ldV 0 hl, ih]
    by_cases e : a + 1 + (m : Int) = b
    · rw [if_pos e, if_neg (by omega), if_pos (by omega)]
    · rw [if_neg e]
      by_cases e2 : b = a
      · rw [if_pos e2, if_pos e2]
      · rw [if_neg e2, if_neg e2]
        by_cases e3 : a < b ∧ b ≤ a + m
        · rw [if_pos e3, if_pos (by omega)]
        · rw [if_neg e3, if_neg (by omega)]
theorem mkE_all {v : Vm} {a : Int} {n : Nat} (h : ∀ j : Nat, j ≤ n → v.ldE (a + j) = 0) : mkE v a n = 0 := by
  induction n with
  | zero =>
    have := h 0 (Nat.le_refl _)
    rwa [show a + ((0 : Nat) : Int) = a by omega] at this
  | succ n ih =>
    show (if mkE v a n ≠ 0 then mkE v a n else v.ldE (a + 1 + n)) = 0
    rw [if_neg (fun hn => hn (ih (fun j hj => h j (by omega)))), show a + 1 + (n : Int) = a + ((n + 1 : Nat) : Int) by omega]
    exact h (n + 1) (Nat.le_refl _)
/-- An object, made where all words are there. -/
theorem mkVm_all {v : Vm} (h : VmOk v) {t p f c : Nat} (ht : 0 < t) (hs : p + f + c ≤ 255) (hl : ∀ j : Nat, j ≤ p + f + c → v.ldE ((t : Int) + j) = 0) :
    mkRes v t ⟨p, f, c⟩ = 0 ∧ ∀ b : Int, (mkVm v t ⟨p, f, c⟩).ldV b = if b = t then hdrW p f c else if (t : Int) < b ∧ b ≤ t + ((p + f + c : Nat) : Int) then 0 else v.ldV b := by
  have e : ((p : Int) + f + c).toNat = p + f + c := by omega
  have h0 : mkRes v t ⟨p, f, c⟩ = 0 := by
    unfold mkRes
    rw [if_neg (by omega), if_neg (by rw [hdrE_of hs]; decide)]
    show mkE v t ((p : Int) + f + c).toNat = 0
    rw [e]
    exact mkE_all hl
  refine ⟨h0, fun b => ?_⟩
  unfold mkVm
  rw [if_pos h0]
  show (mkV v t (hdrW p f c) ((p : Int) + f + c).toNat).ldV b = _
  rw [e]
  exact mkV_ldV h t (hdrW_lt hs) _ hl b
theorem fldC_ldV {v : Vm} (a p : Nat) {s : Vm × Nat × List Int} (h : Stays v s.1) (m : Nat) (hl : ∀ j : Nat, j < m → v.ldE ((a + 1 + j : Nat) : Int) = 0) (b : Int) (hb : ¬ ((a : Int) + 1 + p ≤ b ∧ b < a + 1 + m)) : (fldC a p s m).1.ldV b = s.1.ldV b := by
  induction m with
  | zero => rfl
  | succ m ih =>
    have ih := ih (fun j hj => hl j (by omega)) (by omega)
    unfold fldC
    split
    · exact ih
    · rename_i hp
      have hs := (h.fldC a p m).1
      have h1 : (fldC a p s m).1.ldE ((a + 1 + m : Nat) : Int) = 0 := by rw [hs.sm.ldE]; exact hl m (Nat.lt_succ_self m)
      show ((fldC a p s m).1.st _ _).ldV b = _
      rw [hs.ok.st_ldV _ h1, if_neg (by omega)]
      exact ih
theorem fldC_F (a p : Nat) (s : Vm × Nat × List Int) (m : Nat) : ∀ x ∈ (fldC a p s m).2.2, x ∈ s.2.2 ∨ ∃ j : Nat, j < m ∧ j < p ∧ x = ((a + 1 + j : Nat) : Int) := by
  induction m with
  | zero => exact fun x hx => .inl hx
  | succ m ih =>
    intro x hx
    unfold fldC at hx
    split at hx
    · rename_i hp
      rcases List.mem_append.1 hx with hx | hx
      · rcases ih x hx with h | ⟨j, h1, h2, h3⟩
        · exact .inl h
        · exact .inr ⟨j, by omega, h2, h3⟩
      · exact .inr ⟨m, by omega, hp, List.mem_singleton.1 hx⟩
    · rcases ih x hx with h | ⟨j, h1, h2, h3⟩
      · exact .inl h
      · exact .inr ⟨j, by omega, h2, h3⟩
/-- Where an object lies. -/
def LaidC.at (x : LaidC) (j : Nat) : Nat := x.page + szC x.H j
/-- What may stand in a pointer. -/
def IsPut (x : LaidC) (y : Nat) : Prop := y = 0 ∨ ∃ j, j < x.k ∧ y = x.at j
theorem put_is (x : LaidC) (i : Nat) : IsPut x (x.put i) := by
  unfold LaidC.put
  split
  · exact .inl rfl
  · rename_i h
    exact .inr ⟨i % x.k, Nat.mod_lt _ (by omega), rfl⟩
structure LaidIn (x : LaidC) (v0 v : Vm) (k : Nat) : Prop where
  st : Stays v0 v
  hd : ∀ j, j < k → ∀ p f c : Nat, hdC x.H j = ⟨p, f, c⟩ → v.ldV ((x.at j : Nat) : Int) = hdrW p f c
  pt : ∀ j, j < k → ∀ p f c : Nat, hdC x.H j = ⟨p, f, c⟩ → ∀ m : Nat, m < p → IsPut x (v.ldV ((x.at j + 1 + m : Nat) : Int))
def InF (x : LaidC) (k : Nat) (F : List Int) : Prop := ∀ a ∈ F, ∃ j, j < k ∧ ∃ p f c m : Nat, hdC x.H j = ⟨p, f, c⟩ ∧ m < p ∧ a = ((x.at j + 1 + m : Nat) : Int)
section
variable {x : LaidC} {v0 : Vm}
theorem at_next {j p f c : Nat} (hj : j < x.k) (hh : hdC x.H j = ⟨p, f, c⟩) : x.at (j + 1) = x.at j + (1 + p + f + c) ∧ x.at (j + 1) ≤ x.top ∧ p + f + c ≤ 255 ∧ x.page ≤ x.at j := by
  obtain ⟨p', f', c', e, hs, -, h1, h2⟩ := kC_hd (H := x.H) (j := j) hj
  rw [hh] at e
  simp only [Hdr.mk.injEq] at e
  have : p = p' ∧ f = f' ∧ c = c' := by omega
  obtain ⟨rfl, rfl, rfl⟩ := this
  unfold LaidC.at LaidC.top LaidC.k
  omega
theorem at_mono {i j : Nat} (h : i ≤ j) : x.at i ≤ x.at j := by unfold LaidC.at; have := szC_mono x.H h; omega
theorem hd_get {j : Nat} (hj : j < x.k) : ∃ p f c : Nat, hdC x.H j = ⟨p, f, c⟩ := by
  obtain ⟨p, f, c, e, -⟩ := kC_hd (H := x.H) (j := j) hj
  exact ⟨p, f, c, e⟩
theorem laid_obj (hok : VmOk v0) (hl : ∀ a : Nat, x.page ≤ a → a < x.top → v0.ldE a = 0) {k : Nat} (hk : k ≤ x.k) : LaidIn x v0 (objC x.page x.H v0 k).1 k ∧ InF x k (objC x.page x.H v0 k).2.2 := by
  induction k with
  | zero => exact ⟨⟨Stays.refl hok, fun j hj => absurd hj (Nat.not_lt_zero _), fun j hj => absurd hj (Nat.not_lt_zero _)⟩, fun a ha => by cases ha⟩
  | succ k ih =>
    obtain ⟨h1, h2⟩ := ih (by omega)
    obtain ⟨p, f, c, e⟩ := hd_get (x := x) (j := k) (by omega)
    obtain ⟨n1, n2, n3, n4⟩ := at_next (x := x) (by omega) e
    have hp := x.page_pos
    have hN : (hdrN (hdC x.H k)).toNat - 1 = p + f + c := by rw [e, show hdrN ⟨p, f, c⟩ = 1 + (p : Int) + f + c from if_pos (hdrE_of n3)]; omega
    have hlm : ∀ j : Nat, j ≤ p + f + c → v0.ldE (((x.at k : Nat) : Int) + j) = 0 := fun j hj => by
      have := hl (x.at k + j) (by omega) (by omega)
      rw [← this]; congr 1
    have hmk := mkVm_all (v := (objC x.page x.H v0 k).1) h1.st.ok (t := x.at k) (by omega) n3 (fun j hj => by rw [h1.st.sm.ldE]; exact hlm j hj)
    have hsm := h1.st.mkVm ((x.at k : Nat) : Int) ⟨p, f, c⟩
    have hE : objC x.page x.H v0 (k + 1) = fldC (x.at k) p (mkVm (objC x.page x.H v0 k).1 ((x.at k : Nat) : Int) ⟨p, f, c⟩, (objC x.page x.H v0 k).2) (p + f + c) := by
      show fldC (x.page + szC x.H k) (hdC x.H k).p.toNat (mkVm (objC x.page x.H v0 k).1 ((x.page + szC x.H k : Nat) : Int) (hdC x.H k), (objC x.page x.H v0 k).2) ((hdrN (hdC x.H k)).toNat - 1) = _
      rw [hN, e]
      rfl
    have hst := (hsm.fldC (s := (mkVm (objC x.page x.H v0 k).1 ((x.at k : Nat) : Int) ⟨p, f, c⟩, (objC x.page x.H v0 k).2)) (x.at k) p (p + f + c)).1
    have hfl := fldC_ldV (x.at k) p (s := (mkVm (objC x.page x.H v0 k).1 ((x.at k : Nat) : Int) ⟨p, f, c⟩, (objC x.page x.H v0 k).2)) hsm (p + f + c) (fun j hj => by
      have := hlm (j + 1) (by omega)
      rw [← this]; congr 1; omega)
    have hF := fldC_F (x.at k) p (mkVm (objC x.page x.H v0 k).1 ((x.at k : Nat) : Int) ⟨p, f, c⟩, (objC x.page x.H v0 k).2) (p + f + c)
    rw [hE]
    refine ⟨⟨hst, fun j hj p' f' c' hh => ?_, fun j hj p' f' c' hh m hm => ?_⟩, fun a ha => ?_⟩
    · rcases Nat.lt_or_ge j k with hjk | hjk
      · have hmo := at_mono (x := x) (i := j + 1) (j := k) (by omega)
        have hnx := at_next (x := x) (by omega) hh
        rw [hfl _ (by omega), hmk.2, if_neg (by omega), if_neg (by omega)]
        exact h1.hd j hjk p' f' c' hh
      · obtain rfl : j = k := by omega
        rw [e] at hh
        simp only [Hdr.mk.injEq] at hh
        have : p = p' ∧ f = f' ∧ c = c' := by omega
        obtain ⟨rfl, rfl, rfl⟩ := this
        rw [hfl _ (by omega), hmk.2, if_pos rfl]
    · rcases Nat.lt_or_ge j k with hjk | hjk
      · have hmo := at_mono (x := x) (i := j + 1) (j := k) (by omega)
        have hnx := at_next (x := x) (by omega) hh
        rw [hfl _ (by omega), hmk.2, if_neg (by omega), if_neg (by omega)]
        exact h1.pt j hjk p' f' c' hh m hm
      · obtain rfl : j = k := by omega
        rw [e] at hh
        simp only [Hdr.mk.injEq] at hh
        have : p = p' ∧ f = f' ∧ c = c' := by omega
        obtain ⟨rfl, rfl, rfl⟩ := this
        rw [hfl _ (by omega), hmk.2, if_neg (by omega), if_pos (by omega)]
        exact .inl rfl
    · rcases hF a ha with h | ⟨j, hj1, hj2, rfl⟩
      · obtain ⟨j, hj, r⟩ := h2 a h
        exact ⟨j, by omega, r⟩
      · exact ⟨k, Nat.lt_succ_self k, p, f, c, j, e, hj2, rfl⟩
theorem laid_ptr {F : List Int} {v : Vm} (hl : ∀ a : Nat, x.page ≤ a → a < x.top → v0.ldE a = 0) (h : LaidIn x v0 v x.k) (hF : InF x x.k F) (hne : F ≠ []) (n : Nat) : LaidIn x v0 (ptrC x F v n) x.k := by
  induction n with
  | zero => exact h
  | succ n ih =>
    have hlen : 0 < F.length := List.length_pos_iff.2 hne
    have hm : F.getD ((x.P.getD (2 * n) 0 + 2 * n) % F.length) 0 ∈ F := by
      have hlt := Nat.mod_lt (x.P.getD (2 * n) 0 + 2 * n) hlen
      rw [List.getD_eq_getElem?_getD, List.getElem?_eq_getElem hlt]
      exact List.getElem_mem hlt
    obtain ⟨j0, hj0, p0, f0, c0, m0, e0, hm0, ha0⟩ := hF _ hm
    obtain ⟨q1, q2, q3, q4⟩ := at_next (x := x) hj0 e0
    have hlv : (ptrC x F v n).ldE (F.getD ((x.P.getD (2 * n) 0 + 2 * n) % F.length) 0) = 0 := by
      rw [ih.st.sm.ldE, ha0]
      exact hl _ (by omega) (by omega)
    have hst := ih.st.ok.st_ldV (x.put (x.P.getD (2 * n + 1) 0)) hlv
    rw [ha0] at hst
    show LaidIn x v0 ((ptrC x F v n).st (F.getD ((x.P.getD (2 * n) 0 + 2 * n) % F.length) 0) (x.put (x.P.getD (2 * n + 1) 0))) x.k
    rw [ha0]
    refine ⟨ih.st.st _ (put_lt x _), fun j hj p f c hh => ?_, fun j hj p f c hh m hm => ?_⟩
    · rw [hst, if_neg]
      · exact ih.hd j hj p f c hh
      · intro e
        rcases Nat.lt_or_ge j0 j with h' | h'
        · have := at_mono (x := x) (i := j0 + 1) (j := j) (by omega); omega
        · have := at_mono (x := x) h'; omega
    · rw [hst]
      split
      · exact put_is x _
      · exact ih.pt j hj p f c hh m hm
/-- What a laid heap holds. -/
theorem laid_in (hok : VmOk v0) (hl : ∀ a : Nat, x.page ≤ a → a < x.top → v0.ldE a = 0) : LaidIn x v0 (layC x v0) x.k := by
  obtain ⟨h1, h2⟩ := laid_obj hok hl (Nat.le_refl x.k)
  unfold layC
  split
  · exact h1
  · rename_i hne
    exact laid_ptr hl h1 h2 hne _
/-- Its objects. -/
theorem LaidIn.ob {v : Vm} (hl : ∀ a : Nat, x.page ≤ a → a < x.top → v0.ldE a = 0) (h : LaidIn x v0 v x.k) {j : Nat} (hj : j < x.k) : ∃ p f c : Nat, hdC x.H j = ⟨p, f, c⟩ ∧ v.rdE ((x.at j : Nat) : Int) = 0 ∧ v.rdH ((x.at j : Nat) : Int) = ⟨p, f, c⟩ ∧ v.osz ((x.at j : Nat) : Int) = ((1 + p + f + c : Nat) : Int) := by
  obtain ⟨p, f, c, e⟩ := hd_get (x := x) hj
  obtain ⟨n1, n2, n3, n4⟩ := at_next (x := x) hj e
  have hp := x.page_pos
  have h0 : v.ldE ((x.at j : Nat) : Int) = 0 := by rw [h.st.sm.ldE]; exact hl _ n4 (by omega)
  have hv := h.hd j hj p f c e
  obtain ⟨t1, t2⟩ := tk_hdrW n3
  have hH : v.rdH ((x.at j : Nat) : Int) = ⟨p, f, c⟩ := by unfold Vm.rdH; rw [if_pos ⟨by omega, h0⟩, hv, t2]
  refine ⟨p, f, c, e, ?_, hH, ?_⟩
  · unfold Vm.rdE
    rw [if_neg (by omega), if_neg (by omega), if_pos h0, hv, t1]
  · unfold Vm.osz
    rw [hH, show hdrN ⟨p, f, c⟩ = 1 + (p : Int) + f + c from if_pos (hdrE_of n3)]
    push_cast; rfl
theorem LaidIn.ptr {v : Vm} (hl : ∀ a : Nat, x.page ≤ a → a < x.top → v0.ldE a = 0) (h : LaidIn x v0 v x.k) {j : Nat} (hj : j < x.k) {i : Nat} (hi : (i : Int) < (v.rdH ((x.at j : Nat) : Int)).p) : v.ptE ((x.at j : Nat) : Int) i = 0 ∧ IsPut x (v.ptV ((x.at j : Nat) : Int) i) := by
  obtain ⟨p, f, c, e, r1, r2, r3⟩ := h.ob hl hj
  obtain ⟨n1, n2, n3, n4⟩ := at_next (x := x) hj e
  have ht := x.top_le
  have hpp := x.page_pos
  rw [r2] at hi
  have hi : (i : Int) < (p : Int) := hi
  have h0 : v.ldE (((x.at j : Nat) : Int) + 1 + i) = 0 := by
    rw [h.st.sm.ldE, show ((x.at j : Nat) : Int) + 1 + i = ((x.at j + 1 + i : Nat) : Int) by omega]
    exact hl _ (by omega) (by omega)
  have hq := h.pt j hj p f c e i (by omega)
  rw [show ((x.at j + 1 + i : Nat) : Int) = ((x.at j : Nat) : Int) + 1 + i by omega] at hq
  have hle : v.ldV (((x.at j : Nat) : Int) + 1 + i) ≤ 2147483647 := by
    rcases hq with hq | ⟨j', hj', hq⟩
    · omega
    · obtain ⟨p', f', c', e'⟩ := hd_get (x := x) hj'
      have := at_next (x := x) hj' e'
      omega
  have hpt := ptE_of (v := v) (a := ((x.at j : Nat) : Int)) (i := i) r1 (by rw [r2]; exact hi) h0 hle
  exact ⟨hpt.1, by rw [(ptV_of hpt.1).1]; exact hq⟩
theorem rs_put {r : Int} (hr : r ∈ x.rs) : ∃ y : Nat, r = y ∧ IsPut x y := by
  unfold LaidC.rs LaidC.rsN at hr
  obtain ⟨i, -, rfl⟩ := List.mem_map.1 hr
  split
  · exact ⟨_, rfl, put_is x _⟩
  · exact ⟨0, rfl, .inl rfl⟩
/-- What the roots reach are objects that were laid. -/
theorem LaidIn.rch {v : Vm} (hl : ∀ a : Nat, x.page ≤ a → a < x.top → v0.ldE a = 0) (h : LaidIn x v0 v x.k) {a : Int} (ha : Rch v x.rs a) : ∃ j, j < x.k ∧ a = ((x.at j : Nat) : Int) := by
  refine ha (fun a => ∃ j, j < x.k ∧ a = ((x.at j : Nat) : Int)) (fun r hr h0 => ?_) ?_
  · obtain ⟨y, rfl, hy | ⟨j, hj, hy⟩⟩ := rs_put hr
    · exact absurd (by rw [hy]; rfl) h0
    · exact ⟨j, hj, by rw [hy]⟩
  · rintro a b ⟨j, hj, rfl⟩ ⟨-, i, hi, -, h1, rfl⟩
    rcases (h.ptr hl hj hi).2 with h2 | ⟨j', hj', h2⟩
    · exact absurd h2 h1
    · exact ⟨j', hj', by rw [h2]⟩
theorem LaidIn.sound {v : Vm} (hl : ∀ a : Nat, x.page ≤ a → a < x.top → v0.ldE a = 0) (h : LaidIn x v0 v x.k) : Sound v x.rs x.n := by
  have ht := x.top_le
  refine ⟨fun a ha => ?_, fun a ha i hi => ?_, fun a ha => ?_, fun a b ha hb => ?_⟩
  · obtain ⟨j, hj, rfl⟩ := h.rch hl ha
    obtain ⟨p, f, c, -, r, -⟩ := h.ob hl hj
    exact r
  · obtain ⟨j, hj, rfl⟩ := h.rch hl ha
    exact (h.ptr hl hj hi).1
  · obtain ⟨j, hj, rfl⟩ := h.rch hl ha
    obtain ⟨p, f, c, e, -, -, r⟩ := h.ob hl hj
    have := at_next (x := x) hj e
    unfold LaidC.n
    omega
  · obtain ⟨j, hj, rfl⟩ := h.rch hl ha
    obtain ⟨j', hj', rfl⟩ := h.rch hl hb
    obtain ⟨p, f, c, e, -, -, r⟩ := h.ob hl hj
    obtain ⟨p', f', c', e', -, -, r'⟩ := h.ob hl hj'
    have n1 := at_next (x := x) hj e
    have n2 := at_next (x := x) hj' e'
    rcases Nat.lt_trichotomy j j' with h1 | rfl | h1
    · have := at_mono (x := x) (i := j + 1) (j := j') (by omega); right; left; omega
    · exact .inl rfl
    · have := at_mono (x := x) (i := j' + 1) (j := j) (by omega); right; right; omega
/-- Objects that lie apart in a run have no more words than it. -/
theorem sizes_run {n : Nat} {L : List Ob} (hg : Good n L) {lo hi : Nat} (h : ∀ o ∈ L, lo ≤ o.1 ∧ o.1 + o.2 ≤ hi) (hlh : lo ≤ hi) : sizes L + lo ≤ hi := by
  have key : ∀ (L : List Ob), L.Pairwise (fun o q => o.1 + o.2 ≤ q.1) → ∀ lo, lo ≤ hi → (∀ o ∈ L, lo ≤ o.1 ∧ o.1 + o.2 ≤ hi) → sizes L + lo ≤ hi := by
    intro L
    induction L with
    | nil => intro _ lo h1 _; simpa [sizes] using h1
    | cons o r ih =>
      intro hp lo h1 h2
      obtain ⟨p1, p2⟩ := List.pairwise_cons.1 hp
      have ho := h2 o (List.mem_cons_self ..)
      have := ih p2 (o.1 + o.2) ho.2 (fun q hq => ⟨p1 q hq, (h2 q (List.mem_cons_of_mem _ hq)).2⟩)
      simp only [sizes]
      omega
  exact key L (List.pairwise_iff_getElem.2 fun i j hi hj hij => hg.at hi hj hij) lo hlh h
theorem LaidIn.marks {v : Vm} (hl : ∀ a : Nat, x.page ≤ a → a < x.top → v0.ldE a = 0) (h : LaidIn x v0 v x.k) {L : List Ob} (hM : Marks v x.rs x.n L) : (∀ o ∈ L, x.page ≤ o.1 ∧ o.1 + o.2 ≤ x.top) ∧ sizes L ≤ 512 ∧ FullOb v L := by
  have ht := x.top_le
  have hin : ∀ o ∈ L, x.page ≤ o.1 ∧ o.1 + o.2 ≤ x.top := fun o ho => by
    obtain ⟨h1, h2, h3⟩ := hM.mkd.ats o ho
    obtain ⟨j, hj, e⟩ := h.rch hl h1
    obtain ⟨p, f, c, e', -, -, r⟩ := h.ob hl hj
    have := at_next (x := x) hj e'
    rw [e, r] at h3
    omega
  refine ⟨hin, ?_, fun o ho m hm => ?_⟩
  · have := sizes_run hM.mkd.good hin ht.1
    omega
  · have := hin o ho
    rw [h.st.sm.ldE, show (o.1 : Int) + m = ((o.1 + m : Nat) : Int) by omega]
    exact hl _ (by omega) (by omega)
end
end Go.Proofs.YtbmidhlilafgeaaGreatDoor
end
section
section
namespace Go.Proofs.YtbmidhlilafgeaaGreatDoor
open Go.RowKit Word

def IntsAt (w : World) (A : Option Addr) (l : List Int) : Prop := ∀ i (h : i < l.length), ∃ b o, A = some ⟨b, o, none⟩ ∧ b < w.heap.size ∧ w.cell? ⟨b, o + i, none⟩ = some (.int .i64 l[i])
/-- Numbers that lie in a row apart from some blocks. -/
def IntsOff (T : Nat → Prop) (w : World) (A : Option Addr) (l : List Int) : Prop := ∀ i (h : i < l.length), ∃ b o, A = some ⟨b, o, none⟩ ∧ b < w.heap.size ∧ ¬ T b ∧ w.cell? ⟨b, o + i, none⟩ = some (.int .i64 l[i])
theorem IntsOff.touch {T S : Nat → Prop} {w w' : World} {A : Option Addr} {l : List Int} (h : IntsOff T w A l) (t : Touch S w w') (hs : ∀ b, b < w.heap.size → S b → T b) : IntsOff T w' A l := fun i hi => by
  obtain ⟨b, o, e, hb, hT, hc⟩ := h i hi
  exact ⟨b, o, e, Nat.lt_of_lt_of_le hb t.size, hT, (t.cell hb (fun x => hT (hs b hb x)) _).trans hc⟩
theorem IntsOff.gr {T : Nat → Prop} {w w' : World} {A : Option Addr} {l : List Int} (h : IntsOff T w A l) (t : Gr w w') : IntsOff T w' A l := h.touch (t.touch (fun _ => False)) (fun _ _ h => h.elim)
theorem IntsOff.mono {T T' : Nat → Prop} {w : World} {A : Option Addr} {l : List Int} (h : IntsOff T w A l) (hs : ∀ b, b < w.heap.size → T' b → T b) : IntsOff T' w A l := fun i hi => by
  obtain ⟨b, o, e, hb, hT, hc⟩ := h i hi
  exact ⟨b, o, e, hb, fun x => hT (hs b hb x), hc⟩
def zs (l : List Int) : List Value := l.map fun x => .int .i64 x
theorem zs_at {l : List Int} {i : Nat} (h : i < l.length) : (zs l)[i]? = some (.int .i64 l[i]) := by simp [zs, h]
/-- A stack s of numbers l lies in w. -/
structure StkAt (w : World) (S : Nat → Prop) (s : Nat) (l : List Int) (R : Nat) (lost : Bool) : Prop where
  ss : S s
  r1 : 1 ≤ R ∧ R ≤ 4096
  le : l.length ≤ R
  row : ∃ vl hi, Rec w s 267 [vl, .int .i64 R, .int .i64 hi, .bool lost] ∧ w.ownsRow 0 3 1 vl l.length (zs l) ∧ ∀ g, vl.ownBlock = some g → S g
theorem StkAt.touch {S T : Nat → Prop} {w w' : World} {s : Nat} {l : List Int} {R : Nat} {b : Bool} (h : StkAt w S s l R b) (t : Touch T w w') (hS : ∀ k, S k → k < w.heap.size → ¬ T k) : StkAt w' S s l R b := by
  obtain ⟨h1, h2, h3, vl, hi, hr, ho, hs⟩ := h
  exact ⟨h1, h2, h3, vl, hi, hr.touch t (hS _ h1 hr.lt), own_touch ho t (fun g hg => hS g (hs g hg) (own_lt ho hg).2), hs⟩
theorem StkAt.gr {S : Nat → Prop} {w w' : World} {s : Nat} {l : List Int} {R : Nat} {b : Bool} (h : StkAt w S s l R b) (t : Gr w w') : StkAt w' S s l R b := h.touch (t.touch (fun _ => False)) (fun _ _ _ h => h)
theorem StkAt.mono {S T : Nat → Prop} {w : World} {s : Nat} {l : List Int} {R : Nat} {b : Bool} (h : StkAt w S s l R b) (hT : ∀ k, S k → T k) : StkAt w T s l R b := by
  obtain ⟨h1, h2, h3, vl, hi, hr, ho, hs⟩ := h
  exact ⟨hT _ h1, h2, h3, vl, hi, hr, ho, fun g hg => hT g (hs g hg)⟩
theorem StkAt.cut {S : Nat → Prop} {w : World} {s : Nat} {l : List Int} {R : Nat} {b : Bool} (h : StkAt w S s l R b) : StkAt w (cutS S w) s l R b := by
  obtain ⟨h1, h2, h3, vl, hi, hr, ho, hs⟩ := h
  exact ⟨⟨h1, hr.lt⟩, h2, h3, vl, hi, hr, ho, fun g hg => ⟨hs g hg, (own_lt ho hg).2⟩⟩
section
variable {w : World} {S : Nat → Prop} {s R : Nat} {l : List Int} {lost : Bool}
theorem stk_len (h : StkAt w S s l R lost) : Calls Tryz.prog 234 #[.pointer (some ⟨s, 0, none⟩)] w fun e w' => e = .returned (.int .i64 (l.length : Nat)) ∧ w = w' := by
  obtain ⟨h1, h2, h3, vl, hi, hr, ho, hs⟩ := h
  obtain ⟨A, c, rfl, hc1, hc2⟩ := own_shape ho
  have c0 := hr.cell (j := 0) rfl
  clear hr ho hs
  go_enter Tryz.func234, Tryz.ntmps234
  go_wp2
  go_ret
  exact ⟨rfl, rfl⟩
theorem stk_lost (h : StkAt w S s l R lost) : Calls Tryz.prog 210 #[.pointer (some ⟨s, 0, none⟩)] w fun e w' => e = .returned (.bool lost) ∧ w = w' := by
  obtain ⟨h1, h2, h3, vl, hi, hr, ho, hs⟩ := h
  have c3 := hr.cell (j := 3) rfl
  clear hr ho hs
  go_enter Tryz.func210, Tryz.ntmps210
  go_wp2
  go_ret
  exact ⟨rfl, rfl⟩
theorem stk_found (h : StkAt w S s l R lost) : Calls Tryz.prog 211 #[.pointer (some ⟨s, 0, none⟩)] w fun e w' => e = .returned (.tuple #[]) ∧ Touch S w w' ∧ StkAt w' S s l R false := by
  obtain ⟨h1, h2, h3, vl, hi, hr, ho, hs⟩ := h
  have c3 := hr.cell (j := 3) rfl
  have f3 := hr.free 3
  have HR := hid hr
  have HO := hid ho
  have HS := hid hs
  clear hr ho hs
  go_enter Tryz.func211, Tryz.ntmps211
  go_wp2
  refine bodyPost_end (results_none rfl _ _ _) rfl ?_
  exact ⟨rfl, (Touch.refl S w).setCell (a := ⟨s, 3, none⟩) (fun _ => h1) _, h1, h2, h3, vl, hi, Rec.set HR.out 3 _, own_set_other HO.out _ (fun g hg => own_ne HO.out HR.out (by decide) hg rfl), HS.out⟩
def PopEnd (w : World) (S : Nat → Prop) (s : Nat) (l : List Int) (R : Nat) (lost : Bool) (e : Ending) (w' : World) : Prop :=
  (l = [] ∧ e = .returned (.tuple #[.int .i64 0, .bool false]) ∧ w = w') ∨ (∃ l' a, l = l' ++ [a] ∧ e = .returned (.tuple #[.int .i64 a, .bool true]) ∧ Touch S w w' ∧ StkAt w' S s l' R lost)
set_option maxRecDepth 100000 in
set_option maxHeartbeats 800000 in
theorem stk_pop (h : StkAt w S s l R lost) : Calls Tryz.prog 228 #[.pointer (some ⟨s, 0, none⟩)] w (PopEnd w S s l R lost) := by
  have HL := hid (stk_len h)
  obtain ⟨h1, h2, h3, vl, hi, hr, ho, hs⟩ := h
  rcases List.eq_nil_or_concat l with rfl | ⟨l', a, rfl⟩
  · clear hr ho hs
    go_enter Tryz.func228, Tryz.ntmps228
    go_wp2_with (go_at_call 234; refine HL.out.mono ?_; rintro e w1 ⟨rfl, rfl⟩)
    go_ret2
    exact .inl ⟨rfl, rfl, rfl⟩
  · rw [List.concat_eq_append] at *
    have hlen : (l' ++ [a]).length = l'.length + 1 := by simp
    rw [hlen] at HL ho h3
    obtain ⟨g, c, rfl, -, hc1, hc2, -⟩ := own_form ho (by omega)
    unfold maxLen at hc2
    have c0 := hr.cell (j := 0) rfl
    have f0 := hr.free 0
    have kb := own_cell ho (j := l'.length) (u := .int .i64 a) (by simp [zs])
    have HR := hid hr
    have HO := hid ho
    have HS := hid hs
    obtain ⟨N, hN⟩ : ∃ N, N = l'.length := ⟨_, rfl⟩
    rw [← hN] at HL c0 kb h3 hc1
    have HN := hid hN
    clear hr ho hs hlen hN
    go_enter Tryz.func228, Tryz.ntmps228
    go_wp2_with (go_at_call 234; refine HL.out.mono ?_; rintro e w1 ⟨rfl, rfl⟩)
    go_ret2
    refine .inr ⟨l', a, rfl, rfl, (Touch.refl S w).setCell (a := ⟨s, 0, none⟩) (fun _ => h1) _, h1, h2, by have := HN.out; omega, .slice (some ⟨g, 0, none⟩) N c, hi, Rec.set HR.out 0 _, ?_, fun g' hg => HS.out g' hg⟩
    have ho' := HO.out
    rw [show zs (l' ++ [a]) = zs l' ++ [.int .i64 a] by unfold zs; rw [List.map_append]; rfl] at ho'
    have hp := own_pop ho'
    rw [HN.out]
    exact own_set_other hp _ (fun g' hg => own_ne hp HR.out (by decide) hg rfl)
def NewStk (w : World) (R : Int) (e : Ending) (w' : World) : Prop :=
  ((R < 1 ∨ 4096 < R) ∧ e = .returned (.tuple #[.pointer none, .int .i64 5]) ∧ w = w') ∨
  (1 ≤ R ∧ R ≤ 4096 ∧ e = .returned (.tuple #[.pointer (some ⟨w.heap.size, 0, none⟩), .int .i64 0]) ∧ Gr w w' ∧ StkAt w' (fun k => w.heap.size ≤ k) w.heap.size [] R.toNat false)
set_option maxRecDepth 100000 in
theorem stk_new (R : Int) (w : World) : Calls Tryz.prog 178 #[.int .i64 R] w (NewStk w R) := by
  rcases (by omega : R < 1 ∨ (1 ≤ R ∧ 4096 < R) ∨ (1 ≤ R ∧ R ≤ 4096)) with h | h | h
  · have d0 : decide (R < 1) = true := decide_eq_true h
    go_enter Tryz.func178, Tryz.ntmps178
    go_wp2
    go_ret2
    exact .inl ⟨.inl h, rfl, rfl⟩
  · have d0 : decide (R < 1) = false := decide_eq_false (by omega)
    have d1 : decide (4096 < R) = true := decide_eq_true h.2
    go_enter Tryz.func178, Tryz.ntmps178
    go_wp2
    go_ret2
    exact .inl ⟨.inr h.2, rfl, rfl⟩
  · obtain ⟨m, rfl⟩ : ∃ m : Nat, R = m := ⟨R.toNat, by omega⟩
    have d0 : decide ((m : Int) < 1) = false := decide_eq_false (by omega)
    have d1 : decide (4096 < (m : Int)) = false := decide_eq_false (by omega)
    go_enter Tryz.func178, Tryz.ntmps178
    go_wp2
    go_ret2
    refine .inr ⟨h.1, h.2, rfl, (Gr.refl w).alloc _, Nat.le_refl _, ?_, Nat.zero_le _, .slice none 0 0, 0, ?_, own_nil _ _ _ _, (fun g hg => by cases hg)⟩
    · rw [Int.toNat_natCast]; omega
    · rw [Int.toNat_natCast]; exact Rec.new w _ _
theorem infoIntV : (Tryz.prog.info? 3).map (fun i => (i.zero, i.size, i.bytes)) = some (some (.int .i64 0), 1, 8) := by kernel_rfl
def PushEnd (w : World) (S : Nat → Prop) (s : Nat) (l : List Int) (R : Nat) (lost : Bool) (a : Int) (e : Ending) (w' : World) : Prop :=
  (R ≤ l.length ∧ e = .returned (.bool false) ∧ Touch S w w' ∧ StkAt w' (plus S w) s l R true) ∨ (l.length < R ∧ e = .returned (.bool true) ∧ Touch S w w' ∧ StkAt w' (plus S w) s (l ++ [a]) R lost)
set_option maxRecDepth 100000 in
set_option maxHeartbeats 1600000 in
theorem stk_push (h : StkAt w S s l R lost) (a : Int) : Calls Tryz.prog 227 #[.pointer (some ⟨s, 0, none⟩), .int .i64 a] w (PushEnd w S s l R lost a) := by
  obtain ⟨h1, h2, h3, vl, hi, hr, ho, hs⟩ := h
  obtain ⟨A, c, rfl, hc1, hc2⟩ := own_shape ho
  unfold maxLen at hc2
  have hmax := run_maxB2 Tryz.prog
  have c0 := hr.cell (j := 0) rfl
  have c1 := hr.cell (j := 1) rfl
  have c3 := hr.cell (j := 3) rfl
  have f3 := hr.free 3
  have hsl := hr.lt
  have HR := hid hr
  have HO := hid ho
  have HS := hid hs
  obtain ⟨N, hN⟩ : ∃ N, N = l.length := ⟨_, rfl⟩
  rw [← hN] at c0 h3 hc1
  have HN := hid hN
  have z0 : ∀ m, (w.drewN m).cell? ⟨s, 0, none⟩ = some (.slice A N c) := fun m => c0
  have z1 : ∀ m, (w.drewN m).cell? ⟨s, 1, none⟩ = some (.int .i64 R) := fun m => c1
  have z3 : ∀ m, (w.drewN m).cell? ⟨s, 3, none⟩ = some (.bool lost) := fun m => c3
  have zf : ∀ m, (w.drewN m).frozen? ⟨s, 3, none⟩ = false := fun m => f3
  clear hr ho hs hN
  by_cases hfull : R ≤ N
  · have d0 : decide (R ≤ N) = true := decide_eq_true hfull
    go_enter Tryz.func227, Tryz.ntmps227
    go_wp2
    go_quiet (fail)
    go_wp2
    go_ret
    have hg : Gr w (w.drewN nq) := (Gr.refl w).drewN nq
    refine .inl ⟨by rw [← HN.out]; exact hfull, rfl, (hg.touch S).setCell (a := ⟨s, 3, none⟩) (fun _ => h1) _, .inl h1, h2, by rw [← HN.out]; exact h3, _, hi, Rec.set (HR.out.gr hg) 3 _, own_set_other (own_gr HO.out hg) _ (fun g hg' => own_ne HO.out HR.out (by decide) hg' rfl), fun g hg' => .inl (HS.out g hg')⟩
  · have d0 : decide (R ≤ N) = false := decide_eq_false hfull
    obtain ⟨ii, hii, hi0, hi1, hi2⟩ := info_parts infoIntV
    go_enter Tryz.func227, Tryz.ntmps227
    go_wp2
    go_quiet (fail)
    have hg : Gr w (w.drewN nq) := (Gr.refl w).drewN nq
    have HG := hid hg
    have ho1 := own_gr HO.out hg
    rw [← HN.out] at ho1
    have HO1 := hid ho1
    have HR1 := hid (HR.out.gr hg)
    clear hg ho1 z0 z1 z3 zf
    go_wp2_with (at_builtin; refine wpList_append_lies _ rfl _ _ 30 rfl 0 3 ii _ 1 8 Tryz.underlying30 hii hi0 hi1 hi2 rfl (by decide) (.slice A N c) N (zs l) rfl (HO1.out.alloc _) ⟨(w.drewN nq).heap.size, 0, none⟩ 1 1 [.int .i64 a] rfl rfl (World.news_of_block (cs := #[.int .i64 a]) (t := 3) (fr := (0, 0)) (heap_alloc_new (w.drewN nq) (.cells #[.int .i64 a] 3))) (by simp [Value.oneCell']) (by omega) (by unfold maxLen; omega) (by omega) (Nat.zero_le _) ((w.drewN nq).heap.size + 1) (by simp) ?_; intro g2 c2 w2 hown2 hgrow2 hat2 hlt2; have t2 : Touch (fun k => (Value.slice A N c).ownBlock = some k) (w.drewN nq) w2 := (((Gr.refl _).alloc _).touch _).trans (grown_touch hgrow2 _ (fun k e _ => e)); have HR2 := hid (HR1.out.touch t2 (fun e => own_ne HO1.out HR1.out (by decide) e rfl rfl)); have k0 := HR2.out.cell (j := 0) rfl; have kf := HR2.out.free 0; have HT2 := hid t2; have HO2 := hid hown2; have HA2 := hid (And.intro hat2 hlt2); clear hown2 hgrow2 hat2 hlt2 t2)
    obtain ⟨W3, hW3⟩ : ∃ W3, W3 = w2.setCell ⟨s, 0, none⟩ (.slice (some ⟨g2, 0, none⟩) (N + 1) c2) := ⟨_, rfl⟩
    rw [← hW3]
    have R3 : Rec W3 s 267 [.slice (some ⟨g2, 0, none⟩) (N + 1) c2, .int .i64 R, .int .i64 hi, .bool lost] := by rw [hW3]; exact Rec.set HR2.out 0 _
    have O3 := own_set_other (q := s) (j := 0) HO2.out (.slice (some ⟨g2, 0, none⟩) (N + 1) c2) (fun g hg => own_ne HO2.out HR2.out (by decide) hg rfl)
    rw [← hW3] at O3
    have T3 : Touch S w W3 := by
      rw [hW3]
      exact ((HG.out.touch S).trans (HT2.out.mono (fun k _ hk => HS.out k (by rw [← HN.out]; exact hk)))).setCell (a := ⟨s, 0, none⟩) (fun _ => h1) _
    have y0 := R3.cell (j := 0) rfl
    have y2 := R3.cell (j := 2) rfl
    have yf := R3.free 2
    have HW3 := hid (And.intro R3 (And.intro O3 T3))
    have hsz : (w.drewN nq).heap.size = w.heap.size := rfl
    clear hW3 R3 O3 T3 k0 kf c0 c1 c3 f3
    obtain ⟨Sx, hSx⟩ : ∃ Sx : World → Prop, Sx = fun W' => W'.cell? ⟨s, 0, none⟩ = some (.slice (some ⟨g2, 0, none⟩) (N + 1) c2) ∧ W'.cell? ⟨s, 2, none⟩ = some (.int .i64 hi) := ⟨_, rfl⟩
    have x0 : ∀ p' : Held Sx, p'.w.cell? ⟨s, 0, none⟩ = some (.slice (some ⟨g2, 0, none⟩) (N + 1) c2) := fun p' => (Held.get hSx p').1
    have x2 : ∀ p' : Held Sx, p'.w.cell? ⟨s, 2, none⟩ = some (.int .i64 hi) := fun p' => (Held.get hSx p').2
    have hS0 : Sx W3.drew := by rw [hSx]; exact ⟨y0, y2⟩
    clear hSx
    have inst : Inhabited (Held Sx) := ⟨⟨_, hS0⟩⟩
    refine wp_region_mixS Sx 13 [([0, 1, 2, 3, 4, 5, 6, 7, 8, 9, 10, 11, 12], 13)] [] (by kernel_rfl) (by kernel_rfl) hS0 ?_
    refine segs_step ?_
    simp only [opsAt, List.getElem?_cons_zero, List.getElem?_cons_succ]
    repeat (go_big_quiet_step (fail))
    refine wpQuiet_nil ?_
    go_wp2
    refine ⟨.inl trivial, ?_⟩
    refine segs_end ?_
    refine wpQuiet_nil ?_
    refine NoPanic.normal ?_
    clear x0 x2 hS0 inst
    clear Sx
    go_wp2
    go_ret
    obtain ⟨R3, O3, T3⟩ := HW3.out
    have hA2 := HA2.out
    refine .inr ⟨by rw [← HN.out]; omega, rfl, (T3.setCell (a := ⟨s, 2, none⟩) (fun _ => h1) _).drew, .inl h1, h2, by rw [List.length_append, ← HN.out]; simp; omega, .slice (some ⟨g2, 0, none⟩) (N + 1) c2, max hi ((N : Int) + 1), Rec.gr (Rec.set R3 2 _) (Gr.refl _).drew, ?_, fun g hg => ?_⟩
    · rw [List.length_append, ← HN.out, show zs (l ++ [a]) = zs l ++ [.int .i64 a] by unfold zs; rw [List.map_append]; rfl]
      exact own_gr (own_set_other O3 _ (fun g hg => own_ne O3 R3 (by decide) hg rfl)) (Gr.refl _).drew
    · cases hg
      rcases hA2.1 with h | h
      · exact .inl (HS.out _ (by rw [← HN.out]; exact h))
      · right
        show w.heap.size ≤ g2
        omega
end
end Go.Proofs.YtbmidhlilafgeaaGreatDoor
end

section
namespace Go.Proofs.YtbmidhlilafgeaaGreatDoor
open Go.RowKit Word

/-- A table of root slots: its block, the block of its row, the slots' addresses. -/
structure RtAt (w : World) (r g : Nat) (rs : List Int) : Prop where
  rcd : Rec w r 102 [.slice (some ⟨g, 0, none⟩) rs.length rs.length]
  row : w.ownsRow 0 3 1 (.slice (some ⟨g, 0, none⟩) rs.length rs.length) rs.length (zs rs)
  ne : rs ≠ []
  le : rs.length ≤ 64
theorem zs_set (l : List Int) (i : Nat) (a : Int) : (zs l).set i (.int .i64 a) = zs (l.set i a) := by unfold zs; rw [List.map_set]
theorem RtAt.touch {S : Nat → Prop} {w w' : World} {r g : Nat} {rs : List Int} (h : RtAt w r g rs) (t : Touch S w w') (h1 : ¬ S r) (h2 : ¬ S g) : RtAt w' r g rs :=
  ⟨h.rcd.touch t h1, own_touch h.row t (fun g' hg => by cases hg; exact h2), h.ne, h.le⟩
theorem RtAt.gr {w w' : World} {r g : Nat} {rs : List Int} (h : RtAt w r g rs) (t : Gr w w') : RtAt w' r g rs := ⟨h.rcd.gr t, own_gr h.row t, h.ne, h.le⟩
theorem RtAt.lt {w : World} {r g : Nat} {rs : List Int} (h : RtAt w r g rs) : r < w.heap.size ∧ g < w.heap.size := ⟨h.rcd.lt, (own_lt h.row rfl).2⟩
theorem RtAt.dif {w : World} {r g : Nat} {rs : List Int} (h : RtAt w r g rs) : g ≠ r := own_ne h.row h.rcd (by decide) rfl rfl
theorem RtAt.set {w : World} {r g : Nat} {rs : List Int} (h : RtAt w r g rs) (i : Nat) (a : Int) : RtAt (w.setCell ⟨g, i, none⟩ (.int .i64 a)) r g (rs.set i a) := by
  have hl : (rs.set i a).length = rs.length := List.length_set
  refine ⟨?_, ?_, fun e => h.ne ?_, by rw [hl]; exact h.le⟩
  · rw [hl]
    exact own_set_other h.rcd _ (fun g' hg e => by cases hg; exact h.dif e.symm)
  · rw [hl]
    have := (World.ownsRow.stored h.row i (.int .i64 a)).1
    rw [zs_set] at this
    exact this
  · have : (rs.set i a).length = 0 := by rw [e]; rfl
    rw [hl] at this
    exact List.eq_nil_of_length_eq_zero this
theorem RtAt.cell {w : World} {r g : Nat} {rs : List Int} (h : RtAt w r g rs) {i : Nat} (hi : i < rs.length) : w.cell? ⟨g, i, none⟩ = some (.int .i64 rs[i]) := own_cell h.row (zs_at hi)
section
variable {w : World} {r g : Nat} {rs : List Int}
/-- Whether there is a slot. -/
def slE (rs : List Int) (i : Int) : Int := if 0 ≤ i ∧ i < rs.length then 0 else 17
set_option maxRecDepth 100000 in
theorem rt_check (h : RtAt w r g rs) {b : Nat} {i : Int} (hc : w.cell? ⟨b, 0, none⟩ = some (.int .i64 i)) : Calls Tryz.prog 90 #[.pointer (some ⟨r, 0, none⟩), .slice (some ⟨b, 0, none⟩) 1 1] w fun e w' => e = .returned (.int .i64 (slE rs i)) ∧ w = w' := by
  have c0 := h.rcd.cell (j := 0) rfl
  have hle := h.le
  have hbl := lt_cell hc
  clear h
  obtain ⟨n, hn⟩ : ∃ n, n = rs.length := ⟨_, rfl⟩
  unfold slE
  rw [← hn] at c0 hle ⊢
  rcases (by omega : i < 0 ∨ (0 ≤ i ∧ (n : Int) ≤ i) ∨ (0 ≤ i ∧ i < n)) with h1 | h1 | h1
  · have d0 : decide (i < 0) = true := decide_eq_true h1
    have e0 : (if 0 ≤ i ∧ i < (n : Int) then (0 : Int) else 17) = 17 := if_neg (by omega)
    rw [e0]
    go_enter Tryz.func90, Tryz.ntmps90
    go_wp2
    go_loopw [11] (fun s11 wr => wr = w ∧ s11 = .int .i64 0) (fun _ _ => 0)
    case atStart => exact ⟨rfl, rfl⟩
    case round =>
      obtain ⟨rfl, rfl⟩ := hrel
      go_wp2
      go_ret
      exact ⟨rfl, rfl⟩
  · obtain ⟨h1, h2⟩ := h1
    have d0 : decide (i < 0) = false := decide_eq_false (by omega)
    have d1 : decide ((n : Int) ≤ i) = true := decide_eq_true h2
    have e0 : (if 0 ≤ i ∧ i < (n : Int) then (0 : Int) else 17) = 17 := if_neg (by omega)
    rw [e0]
    go_enter Tryz.func90, Tryz.ntmps90
    go_wp2
    go_loopw [11] (fun s11 wr => wr = w ∧ s11 = .int .i64 0) (fun _ _ => 0)
    case atStart => exact ⟨rfl, rfl⟩
    case round =>
      obtain ⟨rfl, rfl⟩ := hrel
      go_wp2
      go_ret
      exact ⟨rfl, rfl⟩
  · obtain ⟨h1, h2⟩ := h1
    have d0 : decide (i < 0) = false := decide_eq_false (by omega)
    have d1 : decide ((n : Int) ≤ i) = false := decide_eq_false (by omega)
    have e0 : (if 0 ≤ i ∧ i < (n : Int) then (0 : Int) else 17) = 0 := if_pos ⟨h1, h2⟩
    rw [e0]
    go_enter Tryz.func90, Tryz.ntmps90
    go_wp2
    go_loopw [11] (fun s11 wr => ∃ j : Nat, j ≤ 1 ∧ wr = w ∧ s11 = .int .i64 j) (fun s11 _ => 1 - (intOf s11).toNat)
    case atStart => exact ⟨0, by omega, by simp⟩
    case round =>
      obtain ⟨j, hj, rfl, rfl⟩ := hrel
      rcases (by omega : j = 0 ∨ j = 1) with rfl | rfl
      · go_wp2
        go_round
        case rel => exact ⟨1, by omega, trivial, by go_num⟩
        case measure => simp [intOf]
      · go_wp2
        go_ret
        exact ⟨rfl, rfl⟩
theorem rt_len (h : RtAt w r g rs) : Calls Tryz.prog 63 #[.pointer (some ⟨r, 0, none⟩)] w fun e w' => e = .returned (.int .i64 (rs.length : Nat)) ∧ w = w' := by
  have c0 := h.rcd.cell (j := 0) rfl
  clear h
  go_enter Tryz.func63, Tryz.ntmps63
  go_wp2
  go_ret
  exact ⟨rfl, rfl⟩
set_option maxRecDepth 100000 in
theorem rt_get (h : RtAt w r g rs) {i : Nat} (hi : i < rs.length) : Calls Tryz.prog 65 #[.pointer (some ⟨r, 0, none⟩), .int .i64 i] w fun e w' => e = .returned (.tuple #[.int .i64 rs[i], .int .i64 0]) ∧ Gr w w' := by
  have HC := hid (rt_check (h.gr ((Gr.refl w).alloc (.cells #[.int .i64 i] 3))) (b := w.heap.size) (i := i) ((Rec.new w 3 [.int .i64 i]).cell (j := 0) rfl))
  rw [show slE rs i = 0 from if_pos ⟨by omega, by omega⟩] at HC
  have h' := h.gr ((Gr.refl w).alloc (.cells #[.int .i64 i] 3))
  have c0 := h'.rcd.cell (j := 0) rfl
  have c1 := h'.cell hi
  have hle := h'.le
  obtain ⟨x, hx⟩ : ∃ x, x = rs[i] := ⟨_, rfl⟩
  rw [← hx] at c1 ⊢
  obtain ⟨n, hn⟩ : ∃ n, n = rs.length := ⟨_, rfl⟩
  rw [← hn] at c0 hle hi
  clear h h' hx hn
  go_enter Tryz.func65, Tryz.ntmps65
  go_wp2_with (go_at_call 90; refine HC.out.mono ?_; rintro e w1 ⟨rfl, rfl⟩)
  go_ret2
  exact ⟨rfl, (Gr.refl w).alloc _⟩
set_option maxRecDepth 100000 in
theorem rt_set (h : RtAt w r g rs) {i : Nat} (hi : i < rs.length) {a : Int} (ha : 0 ≤ a) : Calls Tryz.prog 29 #[.pointer (some ⟨r, 0, none⟩), .int .i64 i, .int .i64 a] w fun e w' => e = .returned (.int .i64 0) ∧ Touch (fun k => k = g) w w' ∧ RtAt w' r g (rs.set i a) := by
  have HC := hid (rt_check (h.gr ((Gr.refl w).alloc (.cells #[.int .i64 i] 3))) (b := w.heap.size) (i := i) ((Rec.new w 3 [.int .i64 i]).cell (j := 0) rfl))
  rw [show slE rs i = 0 from if_pos ⟨by omega, by omega⟩] at HC
  have h' := h.gr ((Gr.refl w).alloc (.cells #[.int .i64 i] 3))
  have HR := hid h'
  have c0 := h'.rcd.cell (j := 0) rfl
  have c1 := h'.cell hi
  have cf := own_free h'.row i
  have hle := h'.le
  have d0 : decide (a < 0) = false := decide_eq_false (by omega)
  obtain ⟨n, hn⟩ : ∃ n, n = rs.length := ⟨_, rfl⟩
  rw [← hn] at c0 hle hi
  clear h h' hn
  go_enter Tryz.func29, Tryz.ntmps29
  go_wp2_with (go_at_call 90; refine HC.out.mono ?_; rintro e w1 ⟨rfl, rfl⟩)
  go_ret
  exact ⟨rfl, Touch.setCell (S := fun k => k = g) (((Gr.refl w).alloc _).touch _) (a := ⟨g, i, none⟩) (fun _ => rfl) _, HR.out.set i a⟩
theorem made_ints (n : Nat) : (madeCells #[.int .i64 0] n).toList = zs (List.replicate n 0) := by
  unfold madeCells zs
  apply List.ext_getElem
  · simp
  · intro i h1 h2
    simp [Nat.mod_one]
theorem infoIntV' : (Tryz.prog.info? 3).map (fun i => (i.zero, i.size, i.bytes)) = some (some (.int .i64 0), 1, 8) := by kernel_rfl
set_option maxRecDepth 100000 in
set_option maxHeartbeats 800000 in
theorem rt_new {n : Nat} (h1 : 1 ≤ n) (h2 : n ≤ 64) (w : World) : Calls Tryz.prog 58 #[.int .i64 n] w fun e w' => ∃ r g, e = .returned (.tuple #[.pointer (some ⟨r, 0, none⟩), .int .i64 0]) ∧ Gr w w' ∧ RtAt w' r g (List.replicate n 0) ∧ w.heap.size ≤ r ∧ w.heap.size ≤ g := by
  obtain ⟨i0, hi, hz0, hz1, hz2⟩ := info_parts infoIntV'
  have HB : Hid (i0.bytes * n ≤ 281474976710656) := ⟨by rw [hz2]; omega⟩
  have HM : Hid (n ≤ maxLen) := ⟨by unfold maxLen; omega⟩
  have d0 : decide ((n : Int) < 1) = false := decide_eq_false (by omega)
  have d1 : decide (64 < (n : Int)) = false := decide_eq_false (by omega)
  go_enter Tryz.func58, Tryz.ntmps58
  go_wp2_with (at_make; refine wpList_make_full _ rfl _ _ 30 rfl w.heap.size 3 i0 (.int .i64 0) 1 Tryz.underlying30 hi hz0 hz1 .i64 .i64 _ _ n rfl rfl ?h1 ?h2 HB.out HM.out (Nat.le_refl _) ?h3)
  case h1 => omega
  case h2 => omega
  case h3 =>
    intro w1 hown hgrow
    have hg1 : Gr w w1 := (grownBy_touch hgrow (fun _ => False) (fun k e _ => by cases e)).gr
    have HO := hid hown
    have HG := hid hg1
    clear hown hgrow hg1
    go_wp2
    go_ret2
    obtain ⟨g, c, hv, hg2, -, -⟩ := slice_of_own HO.out (by omega)
    simp only [Value.slice.injEq, Option.some.injEq, Addr.mk.injEq, and_true, true_and] at hv
    have hl : (List.replicate n (0 : Int)).length = n := List.length_replicate
    refine ⟨w1.heap.size, w.heap.size, ret2 rfl rfl, HG.out.alloc _, ⟨?_, ?_, fun e => ?_, by rw [hl]; exact h2⟩, HG.out.size, Nat.le_refl _⟩
    · rw [hl]; exact Rec.new w1 _ _
    · rw [hl]
      have := own_gr (own_zero HO.out) ((Gr.refl w1).alloc (.cells #[.slice (some ⟨w.heap.size, 0, none⟩) n n] 102))
      rw [made_ints] at this
      exact this
    · have := congrArg List.length e
      rw [hl] at this
      simp at this
      omega
set_option maxRecDepth 100000 in
set_option maxHeartbeats 800000 in
theorem clone_ints {n b cap : Nat} {l : List Int} (hn : n = l.length) (hn0 : n ≠ 0) (hb : b < w.heap.size) (hc : ∀ i (h : i < l.length), w.cell? ⟨b, i, none⟩ = some (.int .i64 l[i])) (hl : n ≤ 64) :
    Calls Tryz.prog 66 #[.slice (some ⟨b, 0, none⟩) n cap] w fun e w' => ∃ g c, e = .returned (.slice (some ⟨g, 0, none⟩) n c) ∧ Gr w w' ∧ w.heap.size ≤ g ∧ w'.ownsRow 0 3 1 (.slice (some ⟨g, 0, none⟩) n c) n (zs l) := by
  obtain ⟨i0, hi, hz0, hz1, hz2⟩ := info_parts infoIntV'
  have hsn := Lib.run_eql_slice_nil (P := Tryz.prog) w 30 3 (some ⟨b, 0, none⟩) n cap 0 0 Tryz.underlying30
  have hown : (w.alloc (.cells #[] 3)).ownsRow w.heap.size 3 1 (.slice (some ⟨w.heap.size, 0, none⟩) 0 0) 0 [] :=
    ⟨rfl, .inr ⟨w.heap.size, 0, #[], rfl, Nat.le_refl _, heap_alloc_new w _, Nat.le_refl _, by unfold maxLen; omega, rfl, rfl⟩⟩
  have hcell : ∀ (j : Nat) (u : Value), (zs l)[j]? = some u → (w.alloc (.cells #[] 3)).cell? (Addr.add ⟨b, 0, none⟩ j) = some u := fun j u hj => by
    have hjl : j < l.length := by
      rcases Nat.lt_or_ge j l.length with h | h
      · exact h
      · rw [List.getElem?_eq_none (by simpa [zs] using h)] at hj; cases hj
    rw [zs_at hjl] at hj
    cases hj
    have e : Addr.add ⟨b, 0, none⟩ j = ⟨b, j, none⟩ := by unfold Addr.add; split <;> simp_all
    rw [e, World.cell?_alloc_lt (h := hb), hc j hjl]
  have h1c : ∀ u ∈ zs l, u.oneCell' = true := fun u hu => by
    obtain ⟨i, _, rfl⟩ := List.mem_map.1 hu; rfl
  have HO := hid hown
  have HC := hid hcell
  have H1 := hid h1c
  have HL := hid (show n = (zs l).length by rw [hn]; simp [zs])
  have HN0 := hid hn0
  clear hown hcell h1c hn0 hc hn
  go_enter Tryz.func66, Tryz.ntmps66
  go_wp2_with (at_builtin; (refine wpList_append_own _ rfl _ _ 30 rfl w.heap.size 3 i0 (.int .i64 0) 1 8 Tryz.underlying30 hi hz0 hz1 hz2 rfl (by decide) _ _ _ rfl HO.out ⟨b, 0, none⟩ n cap (zs l) rfl (by rw [← HL.out]; omega) HC.out H1.out (by unfold maxLen; omega) (by omega) (by simp) ?_); intro v' w1 hown1 hgrow _; obtain ⟨g, c, hv, hg1, hg2, hg3⟩ := slice_of_own hown1 (by have := HN0.out; omega); subst hv)
  go_ret
  have hgrow' : (w.alloc (.cells #[] 3)).grownBy w1 (some w.heap.size) := hgrow
  refine ⟨g, c, by simp, ?_, hg1, by simpa using own_zero hown1⟩
  refine Touch.gr ((((Gr.refl w).alloc _).touch _).trans' (grownBy_touch hgrow' (fun k => k = w.heap.size) (fun k e _ => by cases e; rfl)) ?_)
  rintro i hi rfl; omega
set_option maxRecDepth 100000 in
theorem rt_all (h : RtAt w r g rs) : Calls Tryz.prog 16 #[.pointer (some ⟨r, 0, none⟩)] w fun e w' => ∃ g c, e = .returned (.slice (some ⟨g, 0, none⟩) rs.length c) ∧ Gr w w' ∧ w.heap.size ≤ g ∧ w'.ownsRow 0 3 1 (.slice (some ⟨g, 0, none⟩) rs.length c) rs.length (zs rs) := by
  have c0 := h.rcd.cell (j := 0) rfl
  have HCL := hid (clone_ints (w := w) (b := g) (cap := rs.length) rfl (fun e => h.ne (List.eq_nil_of_length_eq_zero e)) h.lt.2 (fun i hi => h.cell hi) h.le)
  clear h
  go_enter Tryz.func16, Tryz.ntmps16
  go_wp2_with (go_at_call 66; refine HCL.out.mono ?_; rintro e w1 ⟨g1, c1, rfl, hg1, hg2, ho⟩; have HG1 := hid hg1; have HG2 := hid hg2; have HO1 := hid ho; clear hg1 hg2 ho)
  go_ret
  exact ⟨g1, c1, rfl, HG1.out, HG2.out, HO1.out⟩
end
end Go.Proofs.YtbmidhlilafgeaaGreatDoor
end

section
namespace Go.Proofs.YtbmidhlilafgeaaGreatDoor
open Go.RowKit Word

section
variable {w : World} {r g : Nat} {rs : List Int}
/-- What a round's call leaves. -/
def TurnStep (g r : Nat) (rs : List Int) (i : Nat) (out : List Int) (J : Nat → World → List Int → Prop) (e : Ending) (W' : World) : Prop :=
  ∃ b : Int, e = .returned (.int .i64 b) ∧ RtAt W' r g (out ++ rs.drop i) ∧ ∀ W'', Touch (fun k => k = g) W' W'' → J (i + 1) W'' (out ++ [max b 0])
theorem rt_split {out rs : List Int} {i : Nat} (hi : i < rs.length) (ho : out.length = i) (b : Int) : (out ++ rs.drop i).set i b = (out ++ [b]) ++ rs.drop (i + 1) := by
  subst ho
  rw [List.set_append_right _ _ (Nat.le_refl _), Nat.sub_self, List.drop_eq_getElem_cons hi, List.set_cons_zero, List.append_assoc]
  rfl
theorem rt_at {out rs : List Int} {i : Nat} (hi : i < rs.length) (ho : out.length = i) (h : i < (out ++ rs.drop i).length) : (out ++ rs.drop i)[i] = rs[i] := by
  subst ho
  simp
set_option maxRecDepth 100000 in
set_option maxHeartbeats 3200000 in
theorem rt_turn {F : Nat} {pre caps : Array Value} (J : Nat → World → List Int → Prop) (hcf : ∀ args w, (callFunc F args).run Tryz.prog w = .ok (.enter F args) w)
    (h : RtAt w r g rs) (h0 : J 0 w [])
    (hz : ∀ i (hi : i < rs.length) W out, out.length = i → J i W out → rs[i] = 0 → J (i + 1) W (out ++ [0]))
    (hF : ∀ i (hi : i < rs.length) W out, out.length = i → J i W out → RtAt W r g (out ++ rs.drop i) → rs[i] ≠ 0 → ∀ W0, Gr W W0 → Calls Tryz.prog F (pre ++ #[.int .i64 rs[i]] ++ caps) W0 (TurnStep g r rs i out J)) :
    Calls Tryz.prog 68 #[.pointer (some ⟨r, 0, none⟩), .func (.func F) pre caps] w fun e w' => e = .returned (.tuple #[]) ∧ ∃ out, out.length = rs.length ∧ J rs.length w' out ∧ RtAt w' r g out := by
  have hle := h.le
  obtain ⟨n, hn⟩ : ∃ n, n = rs.length := ⟨_, rfl⟩
  have c0 := h.rcd.cell (j := 0) rfl
  have HN := hid hn
  have HR := hid h
  have HJ0 := hid h0
  have HZ := hid hz
  have HF := hid hF
  rw [← hn] at c0 hle ⊢
  clear h h0 hz hF hn
  go_enter Tryz.func68, Tryz.ntmps68
  go_wp2
  go_loopw [13] (fun s13 wr => ∃ (i : Nat) (out : List Int), i ≤ n ∧ Hid (out.length = i) ∧ Hid (J i wr out) ∧ Hid (RtAt wr r g (out ++ rs.drop i)) ∧ s13 = .int .i64 i) (fun s13 _ => n - (intOf s13).toNat)
  case atStart => exact ⟨0, [], by omega, ⟨rfl⟩, HJ0, HR, rfl⟩
  case round =>
    obtain ⟨i, out, hi, HO, HJ, HT, rfl⟩ := hrel
    clear c0
    by_cases hlast : i = n
    · subst hlast
      go_wp2
      refine bodyPost_end (results_none rfl _ _ _) rfl ?_
      refine ⟨rfl, out, HO.out, HJ.out, ?_⟩
      have := HT.out
      rw [HN.out, List.drop_length, List.append_nil] at this
      exact this
    · have hil : i < rs.length := by have := HN.out; omega
      have hlen : (out ++ rs.drop i).length = n := by have := HO.out; have := HN.out; simp; omega
      have hiI : (i : Int) < (n : Int) := by omega
      have c1 := HT.out.cell (i := i) (by rw [hlen]; omega)
      rw [rt_at hil HO.out] at c1
      obtain ⟨a, ha⟩ : ∃ a, a = rs[i] := ⟨_, rfl⟩
      have HA := hid ha
      have HIL := hid hil
      have HLL := hid hlen
      have HNL := hid hlast
      rw [← ha] at c1
      clear ha hlast
      by_cases ha0 : a = 0
      · subst ha0
        clear hlen
        go_wp2
        go_round
        case rel =>
          refine ⟨i + 1, out ++ [0], by have := HNL.out; omega, ⟨by have := HO.out; simp [this]⟩, ⟨HZ.out i HIL.out _ out HO.out HJ.out HA.out.symm⟩, ⟨?_⟩, by go_num⟩
          have := HT.out
          rw [List.drop_eq_getElem_cons HIL.out, ← HA.out] at this
          simpa using this
        case measure => have := HNL.out; simp [intOf]; omega
      · have d0 : (a != 0) = true := by simpa using ha0
        have HCALL := hid (HF.out i HIL.out wr out HO.out HJ.out HT.out (by rw [← HA.out]; exact ha0) _ (Gr.refl wr).drew)
        rw [← HA.out] at HCALL
        unfold TurnStep at HCALL
        have y0 := HT.out.rcd.cell (j := 0) rfl
        rw [hlen] at y0
        have hrl := HT.out.lt
        clear hlen
        go_upto_region 5 with (fail)
        obtain ⟨Sx, hSx⟩ : ∃ Sx : World → Prop, Sx = fun W' => W'.cell? ⟨r, 0, none⟩ = some (.slice (some ⟨g, 0, none⟩) n n) := ⟨_, rfl⟩
        have x0 : ∀ p' : Held Sx, p'.w.cell? ⟨r, 0, none⟩ = some (.slice (some ⟨g, 0, none⟩) n n) := fun p' => Held.get hSx p'
        have hS0 : Sx wr.drew := by rw [hSx]; exact y0
        have HSX := hid hSx
        clear hSx
        have inst : Inhabited (Held Sx) := ⟨⟨_, hS0⟩⟩
        have hmax := run_maxB2 Tryz.prog
        refine wp_region_mixS Sx 10 [([0, 1, 2, 3, 4, 5, 6], 7), ([8, 9], 10)] [] (by kernel_rfl) (by kernel_rfl) hS0 ?_
        refine segs_step ?_
        simp only [opsAt, List.getElem?_cons_zero, List.getElem?_cons_succ]
        repeat (go_big_quiet_step (fail))
        refine wpQuiet_nil ?_
        go_wp2_with (refine HCALL.out.mono ?_; rintro e w3 ⟨b, rfl, hr3, hj3⟩; have HR3 := hid hr3; have HJ3 := hid hj3; have z0 := hr3.rcd.cell (j := 0) rfl; have z1 := hr3.cell (i := i) (by rw [HLL.out]; have := HNL.out; omega); have zf := own_free hr3.row i; rw [HLL.out] at z0; clear hr3 hj3)
        refine ⟨.inr (Held.of (by rw [HSX.out]; exact z0)), ?_⟩
        refine segs_step ?_
        simp only [opsAt, List.getElem?_cons_zero, List.getElem?_cons_succ]
        repeat (go_big_quiet_step (fail))
        refine wpQuiet_nil ?_
        go_wp2
        refine ⟨.inl trivial, ?_⟩
        refine segs_end ?_
        refine wpQuiet_nil ?_
        refine NoPanic.normal ?_
        clear x0 hS0 inst
        go_wp2
        go_round
        case rel =>
          refine ⟨i + 1, out ++ [max b 0], by have := HNL.out; omega, ⟨by have := HO.out; simp [this]⟩, ⟨HJ3.out _ ?_⟩, ⟨?_⟩, by go_num⟩
          · exact Touch.setCell (S := fun k => k = g) (Touch.refl _ _) (a := ⟨g, i, none⟩) (fun _ => rfl) _
          · have := HR3.out.set i (max b 0)
            rw [rt_split HIL.out HO.out] at this
            exact this
        case measure => have := HNL.out; simp [intOf]; omega
end
end Go.Proofs.YtbmidhlilafgeaaGreatDoor
end
end
section
namespace Go.Proofs.YtbmidhlilafgeaaGreatDoor
open Go.RowKit Word

/-- Where the first k objects lie. -/
def LaidC.starts (x : LaidC) (k : Nat) : List Int := (List.range k).map fun j => ((x.at j : Nat) : Int)
theorem LaidC.starts_at (x : LaidC) {k j : Nat} (h : j < k) : (zs (x.starts k))[j]? = some (.int .i64 ((x.at j : Nat) : Int)) := by
  unfold LaidC.starts zs
  rw [List.getElem?_map, List.getElem?_map, List.getElem?_range h]; rfl
theorem LaidC.starts_succ (x : LaidC) (k : Nat) : zs (x.starts (k + 1)) = zs (x.starts k) ++ [.int .i64 ((x.at k : Nat) : Int)] := by
  unfold LaidC.starts zs
  rw [List.range_succ, List.map_append, List.map_append]; rfl
section
variable {w : World}
set_option maxRecDepth 100000 in
theorem lay_put {x : LaidC} {A : Option Addr} {cp K : Nat} (hO : w.ownsRow 0 3 1 (.slice A K cp) K (zs (x.starts K))) (hK : K = x.k) (hK2 : K ≤ 512) {i : Nat} (hi : i < 256) :
    Calls Tryz.prog 62 #[.slice A K cp, .int .u8 i] w fun e w' => e = .returned (.int .i64 (x.put i : Nat)) ∧ w = w' := by
  have g1 : ((i : Int)).tmod 8 = ((i % 8 : Nat) : Int) := rfl
  have g1' : ((i : Int)) % 8 = ((i % 8 : Nat) : Int) := rfl
  have hwr : IntKind.u8.wrap ((i % 8 : Nat) : Int) = ((i % 8 : Nat) : Int) := by
    have : i % 8 < 8 := Nat.mod_lt _ (by decide)
    exact IntWalk.u8_in _ (by omega)
  have hP : x.put i = if i % 8 = 7 ∨ K = 0 then 0 else x.at (i % K) := by unfold LaidC.put LaidC.at; rw [hK]
  obtain ⟨r, hr⟩ : ∃ r, r = i % 8 := ⟨_, rfl⟩
  rw [← hr] at g1 g1' hwr hP
  by_cases h7 : r = 7
  · have d0 : ((r : Int) == 7) = true := by simp; omega
    rw [hP, if_pos (.inl h7)]
    clear hP hr hO hK
    go_enter Tryz.func62, Tryz.ntmps62
    go_wp2
    go_ret
    exact ⟨rfl, rfl⟩
  · have d0 : ((r : Int) == 7) = false := by simp; omega
    by_cases h0 : K = 0
    · have d1 : ((K : Int) == 0) = true := by simp; omega
      rw [hP, if_pos (.inr h0)]
      clear hP hr hO hK
      go_enter Tryz.func62, Tryz.ntmps62
      go_wp2
      go_ret
      exact ⟨rfl, rfl⟩
    · have d1 : ((K : Int) == 0) = false := by simp; omega
      rw [hP, if_neg (fun h => h.elim h7 h0)]
      obtain ⟨g, c', ea, -, -, -, hgl⟩ := own_form hO h0
      simp only [Value.slice.injEq] at ea
      obtain ⟨rfl, -, rfl⟩ := ea
      have hlt : i % K < K := Nat.mod_lt _ (by omega)
      have kc := own_cell hO (x.starts_at hlt)
      have m1 : ((i : Int)).tmod (K : Int) = ((i % K : Nat) : Int) := rfl
      have m1' : ((i : Int)) % (K : Int) = ((i % K : Nat) : Int) := rfl
      obtain ⟨z, hz⟩ : ∃ z, z = i % K := ⟨_, rfl⟩
      rw [← hz] at hlt kc m1 m1' ⊢
      generalize x.at z = y at *
      have hKz : (K : Int) ≠ 0 := by omega
      have hzI : (z : Int) < (K : Int) := by omega
      have hwi : IntKind.i64.wrap (i : Int) = (i : Int) := IntWalk.i64_in _ (by omega)
      clear hP hr hO hK hz
      go_enter Tryz.func62, Tryz.ntmps62
      go_wp2
      go_ret
      exact ⟨rfl, rfl⟩
set_option maxRecDepth 100000 in
set_option maxHeartbeats 800000 in
theorem lay_room (x : LaidC) (w : World) : Calls Tryz.prog 57 #[cfV x.cf, .int .i64 (x.page : Nat)] w fun e w' => e = .returned (.int .i64 (x.room : Nat)) ∧ Gr w w' := by
  have hpp := x.page_pos
  have htop := x.top_le
  have hrm := x.room_le
  obtain ⟨fr, hfr⟩ : ∃ n, n = x.page := ⟨_, rfl⟩
  obtain ⟨tp, htp⟩ : ∃ n, n = x.top := ⟨_, rfl⟩
  obtain ⟨bk, hbk⟩ : ∃ n, n = 2 ^ (x.bk % 8) := ⟨_, rfl⟩
  obtain ⟨ah, hah⟩ : ∃ n, n = x.ah % 5 := ⟨_, rfl⟩
  have hbk2 : bk ≤ 128 := by have := pow8 x.bk; omega
  have hah2 : ah < 5 := by rw [hah]; exact Nat.mod_lt _ (by decide)
  have hR : x.room = (tp - fr + fr - 1) / fr + (ah + 1) * max 1 (bk / fr) + 1 := by rw [hfr, htp, hbk, hah]; rfl
  have hC : cfV x.cf = .agg #[.int .i64 fr, .int .i64 tp, .int .i64 ((fr + 512 : Nat) : Int), .int .i64 ((fr + 1024 : Nat) : Int), .int .i64 bk, .int .i64 ((x.st % 20 + 1 : Nat) : Int), .int .i64 ah] := by rw [hfr, htp, hbk, hah]; rfl
  obtain ⟨d, hd⟩ : ∃ d, d = (tp - fr + fr - 1) / fr := ⟨_, rfl⟩
  obtain ⟨e, he⟩ : ∃ e, e = bk / fr := ⟨_, rfl⟩
  obtain ⟨m, hm⟩ : ∃ m, m = (ah + 1) * max 1 e := ⟨_, rfl⟩
  rw [hC, hR, ← hd, ← he, ← hm, ← hfr]
  rw [← hfr, ← htp] at htop
  rw [← hfr] at hpp
  have hfr0 : (fr : Int) ≠ 0 := by omega
  have a1 : (tp : Int) - (fr : Int) + (fr : Int) - 1 = ((tp - fr + fr - 1 : Nat) : Int) := by omega
  have a1' : (tp : Int) - 1 = ((tp - fr + fr - 1 : Nat) : Int) := by omega
  have a2 : ((tp : Int) - 1).tdiv (fr : Int) = (d : Int) := by rw [a1', hd]; rfl
  have a3 : ((tp : Int) - 1) / (fr : Int) = (d : Int) := by rw [a1', hd]; rfl
  have b1 : (bk : Int).tdiv (fr : Int) = (e : Int) := by rw [he]; rfl
  have b2 : (bk : Int) / (fr : Int) = (e : Int) := by rw [he]; rfl
  have hmx : max 1 (e : Int) = ((max 1 e : Nat) : Int) := by omega
  have hm2 : ((ah : Int) + 1) * ((max 1 e : Nat) : Int) = (m : Int) := by rw [hm]; push_cast; rfl
  have hdb : d ≤ 600 := by have := Nat.div_le_self (tp - fr + fr - 1) fr; omega
  have heb : e ≤ 128 := by have := Nat.div_le_self bk fr; omega
  have hmb : m ≤ 640 := by rw [hm]; exact Nat.le_trans (Nat.mul_le_mul (by omega : ah + 1 ≤ 5) (by omega : max 1 e ≤ 128)) (by decide)
  have hmb1 : max 1 e ≤ 128 := by omega
  have hmax := run_maxB2 Tryz.prog
  obtain ⟨mx, hmxe⟩ : ∃ mx, mx = max 1 e := ⟨_, rfl⟩
  rw [← hmxe] at hmx hm2 hmb1
  generalize ((x.st % 20 + 1 : Nat) : Int) = st
  generalize ((fr + 512 : Nat) : Int) = t1
  generalize ((fr + 1024 : Nat) : Int) = t2
  have rb := Rec.new w 34 [.int .i64 fr, .int .i64 tp, .int .i64 t1, .int .i64 t2, .int .i64 bk, .int .i64 st, .int .i64 ah]
  have z0 := rb.cell (j := 0) rfl
  have z1 := rb.cell (j := 1) rfl
  have z4 := rb.cell (j := 4) rfl
  have z6 := rb.cell (j := 6) rfl
  clear hR hC hd he hm hmxe hfr htp hbk hah hrm rb a1 a1'
  go_enter Tryz.func57, Tryz.ntmps57
  go_upto_region 1 with (fail)
  obtain ⟨W1, hW1⟩ : ∃ W1, W1 = w.alloc (.cells #[.int .i64 fr, .int .i64 tp, .int .i64 t1, .int .i64 t2, .int .i64 bk, .int .i64 st, .int .i64 ah] 34) := ⟨_, rfl⟩
  have HG : Hid (Gr w W1) := ⟨by rw [hW1]; exact (Gr.refl w).alloc _⟩
  rw [show w.alloc (.cells ([.int .i64 fr, .int .i64 tp, .int .i64 t1, .int .i64 t2, .int .i64 bk, .int .i64 st, .int .i64 ah] : List Value).toArray 34) = W1 from hW1.symm] at z0 z1 z4 z6
  rw [← hW1]
  clear hW1
  obtain ⟨Sx, hSx⟩ : ∃ Sx : World → Prop, Sx = fun W' => (W'.cell? ⟨w.heap.size, 0, none⟩ = some (.int .i64 fr) ∧ W'.cell? ⟨w.heap.size, 1, none⟩ = some (.int .i64 tp)) ∧ W'.cell? ⟨w.heap.size, 4, none⟩ = some (.int .i64 bk) ∧ W'.cell? ⟨w.heap.size, 6, none⟩ = some (.int .i64 ah) := ⟨_, rfl⟩
  have x0 : ∀ p : Held Sx, p.w.cell? ⟨w.heap.size, 0, none⟩ = some (.int .i64 fr) := fun p => (Held.get hSx p).1.1
  have x1 : ∀ p : Held Sx, p.w.cell? ⟨w.heap.size, 1, none⟩ = some (.int .i64 tp) := fun p => (Held.get hSx p).1.2
  have x4 : ∀ p : Held Sx, p.w.cell? ⟨w.heap.size, 4, none⟩ = some (.int .i64 bk) := fun p => (Held.get hSx p).2.1
  have x6 : ∀ p : Held Sx, p.w.cell? ⟨w.heap.size, 6, none⟩ = some (.int .i64 ah) := fun p => (Held.get hSx p).2.2
  have hS0 : Sx W1.drew := by rw [hSx]; exact ⟨⟨z0, z1⟩, z4, z6⟩
  have inst : Inhabited (Held Sx) := ⟨⟨_, hS0⟩⟩
  clear hSx z0 z1 z4 z6
  refine wp_region_mixS Sx 22 [] [0, 1, 2, 3, 4, 5, 6, 7, 8, 9, 10, 11, 12, 13, 14, 15, 16, 17, 18, 19, 20, 21] (by kernel_rfl) (by kernel_rfl) hS0 ?_
  refine segs_end ?_
  simp only [opsAt, List.getElem?_cons_zero, List.getElem?_cons_succ]
  repeat (go_big_quiet_step (fail))
  refine wpQuiet_nil ?_
  refine NoPanic.normal ?_
  clear x0 x1 x4 x6 hS0 inst
  clear Sx
  go_wp2
  go_ret
  exact ⟨ret_int (by push_cast; rfl), HG.out.drew⟩
end
end Go.Proofs.YtbmidhlilafgeaaGreatDoor
end
