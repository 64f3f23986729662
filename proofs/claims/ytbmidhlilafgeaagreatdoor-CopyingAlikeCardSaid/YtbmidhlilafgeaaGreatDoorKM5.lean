/- Package trap: Fail, Load, Store over a paged memory. Package trap: the deferred closure, part, Run. Package trap: part, Run, whatever is run. -/
import Derived.Test.YtbmidhlilafgeaaGreatDoorKM4
import Derived.Defers
import Derived.Recover
import Derived.Laws.Pointers
section
namespace Go.Proofs.YtbmidhlilafgeaaGreatDoor
open Go.RowKit Word

/-- What stood at addresses. -/
abbrev Lg := List (Int × Nat)
def lgV (l : Lg) : List Value := l.flatMap fun x => [.int .i64 x.1, .int .u64 (x.2 : Nat)]
/-- A piece of work k on the memory q, with its log. -/
structure WkAt (w : World) (S : Nat → Prop) (k q : Nat) (l : Lg) : Prop where
  sk : S k
  ll : l.length ≤ 1048576
  lv : ∀ x ∈ l, x.2 < 18446744073709551616
  row : ∃ vl, Rec w k 225 [spV q, vl] ∧ w.ownsRow 0 230 2 vl l.length (lgV l) ∧ ∀ g, vl.ownBlock = some g → S g
theorem WkAt.touch {S T : Nat → Prop} {w w' : World} {k q : Nat} {l : Lg} (h : WkAt w S k q l) (t : Touch T w w') (hS : ∀ k, S k → k < w.heap.size → ¬ T k) : WkAt w' S k q l := by
  obtain ⟨h1, h2, h3, vl, hr, ho, hs⟩ := h
  exact ⟨h1, h2, h3, vl, hr.touch t (hS _ h1 hr.lt), own_touch ho t (fun g hg => hS g (hs g hg) (own_lt ho hg).2), hs⟩
theorem WkAt.gr {S : Nat → Prop} {w w' : World} {k q : Nat} {l : Lg} (h : WkAt w S k q l) (t : Gr w w') : WkAt w' S k q l := h.touch (t.touch (fun _ => False)) (fun _ _ _ h => h)
theorem WkAt.mono {S T : Nat → Prop} {w : World} {k q : Nat} {l : Lg} (h : WkAt w S k q l) (hT : ∀ k, S k → T k) : WkAt w T k q l := by
  obtain ⟨h1, h2, h3, vl, hr, ho, hs⟩ := h
  exact ⟨hT _ h1, h2, h3, vl, hr, ho, fun g hg => hT g (hs g hg)⟩
theorem WkAt.cut {S : Nat → Prop} {w : World} {k q : Nat} {l : Lg} (h : WkAt w S k q l) : WkAt w (cutS S w) k q l := by
  obtain ⟨h1, h2, h3, vl, hr, ho, hs⟩ := h
  exact ⟨⟨h1, hr.lt⟩, h2, h3, vl, hr, ho, fun g hg => ⟨hs g hg, (own_lt ho hg).2⟩⟩
/-- A thrown fault. -/
def thrV (why at' : Int) : Value := .iface 264 (.agg #[.int .i64 why, .int .i64 at'])
theorem sp_nil (a : Addr) (w : World) : (binOp BinOp.eql 165 (.iface 31 (.pointer (some a))) .nilIface).run Tryz.prog w = .ok (.bool false) w := by kernel_rfl
section
variable {w : World} {S : Nat → Prop} {k q : Nat} {v : Vm} {l : Lg}
set_option maxRecDepth 100000 in
set_option maxHeartbeats 800000 in
theorem wk_fail (hW : WkAt w S k q l) (why a : Int) : Calls Tryz.prog 175 #[.pointer (some ⟨k, 0, none⟩), .int .i64 why, .int .i64 a] w fun e w' => e = .panicked [{ v := thrV why a, recovered := false }] ∧ w = w' := by
  obtain ⟨vl, hr, -⟩ := hW.row
  have c0 := hr.cell (j := 0) rfl
  unfold spV at c0
  have n0 := sp_nil
  clear hr hW
  go_enter Tryz.func175, Tryz.ntmps175
  go_wp2
  exact ⟨rfl, rfl, rfl⟩
theorem nil_store (n : Nat) (a : Addr) (w : World) : (nilAhead (n + 1) 31 (.pointer (some a)) "Store").run Tryz.prog w = .ok (some false) w := by kernel_rfl
theorem method_store (n : Nat) (a : Addr) (w : World) : (method (n + 1) 31 (.pointer (some a)) "Store").run Tryz.prog w = .ok (61, .pointer (some a)) w := by kernel_rfl
def WLoadEnd (w : World) (v : Vm) (a : Int) (e : Ending) (w' : World) : Prop := Gr w w' ∧ (v.ldE a = 0 → e = .returned (.int .u64 (v.ldV a : Nat))) ∧ (v.ldE a ≠ 0 → e = .panicked [{ v := thrV (v.ldE a) a, recovered := false }])
set_option maxRecDepth 100000 in
set_option maxHeartbeats 800000 in
theorem wk_load {S2 : Nat → Prop} (hW : WkAt w S k q l) (hV : VmAt w S2 q v) (a : Int) : Calls Tryz.prog 174 #[.pointer (some ⟨k, 0, none⟩), .int .i64 a] w (WLoadEnd w v a) := by
  have HW := hid hW
  have HL := hid (fun (w' : World) (g : Gr w w') => vm_load (hV.gr g) a)
  obtain ⟨vl, hr, -⟩ := hW.row
  have c0 := hr.cell (j := 0) rfl
  unfold spV at c0
  have n0 := sp_nil
  have n1 := nil_load
  have n2 := method_load
  clear hr hW hV
  by_cases h0 : v.ldE a = 0
  · have HE := hid h0
    rw [h0] at HL
    clear h0
    go_enter Tryz.func174, Tryz.ntmps174
    go_wp2_with (go_at_call 64; refine (HL.out _ (Gr.refl w)).mono ?_; rintro e w1 ⟨rfl, hg1⟩; have HG1 := hid hg1; clear hg1)
    go_ret
    exact ⟨HG1.out, fun _ => rfl, fun h => absurd HE.out h⟩
  · have HE := hid h0
    obtain ⟨y, hy⟩ : ∃ y, y = v.ldE a := ⟨_, rfl⟩
    have d2 : (y == 0) = false := by rw [hy]; simpa using h0
    rw [← hy] at HL
    have HY := hid hy
    clear h0 hy
    go_enter Tryz.func174, Tryz.ntmps174
    go_wp2_with (first
      | (go_at_call 64; refine (HL.out _ (Gr.refl w)).mono ?_; rintro e w1 ⟨rfl, hg1⟩; have HG1 := hid hg1; clear hg1)
      | (go_at_call 175; refine (wk_fail (HW.out.gr HG1.out) y a).mono ?_; rintro e w2 ⟨rfl, rfl⟩))
    exact ⟨rfl, HG1.out, fun h => absurd h HE.out, fun _ => by rw [← HY.out]⟩
/-- The memory that was, where the log is undone. -/
def undoL (v : Vm) (l : Lg) : Vm := l.foldr (fun x v => v.st x.1 x.2) v
theorem undoL_snoc (v : Vm) (l : Lg) (x : Int × Nat) : undoL v (l ++ [x]) = undoL (v.st x.1 x.2) l := by
  unfold undoL; rw [List.foldr_append]; rfl
theorem st_back {v : Vm} (h : VmOk v) {a : Int} (ha : v.ldE a = 0) (x : Nat) : (v.st a x).st a (v.ldV a) = v := by
  have e1 : v.st a x = { v with pl := { v.pl with wd := v.pl.wd.set (v.at a) x } } := if_pos ha
  have e2 : (v.st a x).ldE a = 0 := by rw [st_ldE]; exact ha
  have e3 : (v.st a x).st a (v.ldV a) = { v with pl := { v.pl with wd := (v.pl.wd.set (v.at a) x).set (v.at a) (v.ldV a) } } := by
    rw [e1] at e2 ⊢
    exact if_pos e2
  have e4 : v.ldV a = v.pl.wd.getD (v.at a) 0 := if_pos ha
  have hl := h.place_lt ha
  rw [e3, List.set_set, e4]
  have e5 : v.pl.wd.set (v.at a) (v.pl.wd.getD (v.at a) 0) = v.pl.wd := by
    rw [List.getD_eq_getElem?_getD, List.getElem?_eq_getElem hl, Option.getD_some, List.set_getElem_self]
  rw [e5]
def WStoreEnd (w : World) (S S2 : Nat → Prop) (k q : Nat) (v : Vm) (l : Lg) (a : Int) (x : Nat) (e : Ending) (w' : World) : Prop :=
  (v.ldE a ≠ 0 ∧ Gr w w' ∧ e = .panicked [{ v := thrV (v.ldE a) a, recovered := false }]) ∨
  (v.ldE a = 0 ∧ e = .returned (.tuple #[]) ∧ Touch (fun i => S i ∨ S2 i) w w' ∧ VmAt w' (cutS S2 w) q (v.st a x) ∧ WkAt w' (plus S w) k q (l ++ [(a, v.ldV a)]))
theorem infoOld : (Tryz.prog.info? 230).map (fun i => (i.zero, i.size, i.bytes)) = some (some (.agg #[.int .i64 0, .int .u64 0]), 2, 16) := by kernel_rfl
set_option maxRecDepth 100000 in
set_option maxHeartbeats 1600000 in
theorem wk_store {S2 : Nat → Prop} (hW : WkAt w S k q l) (hV : VmAt w S2 q v) (hd : ∀ i, S i → ¬ S2 i) (hl : l.length < 1048576) (a : Int) {x : Nat} (hx : x < 18446744073709551616) :
    Calls Tryz.prog 127 #[.pointer (some ⟨k, 0, none⟩), .int .i64 a, .int .u64 x] w (WStoreEnd w S S2 k q v l a x) := by
  have HW := hid hW
  have HV := hid hV
  have HX := hid hx
  have HD := hid hd
  obtain ⟨vl, hr, ho, hs⟩ := hW.row
  have c0 := hr.cell (j := 0) rfl
  unfold spV at c0
  have n0 := sp_nil
  have n1 := nil_store
  have n2 := method_store
  by_cases h0 : v.ldE a = 0
  · have HE := hid h0
    obtain ⟨A, c, rfl, hc1, hc2⟩ := own_shape ho
    unfold maxLen at hc2
    have HR := hid hr
    have HO := hid ho
    have HS := hid hs
    obtain ⟨N, hN⟩ : ∃ N, N = l.length := ⟨_, rfl⟩
    have HN := hid hN
    rw [← hN] at hl hc1
    obtain ⟨ii, hii, hi0, hi1, hi2⟩ := info_parts infoOld
    have hkl := hr.lt
    have hSk := hW.sk
    clear hr hW hV h0 ho hs hN hd
    go_enter Tryz.func127, Tryz.ntmps127
    go_wp2_with (first
      | (go_at_call 174; refine (wk_load HW.out HV.out a).mono ?_; rintro e w1 ⟨hg1, he, -⟩; obtain rfl := he HE.out; have k0 := (hg1.cell hkl 0).trans c0; have HG1 := hid hg1; clear hg1 he)
      | (go_at_call 61; refine (vm_store (HV.out.cut.gr HG1.out) a HX.out).mono ?_; rintro e w2 ⟨rfl, ht2, hv2⟩; rw [HE.out]; have HR2 := hid ((HR.out.gr HG1.out).touch ht2 (fun h => HD.out _ hSk h.1)); have d1 := HR2.out.cell (j := 1) rfl; have df := HR2.out.free 1; have HO2 := hid (own_touch (own_gr HO.out HG1.out) ht2 (fun g hg h => HD.out _ (HS.out g hg) h.1)); rw [← HN.out] at d1 HO2; have HT2 := hid ht2; have HV2 := hid hv2; clear ht2 hv2)
      | (at_builtin; refine wpList_append_lies _ rfl _ _ 223 rfl 0 230 ii _ 2 16 Tryz.underlying223 hii hi0 hi1 hi2 rfl (by decide) (.slice A N c) N (lgV l) rfl (HO2.out.alloc _) ⟨w2.heap.size, 0, none⟩ 1 1 [.int .i64 a, .int .u64 (v.ldV a : Nat)] rfl rfl (World.news_of_block (cs := #[.int .i64 a, .int .u64 (v.ldV a : Nat)]) (t := 230) (fr := (0, 0)) (heap_alloc_new w2 (.cells #[.int .i64 a, .int .u64 (v.ldV a : Nat)] 230))) (by simp [Value.oneCell']) (by omega) (by unfold maxLen; omega) (by omega) (Nat.zero_le _) (w2.heap.size + 1) (by simp) ?_; intro g3 c3 w3 hown3 hgrow3 hat3 hlt3; have t3 : Touch (fun k => (Value.slice A N c).ownBlock = some k) w2 w3 := (((Gr.refl _).alloc _).touch _).trans (grown_touch hgrow3 _ (fun k e _ => e)); have HR3 := hid (HR2.out.touch t3 (fun e => own_ne HO2.out HR2.out (by decide) e rfl rfl)); have d3 := HR3.out.cell (j := 1) rfl; have df3 := HR3.out.free 1; have HT3 := hid t3; have HO3 := hid hown3; have HA3 := hid (And.intro hat3 hlt3); clear hown3 hgrow3 hat3 hlt3 t3))
    refine bodyPost_end (results_none rfl _ _ _) rfl ?_
    have hsz1 := HG1.out.size
    have hsz2 := HT2.out.size
    have hA3 := HA3.out
    have hT : Touch (fun i => S i ∨ S2 i) w w3 := ((HG1.out.touch _).trans (HT2.out.mono (fun i _ hi => .inr hi.1))).trans (HT3.out.mono (fun i _ hi => .inl (HS.out i (by rw [← HN.out]; exact hi))))
    have hdk : ∀ i, cutS S2 w i → ¬ (Value.slice A N c).ownBlock = some i := fun i hi e => HD.out i (HS.out i (by rw [← HN.out]; exact e)) hi.1
    refine .inr ⟨HE.out, rfl, hT.setCell (a := ⟨k, 1, none⟩) (fun _ => .inl hSk) _, ?_, .inl hSk, by rw [List.length_append, ← HN.out]; simp; omega, fun y hy => (List.mem_append.1 hy).elim (HW.out.lv y) (fun h => by simp at h; subst h; exact HV.out.ok.ldV_lt a), .slice (some ⟨g3, 0, none⟩) (N + 1) c3, Rec.set HR3.out 1 _, ?_, fun g hg => ?_⟩
    · exact (HV2.out.touch HT3.out (fun i hi _ => hdk i hi)).touch ((Touch.refl (fun i => i = k) w3).setCell (a := ⟨k, 1, none⟩) (fun _ => rfl) _) (fun i hi _ e => by subst e; exact HD.out i hSk hi.1)
    · rw [List.length_append, ← HN.out, show lgV (l ++ [(a, v.ldV a)]) = lgV l ++ [.int .i64 a, .int .u64 (v.ldV a : Nat)] by unfold lgV; rw [List.flatMap_append]; rfl]
      exact own_set_other HO3.out _ (fun g hg => own_ne HO3.out HR3.out (by decide) hg rfl)
    · cases hg
      rcases hA3.1 with h | h
      · exact .inl (HS.out _ (by rw [← HN.out]; exact h))
      · right
        show w.heap.size ≤ g3
        omega
  · have HE := hid h0
    clear hr hW hV h0 ho hs hd
    go_enter Tryz.func127, Tryz.ntmps127
    go_wp2_with (go_at_call 174; refine (wk_load HW.out HV.out a).mono ?_; rintro e w1 ⟨hg1, -, he⟩; obtain rfl := he HE.out; have HG1 := hid hg1; clear hg1 he)
    exact ⟨rfl, .inl ⟨HE.out, HG1.out, rfl⟩⟩
theorem undoL_drop (v : Vm) {l : Lg} {j : Nat} (h : j < l.length) : undoL v (l.drop j) = (undoL v (l.drop (j + 1))).st l[j].1 l[j].2 := by
  rw [List.drop_eq_getElem_cons h]; rfl
theorem lgV_at {l : Lg} {j : Nat} (h : j < l.length) : (lgV l)[j * 2]? = some (.int .i64 l[j].1) ∧ (lgV l)[j * 2 + 1]? = some (.int .u64 (l[j].2 : Nat)) := by
  induction l generalizing j with
  | nil => exact absurd h (by simp)
  | cons x l ih =>
    have e : lgV (x :: l) = .int .i64 x.1 :: .int .u64 (x.2 : Nat) :: lgV l := rfl
    cases j with
    | zero => rw [e]; exact ⟨rfl, rfl⟩
    | succ j =>
      have := ih (j := j) (by simpa using h)
      rw [e, show (j + 1) * 2 = j * 2 + 1 + 1 by omega, show j * 2 + 1 + 1 + 1 = (j * 2 + 1) + 1 + 1 by omega]
      exact this
theorem own_clip0 {w : World} {E size : Nat} {A : Option Addr} {n c : Nat} {xs : List Value} (h : w.ownsRow 0 E size (.slice A n c) n xs) : w.ownsRow 0 E size (.slice A 0 c) 0 [] := by
  obtain ⟨h1, ⟨h, _⟩ | ⟨g, cap, cur, e1, e2, e3, e4, e5, e6, e7⟩⟩ := h
  · cases h; exact ⟨by simp, .inl ⟨rfl, rfl⟩⟩
  · simp only [Value.slice.injEq] at e1
    obtain ⟨rfl, -, rfl⟩ := e1
    exact ⟨by simp, .inr ⟨g, c, cur, rfl, e2, e3, Nat.zero_le _, e5, e6, by simp⟩⟩
def UndoEnd (w : World) (S S2 : Nat → Prop) (k q : Nat) (v : Vm) (l : Lg) (e : Ending) (w' : World) : Prop :=
  e = .returned (.tuple #[]) ∧ Touch (fun i => S i ∨ S2 i) w w' ∧ VmAt w' S2 q (undoL v l) ∧ WkAt w' S k q []
set_option maxRecDepth 100000 in
set_option maxHeartbeats 1600000 in
theorem wk_undo {S2 : Nat → Prop} (hW : WkAt w S k q l) (hV : VmAt w S2 q v) (hd : ∀ i, S i → ¬ S2 i) : Calls Tryz.prog 206 #[.pointer (some ⟨k, 0, none⟩), .int .i64 0] w (UndoEnd w S S2 k q v l) := by
  have HW := hid hW
  have HV := hid hV
  have HD := hid hd
  obtain ⟨vl, hr, ho, hs⟩ := hW.row
  obtain ⟨A, c, rfl, hc1, hc2⟩ := own_shape ho
  unfold maxLen at hc2
  have c1 := hr.cell (j := 1) rfl
  have HR := hid hr
  have HO := hid ho
  have HS := hid hs
  have hll := hW.ll
  obtain ⟨N, hN⟩ : ∃ N, N = l.length := ⟨_, rfl⟩
  have HN := hid hN
  rw [← hN] at c1 hc1 hll
  have hkl := hr.lt
  have hSk := hid hW.sk
  clear hr ho hs hW hV hd hN
  go_enter Tryz.func206, Tryz.ntmps206
  go_wp2
  go_loopw [4] (fun i wr => ∃ m : Nat, m ≤ N ∧ Hid (Touch S2 w wr) ∧ Hid (VmAt wr S2 q (undoL v (l.drop m))) ∧ i = .int .i64 ((m : Int) - 1)) (fun i _ => (intOf i + 1).toNat)
  case atStart => exact ⟨N, Nat.le_refl _, ⟨Touch.refl S2 w⟩, ⟨by rw [HN.out, List.drop_length]; exact HV.out⟩, by go_num⟩
  case round =>
    obtain ⟨m, hm, HT, HK, rfl⟩ := hrel
    have HR1 := hid (HR.out.touch HT.out (HD.out _ hSk.out))
    have HO1 := hid (own_touch HO.out HT.out (fun g hg h => HD.out _ (HS.out g hg) h))
    have e1 := HR1.out.cell (j := 1) rfl
    have ef := HR1.out.free 1
    rw [← HN.out] at e1
    clear c1
    by_cases hm0 : m = 0
    · subst hm0
      go_wp2
      refine bodyPost_end (results_none rfl _ _ _) rfl ?_
      have hdd : ∀ i, S2 i → i ≠ k := fun i hi e => HD.out k hSk.out (by rw [← e]; exact hi)
      refine ⟨rfl, (HT.out.mono (fun i _ hi => .inr hi)).setCell (a := ⟨k, 1, none⟩) (fun _ => .inl hSk.out) _, ?_, hSk.out, Nat.zero_le _, (fun x hx => by cases hx), .slice A 0 c, Rec.set HR1.out 1 _, ?_, fun g hg => HS.out g (by cases A with | none => cases hg | some a => exact hg)⟩
      · have := HK.out.touch ((Touch.refl (fun i => i = k) wr).setCell (a := ⟨k, 1, none⟩) (fun _ => rfl) (.slice A 0 c)) (fun i hi _ => hdd i hi)
        rw [List.drop_zero] at this
        exact this
      · exact own_set_other (own_clip0 HO1.out) _ (fun g hg => own_ne (own_clip0 HO1.out) HR1.out (by decide) hg rfl)
    · obtain ⟨j, rfl⟩ : ∃ j, m = j + 1 := ⟨m - 1, by omega⟩
      have hjl : j < l.length := by have := HN.out; omega
      have hUD := undoL_drop v hjl
      obtain ⟨g, c', e2, -, -, -, -⟩ := own_form HO1.out (by omega)
      simp only [Value.slice.injEq] at e2
      obtain ⟨rfl, -, rfl⟩ := e2
      have r1 := own_cell HO1.out (lgV_at hjl).1
      have r2 := own_cell HO1.out (lgV_at hjl).2
      have hxl := HW.out.lv _ (List.getElem_mem hjl)
      obtain ⟨⟨xa, xw⟩, hxe⟩ : ∃ x, x = l[j] := ⟨_, rfl⟩
      rw [← hxe] at r1 r2 hxl hUD
      have HXL := hid hxl
      have HUD := hid hUD
      have hgl := (own_lt HO1.out (g := g) rfl).2
      have n1 := nil_store
      have n2 := method_store
      have e0 := HR1.out.cell (j := 0) rfl
      unfold spV at e0
      have hkl1 := HR1.out.lt
      have KS : Hid (∀ W', Gr wr W' → W'.cell? ⟨k, 0, none⟩ = some (.iface 31 (.pointer (some ⟨q, 0, none⟩))) ∧ W'.cell? ⟨k, 1, none⟩ = some (.slice (some ⟨g, 0, none⟩) N c) ∧ W'.cell? ⟨g, j * 2, none⟩ = some (.int .i64 xa) ∧ W'.cell? ⟨g, j * 2 + 1, none⟩ = some (.int .u64 (xw : Nat))) :=
        ⟨fun W' h => ⟨(h.cell hkl1 0).trans e0, (h.cell hkl1 1).trans e1, (h.cell hgl _).trans r1, (h.cell hgl _).trans r2⟩⟩
      have hjN : (j : Int) < (N : Int) := by have := HN.out; omega
      clear hjl hUD r1 r2 hxl hxe hgl e0 e1 ef hkl1
      go_upto_region 3 with (fail)
      obtain ⟨Sx, hSx⟩ : ∃ Sx : World → Prop, Sx = fun W' => Gr wr W' := ⟨_, rfl⟩
      have x1 : ∀ p : Held Sx, p.w.cell? ⟨k, 0, none⟩ = some (.iface 31 (.pointer (some ⟨q, 0, none⟩))) := fun p => (KS.out _ (Held.get hSx p)).1
      have x2 : ∀ p : Held Sx, p.w.cell? ⟨k, 1, none⟩ = some (.slice (some ⟨g, 0, none⟩) N c) := fun p => (KS.out _ (Held.get hSx p)).2.1
      have x3 : ∀ p : Held Sx, p.w.cell? ⟨g, j * 2, none⟩ = some (.int .i64 xa) := fun p => (KS.out _ (Held.get hSx p)).2.2.1
      have x4 : ∀ p : Held Sx, p.w.cell? ⟨g, j * 2 + 1, none⟩ = some (.int .u64 (xw : Nat)) := fun p => (KS.out _ (Held.get hSx p)).2.2.2
      have hS0 : Sx wr.drew := by rw [hSx]; exact (Gr.refl wr).drew
      have inst : Inhabited (Held Sx) := ⟨⟨_, hS0⟩⟩
      clear hSx
      refine wp_region_mixS Sx 22 [([0, 1, 2, 3, 4, 5, 6, 7, 8, 9, 10, 11, 12, 13, 14, 15, 16, 17, 18, 19, 20, 21], 22)] [] (by kernel_rfl) (by kernel_rfl) hS0 ?_
      refine segs_step ?_
      simp only [opsAt, List.getElem?_cons_zero, List.getElem?_cons_succ]
      repeat (go_big_quiet_step (fail))
      refine wpQuiet_nil ?_
      go_wp2_with (go_at_call 61; refine (vm_store (HK.out.gr (Gr.refl wr).drew) xa HXL.out).mono ?_; rintro e w1 ⟨rfl, ht1, hv1⟩; have HT1 := hid ht1; have HV1 := hid hv1; clear ht1 hv1)
      refine ⟨.inl trivial, ?_⟩
      refine segs_end ?_
      refine wpQuiet_nil ?_
      refine NoPanic.normal ?_
      clear x1 x2 x3 x4 hS0 inst
      clear Sx
      go_wp2
      go_round
      case rel =>
        refine ⟨j, by omega, ⟨HT.out.trans (((Gr.refl wr).drew.touch _).trans HT1.out)⟩, ⟨?_⟩, by go_num⟩
        rw [HUD.out]
        exact HV1.out
      case measure => simp [intOf]
end
end Go.Proofs.YtbmidhlilafgeaaGreatDoor
end

section
namespace Go.Proofs.YtbmidhlilafgeaaGreatDoor
open Go.RowKit Word

section
variable {w : World} {S : Nat → Prop} {k q : Nat} {v : Vm} {l : Lg}
theorem tmps22 (x y z r : Value) : #[x, y, z] ++ ((Array.replicate 19 undef).setIfInBounds 3 r).setIfInBounds 0 r =
    #[x, y, z, r, undef, undef, r, undef, undef, undef, undef, undef, undef, undef, undef, undef, undef, undef, undef, undef, undef, undef] := by kernel_rfl
theorem part_idle (p2 p5 p4 : Addr) (w : World) : CallsD Tryz.prog 205 #[.pointer (some p2), .pointer (some p5), .pointer (some p4)] .returning w fun e u' w' => e = .returned (.tuple #[]) ∧ u' = .returning ∧ w' = w := by
  have hnil : ∀ w : World, (binOp BinOp.eql 20 .nilIface .nilIface).run Tryz.prog w = .ok (.bool true) w := fun _ => by kernel_rfl
  refine callsD_of_wpS Tryz.func205 rfl fun c₀ cs hu => ?_
  apply wpS_seq
  apply wpS_region
  simp [wpOpsS, go_sem, recoverD, hu, Tryz.ntmps205, Exit.thenS]
  rw [tmps22]
  refine wpS_of_wp ?_
  go_wp2
  refine ⟨rfl, .returning, ?_, _, results_none rfl _ _ _, rfl, rfl, rfl⟩
  cases c₀
  simp_all
def CaughtEnd (w : World) (S S2 : Nat → Prop) (b4 k q : Nat) (v : Vm) (l : Lg) (why a : Int) (w' : World) : Prop :=
  Touch (fun i => S i ∨ S2 i ∨ i = b4) w w' ∧ VmAt w' S2 q (undoL v l) ∧ WkAt w' S k q [] ∧ Rec w' b4 168 [.int .i64 why, .int .i64 a]
set_option maxRecDepth 100000 in
set_option maxHeartbeats 1600000 in
theorem part_caught {S2 : Nat → Prop} {b2 b5 b4 : Nat} (hW : WkAt w S k q l) (hV : VmAt w S2 q v) (hd : ∀ i, S i → ¬ S2 i) (why a : Int) (older : List PanicEntry)
    (r2 : w.cell? ⟨b2, 0, none⟩ = some (.pointer (some ⟨k, 0, none⟩))) (r5 : w.cell? ⟨b5, 0, none⟩ = some (.int .i64 0)) (r4 : Rec w b4 168 [.int .i64 0, .int .i64 0]) (n4 : ¬ S b4) (m4 : ¬ S2 b4) :
    CallsD Tryz.prog 205 #[.pointer (some ⟨b2, 0, none⟩), .pointer (some ⟨b5, 0, none⟩), .pointer (some ⟨b4, 0, none⟩)] (.panicking ({ v := thrV why a, recovered := false } :: older)) w fun e u' w' =>
      e = .returned (.tuple #[]) ∧ u' = .panicking ({ v := thrV why a, recovered := true } :: older) ∧ CaughtEnd w S S2 b4 k q v l why a w' := by
  have hta : ∀ (x y : Int) (w : World), (Instr.typeAssert (.iface 264 (.agg #[.int .i64 x, .int .i64 y])) 20 264 true).run Tryz.prog w = .ok (.tuple #[.agg #[.int .i64 x, .int .i64 y], .bool true]) w := fun _ _ _ => by kernel_rfl
  have hnn : ∀ (x : Value) (w : World), (binOp BinOp.eql 20 (.iface 264 x) .nilIface).run Tryz.prog w = .ok (.bool false) w := fun _ _ => by kernel_rfl
  have HW := hid hW
  have HV := hid hV
  have HD := hid hd
  clear hW hV hd
  refine callsD_of_wpS Tryz.func205 rfl fun c₀ cs hu => ?_
  apply wpS_seq
  apply wpS_region
  unfold thrV at hu ⊢
  simp [wpOpsS, go_sem, recoverD, hu, Tryz.ntmps205, Exit.thenS]
  rw [tmps22]
  refine wpS_of_wp ?_
  go_wp2_with (go_at_call 206; refine (wk_undo HW.out HV.out HD.out).mono ?_; rintro e w1 ⟨rfl, ht1, hv1, hw1⟩; have HR1 := hid (r4.touch ht1 (fun h => h.elim n4 m4)); have d0 := HR1.out.cell (j := 0) rfl; have d1 := HR1.out.cell (j := 1) rfl; have df := HR1.out.free; have hb4 := HR1.out.lt; have HT1 := hid ht1; have HV1 := hid hv1; have HW1 := hid hw1; clear ht1 hv1 hw1)
  have hbl := HR1.out.lt
  have hdk : ∀ i, S2 i → i ≠ b4 := fun i hi e => m4 (by rw [← e]; exact hi)
  have hds : ∀ i, S i → i ≠ b4 := fun i hi e => n4 (by rw [← e]; exact hi)
  have hT := ((Touch.refl (fun i => i = b4) w1).setCell (a := ⟨b4, 0, none⟩) (fun _ => rfl) (.int .i64 why)).setCell (a := ⟨b4, 1, none⟩) (fun _ => rfl) (.int .i64 a)
  have hTA : Touch (fun i => S i ∨ S2 i ∨ i = b4) w _ := (HT1.out.mono (fun i _ hi => hi.elim Or.inl (fun h => Or.inr (Or.inl h)))).trans (hT.mono (fun i _ hi => Or.inr (Or.inr hi)))
  refine ⟨rfl, _, rfl, _, results_none rfl _ _ _, rfl, rfl, ?_⟩
  exact ⟨hTA.alloc _, (HV1.out.touch hT (fun i hi _ => hdk i hi)).gr ((Gr.refl _).alloc _), (HW1.out.touch hT (fun i hi _ => hds i hi)).gr ((Gr.refl _).alloc _), Rec.gr (Rec.set (Rec.set HR1.out 0 _) 1 _) ((Gr.refl _).alloc _)⟩
end
end Go.Proofs.YtbmidhlilafgeaaGreatDoor
end

section
namespace Go.Proofs.YtbmidhlilafgeaaGreatDoor
open Go.RowKit Word

/-- How a piece of work ends. -/
def BodyEnd (q k b4 : Nat) (Sx : Nat → Prop) (w0 : World) (G : World → Prop) (H : Int → Int → Vm → Lg → (Nat → Prop) → (Nat → Prop) → World → Prop) (e : Ending) (w1 : World) : Prop :=
  Touch Sx w0 w1 ∧ ((e = .returned (.tuple #[]) ∧ G w1) ∨
    ∃ why a v l S S2, e = .panicked [{ v := thrV why a, recovered := false }] ∧ WkAt w1 S k q l ∧ VmAt w1 S2 q v ∧ (∀ i, S i → ¬ S2 i) ∧ ¬ S b4 ∧ ¬ S2 b4 ∧ H why a v l S S2 w1)
section
variable {w : World} {S : Nat → Prop} {k q : Nat} {v : Vm} {l : Lg}
/-- The world that the piece of work starts from. -/
def partW (w : World) (k : Nat) : World := ((w.alloc (.cells #[.pointer (some ⟨k, 0, none⟩)] 170)).alloc (.cells #[.int .i64 0, .int .i64 0] 168)).alloc (.cells #[.int .i64 0] 3)
def PartEnd (w : World) (k q : Nat) (Sx : Nat → Prop) (G : World → Prop) (H : Int → Int → Vm → Lg → (Nat → Prop) → (Nat → Prop) → World → Prop) (e : Ending) (w' : World) : Prop :=
  ∃ w1, Touch Sx (partW w k) w1 ∧ ((G w1 ∧ e = .returned (.agg #[.int .i64 0, .int .i64 0]) ∧ w' = (w1.setCell ⟨w.heap.size + 1, 0, none⟩ (.int .i64 0)).setCell ⟨w.heap.size + 1, 1, none⟩ (.int .i64 0)) ∨
    ∃ why a v l S S2, H why a v l S S2 w1 ∧ e = .returned (.agg #[.int .i64 why, .int .i64 a]) ∧ CaughtEnd w1 S S2 (w.heap.size + 1) k q v l why a w')
theorem load_fault (W : World) (blk : Nat) (p q : Value) (h0 : W.cell? ⟨blk, 0, none⟩ = some p) (h1 : W.cell? ⟨blk, 1, none⟩ = some q) : (loadVar 168 ⟨blk, 0, none⟩).run Tryz.prog W = .ok (.agg #[p, q]) W := by
  have a1 : (isAgg 168).run Tryz.prog W = .ok true W := by kernel_rfl
  have a2 : (sizeOf 168).run Tryz.prog W = .ok 2 W := by kernel_rfl
  simp [loadVar, Sem.run_bind, a1, a2, Result.andThen, loadCells, go_sem, h0, h1]
set_option maxRecDepth 100000 in
set_option maxHeartbeats 1600000 in
theorem wk_part {F : Nat} {caps : Array Value} {Sx : Nat → Prop} {G : World → Prop} {H : Int → Int → Vm → Lg → (Nat → Prop) → (Nat → Prop) → World → Prop}
    (hcf : ∀ args w, (callFunc F args).run Tryz.prog w = .ok (.enter F args) w) (hW : WkAt w S k q []) (hF : Calls Tryz.prog F (#[.pointer (some ⟨k, 0, none⟩)] ++ caps) (partW w k) (BodyEnd q k (w.heap.size + 1) Sx (partW w k) G H)) (hx : ∀ i, w.heap.size ≤ i → i ≤ w.heap.size + 2 → ¬ Sx i) :
    Calls Tryz.prog 173 #[.pointer (some ⟨k, 0, none⟩), .func (.func F) #[] caps] w (PartEnd w k q Sx G H) := by
  have hmf : ∀ (fn : Fn) (first cap : Array Value) (w : World), (Instr.makeFunc fn first cap).run Tryz.prog w = .ok (.func fn first cap) w := fun _ _ _ _ => rfl
  obtain ⟨vl, hr, ho, -⟩ := hW.row
  obtain ⟨A, c, rfl, hc1, hc2⟩ := own_shape ho
  have c1 := hr.cell (j := 1) rfl
  have hkl := hr.lt
  clear hr ho
  go_enter_defers Tryz.func173, Tryz.ntmps173
  have r2 : Rec (partW w k) w.heap.size 170 [.pointer (some ⟨k, 0, none⟩)] := Rec.gr (Rec.gr (Rec.new w _ _) ((Gr.refl _).alloc _)) ((Gr.refl _).alloc _)
  have r4 : Rec (partW w k) (w.heap.size + 1) 168 [.int .i64 0, .int .i64 0] := by
    have := Rec.gr (Rec.new (w.alloc (.cells #[.pointer (some ⟨k, 0, none⟩)] 170)) 168 [.int .i64 0, .int .i64 0]) ((Gr.refl _).alloc (.cells #[.int .i64 0] 3))
    rw [World.size_alloc] at this
    exact this
  have r5 : Rec (partW w k) (w.heap.size + 1 + 1) 3 [.int .i64 0] := by
    have := Rec.new ((w.alloc (.cells #[.pointer (some ⟨k, 0, none⟩)] 170)).alloc (.cells #[.int .i64 0, .int .i64 0] 168)) 3 [.int .i64 0]
    rw [World.size_alloc, World.size_alloc] at this
    exact this
  have HR2 := hid r2
  have HR4 := hid r4
  have HR5 := hid r5
  clear r2 r4 r5
  go_wp2
  refine hF.mono ?_
  rintro e w1 ⟨ht1, he⟩
  have q2 := HR2.out.touch ht1 (hx _ (Nat.le_refl _) (by omega))
  have q4 := HR4.out.touch ht1 (hx _ (by omega) (by omega))
  have q5 := HR5.out.touch ht1 (hx _ (by omega) (by omega))
  have hT1 := hid ht1
  rcases he with ⟨rfl, hg1⟩ | ⟨why, a, v, l, S', S2, rfl, hw1, hv1, hd1, n4, m4, hh1⟩
  · have HG := hid hg1
    have k0 := q4.cell (j := 0) rfl
    have k1 := q4.cell (j := 1) rfl
    have kf := q4.free
    have HQ4 := hid q4
    clear q2 q4 q5 ht1 hF hx hg1
    go_wp2
    have R6 := Rec.set (Rec.set HQ4.out 0 (.int .i64 0)) 1 (.int .i64 0)
    refine leaves_cons (f := 205) (args := #[.pointer (some ⟨w.heap.size, 0, none⟩), .pointer (some ⟨w.heap.size + 1 + 1, 0, none⟩), .pointer (some ⟨w.heap.size + 1, 0, none⟩)]) (by simp) (by simp [go_sem]) ?_
    refine (part_idle _ _ _ _).mono ?_
    rintro e u' w2 ⟨rfl, rfl, rfl⟩
    have hl := load_fault _ (w.heap.size + 1) _ _ (R6.cell (j := 0) rfl) (R6.cell (j := 1) rfl)
    simp only [Leaves, settle]
    refine ⟨_, ?_, w1, hT1.out, .inl ⟨HG.out, rfl, rfl⟩⟩
    simp [results, Tryz.results173, asAddr, hl]
  · have HW1 := hid hw1
    have HV1 := hid hv1
    have HD1 := hid hd1
    have HH := hid hh1
    have HN := hid (And.intro n4 m4)
    have k2 := q2.cell (j := 0) rfl
    have k5 := q5.cell (j := 0) rfl
    have HQ4 := hid q4
    clear q2 q4 q5 ht1 hF hx hw1 hv1 hd1 hh1 n4 m4
    go_wp2
    refine leaves_cons (f := 205) (args := #[.pointer (some ⟨w.heap.size, 0, none⟩), .pointer (some ⟨w.heap.size + 1 + 1, 0, none⟩), .pointer (some ⟨w.heap.size + 1, 0, none⟩)]) (by simp) (by simp [go_sem]) ?_
    refine (part_caught HW1.out HV1.out HD1.out why a [] k2 k5 HQ4.out HN.out.1 HN.out.2).mono ?_
    rintro e u' w2 ⟨rfl, rfl, hc⟩
    have hl := load_fault _ (w.heap.size + 1) _ _ (hc.2.2.2.cell (j := 0) rfl) (hc.2.2.2.cell (j := 1) rfl)
    simp only [settle, List.dropWhile_nil, Leaves]
    refine ⟨_, ?_, w1, hT1.out, .inr ⟨why, a, v, l, S', S2, HH.out, rfl, hc⟩⟩
    simp [results, Tryz.results173, asAddr, hl]
/-- Run: the same, with a Work of its own. -/
def runW (w : World) (q : Nat) : World := (w.alloc (.cells #[.int .i64 0, .int .i64 0] 168)).alloc (.cells #[spV q, .slice none 0 0] 225)
theorem wk_new (w : World) (q : Nat) : WkAt (runW w q) (fun i => i = w.heap.size + 1) (w.heap.size + 1) q [] := by
  have := Rec.new (w.alloc (.cells #[.int .i64 0, .int .i64 0] 168)) 225 [spV q, .slice none 0 0]
  rw [World.size_alloc] at this
  exact ⟨rfl, Nat.zero_le _, (fun x hx => by cases hx), .slice none 0 0, this, own_nil _ _ _ _, (fun g hg => by cases hg)⟩
def TRunEnd (w : World) (q : Nat) (Sx : Nat → Prop) (G : World → Prop) (H : Int → Int → Vm → Lg → (Nat → Prop) → (Nat → Prop) → World → Prop) (e : Ending) (w' : World) : Prop :=
  ∃ w2, ∃ x y, PartEnd (runW w q) (w.heap.size + 1) q Sx G H (.returned (.agg #[.int .i64 x, .int .i64 y])) w2 ∧ e = .returned (.agg #[.int .i64 x, .int .i64 y]) ∧ w' = (w2.setCell ⟨w.heap.size, 0, none⟩ (.int .i64 x)).setCell ⟨w.heap.size, 1, none⟩ (.int .i64 y)
set_option maxRecDepth 100000 in
set_option maxHeartbeats 1600000 in
theorem trap_run {F : Nat} {caps : Array Value} {Sx : Nat → Prop} {G : World → Prop} {H : Int → Int → Vm → Lg → (Nat → Prop) → (Nat → Prop) → World → Prop}
    (hcf : ∀ args w, (callFunc F args).run Tryz.prog w = .ok (.enter F args) w)
    (hF : Calls Tryz.prog F (#[.pointer (some ⟨w.heap.size + 1, 0, none⟩)] ++ caps) (partW (runW w q) (w.heap.size + 1)) (BodyEnd q (w.heap.size + 1) (w.heap.size + 3) Sx (partW (runW w q) (w.heap.size + 1)) G H))
    (hx : ∀ i, w.heap.size + 2 ≤ i → i ≤ w.heap.size + 4 → ¬ Sx i) (hx0 : ¬ Sx w.heap.size) (hH : ∀ why a v l S S2 w1, H why a v l S S2 w1 → ¬ S w.heap.size ∧ ¬ S2 w.heap.size) :
    Calls Tryz.prog 125 #[spV q, .func (.func F) #[] caps] w (TRunEnd w q Sx G H) := by
  have hsz : (runW w q).heap.size = w.heap.size + 2 := by unfold runW; rw [World.size_alloc, World.size_alloc]
  have HP := hid (wk_part (k := w.heap.size + 1) (w := runW w q) (Sx := Sx) (G := G) (H := H) hcf (wk_new w q) (by rw [hsz]; exact hF) (by rw [hsz]; exact fun i h1 h2 => hx i h1 (by omega)))
  have HR0 := hid (Rec.gr (Rec.new w 168 [.int .i64 0, .int .i64 0]) ((Gr.refl _).alloc (.cells #[spV q, .slice none 0 0] 225)))
  have HPE : Hid (∀ e w', PartEnd (runW w q) (w.heap.size + 1) q Sx G H e w' → ∃ x y, e = .returned (.agg #[.int .i64 x, .int .i64 y]) ∧ Rec w' w.heap.size 168 [.int .i64 0, .int .i64 0]) := ⟨by
    rintro e w' ⟨w1, t1, h⟩
    have r0 : Rec (partW (runW w q) (w.heap.size + 1)) w.heap.size 168 [.int .i64 0, .int .i64 0] := HR0.out.gr (((((Gr.refl _).alloc _).alloc _).alloc _))
    have r1 := r0.touch t1 hx0
    rw [hsz] at h
    rcases h with ⟨-, rfl, rfl⟩ | ⟨why, a, v, l, S, S2, hh, rfl, hc⟩
    · exact ⟨0, 0, rfl, own_set_other (own_set_other r1 _ (fun g hg => by cases hg; show w.heap.size ≠ w.heap.size + 2 + 1; omega)) _ (fun g hg => by cases hg; show w.heap.size ≠ w.heap.size + 2 + 1; omega)⟩
    · obtain ⟨n1, n2⟩ := hH _ _ _ _ _ _ _ hh
      exact ⟨why, a, rfl, r1.touch hc.1 (fun h => by rcases h with h | h | h; exact n1 h; exact n2 h; omega)⟩⟩
  unfold spV at HP HPE HR0 ⊢
  clear hF hx hx0 hH hcf hsz
  go_enter Tryz.func125, Tryz.ntmps125
  go_wp2_with (go_at_call 173; refine HP.out.mono ?_; intro e w2 hpe; obtain ⟨x, y, rfl, hr2⟩ := HPE.out _ _ hpe; have k0 := hr2.cell (j := 0) rfl; have k1 := hr2.cell (j := 1) rfl; have kf := hr2.free; have HR2 := hid hr2; have HQ := hid hpe; clear hpe hr2)
  have R3 := Rec.set (Rec.set HR2.out 0 (.int .i64 x)) 1 (.int .i64 y)
  have hl := load_fault _ w.heap.size _ _ (R3.cell (j := 0) rfl) (R3.cell (j := 1) rfl)
  refine bodyPost_ret (v := .agg #[.int .i64 x, .int .i64 y]) ?_ rfl ⟨w2, x, y, HQ.out, rfl, rfl⟩
  simp [results, Tryz.results125, asAddr, hl]
end
end Go.Proofs.YtbmidhlilafgeaaGreatDoor
end
