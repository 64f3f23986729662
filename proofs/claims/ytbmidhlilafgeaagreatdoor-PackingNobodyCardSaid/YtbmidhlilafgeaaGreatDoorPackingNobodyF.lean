/- Part 6 of what PackingNobody leans on: my own lemmas, merged by shake.py. -/
import Derived.Test.YtbmidhlilafgeaaGreatDoorPackingNobodyE
import Derived.Defers
import Derived.Recover
import Derived.Laws.Pointers
import Derived.Maps.OwnSet
section
section
namespace Go.Proofs.YtbmidhlilafgeaaGreatDoor
open Go.RowKit Word

/-- What stood at addresses. -/
abbrev Lg := List (Int × Nat)
def lgV (l : Lg) : List Value := l.flatMap fun x => [.int .i64 x.1, .int .u64 (x.2 : Nat)]
/-- A piece of work k on the memory q, with its log. -/
structure WkAt (w : World) (S : Nat → Prop) (k q : Nat) (l : Lg) : Prop where
  sk : S k
  ll : l.length ≤ 1048576
  lv : ∀ x ∈ l, x.2 < 18446744073709551616
  row : ∃ vl, Rec w k 225 [spV q, vl] ∧ w.ownsRow 0 230 2 vl l.length (lgV l) ∧ ∀ g, vl.ownBlock = some g → S g
theorem WkAt.touch {S T : Nat → Prop} {w w' : World} {k q : Nat} {l : Lg} (h : WkAt w S k q l) (t : Touch T w w') (hS : ∀ k, S k → k < w.heap.size → ¬ T k) : WkAt w' S k q l := by
  obtain ⟨h1, h2, h3, vl, hr, ho, hs⟩ := h
  exact ⟨h1, h2, h3, vl, hr.touch t (hS _ h1 hr.lt), own_touch ho t (fun g hg => hS g (hs g hg) (own_lt ho hg).2), hs⟩
theorem WkAt.gr {S : Nat → Prop} {w w' : World} {k q : Nat} {l : Lg} (h : WkAt w S k q l) (t : Gr w w') : WkAt w' S k q l := h.touch (t.touch (fun _ => False)) (fun _ _ _ h => h)
theorem WkAt.mono {S T : Nat → Prop} {w : World} {k q : Nat} {l : Lg} (h : WkAt w S k q l) (hT : ∀ k, S k → T k) : WkAt w T k q l := by
  obtain ⟨h1, h2, h3, vl, hr, ho, hs⟩ := h
  exact ⟨hT _ h1, h2, h3, vl, hr, ho, fun g hg => hT g (hs g hg)⟩
/-- A thrown fault. -/
def thrV (why at' : Int) : Value := .iface 264 (.agg #[.int .i64 why, .int .i64 at'])
theorem sp_nil (a : Addr) (w : World) : (binOp BinOp.eql 165 (.iface 31 (.pointer (some a))) .nilIface).run Tryz.prog w = .ok (.bool false) w := by kernel_rfl
section
variable {w : World} {S : Nat → Prop} {k q : Nat} {v : Vm} {l : Lg}
set_option maxRecDepth 100000 in
set_option maxHeartbeats 800000 in
theorem wk_fail (hW : WkAt w S k q l) (why a : Int) : Calls Tryz.prog 175 #[.pointer (some ⟨k, 0, none⟩), .int .i64 why, .int .i64 a] w fun e w' => e = .panicked [{ v := thrV why a, recovered := false }] ∧ w = w' := by
  obtain ⟨vl, hr, -⟩ := hW.row
  have c0 := hr.cell (j := 0) rfl
  unfold spV at c0
  have n0 := sp_nil
  clear hr hW
  go_enter Tryz.func175, Tryz.ntmps175
  go_wp2
  exact ⟨rfl, rfl, rfl⟩
theorem nil_store (n : Nat) (a : Addr) (w : World) : (nilAhead (n + 1) 31 (.pointer (some a)) "Store").run Tryz.prog w = .ok (some false) w := by kernel_rfl
theorem method_store (n : Nat) (a : Addr) (w : World) : (method (n + 1) 31 (.pointer (some a)) "Store").run Tryz.prog w = .ok (61, .pointer (some a)) w := by kernel_rfl
def WLoadEnd (w : World) (v : Vm) (a : Int) (e : Ending) (w' : World) : Prop := Gr w w' ∧ (v.ldE a = 0 → e = .returned (.int .u64 (v.ldV a : Nat))) ∧ (v.ldE a ≠ 0 → e = .panicked [{ v := thrV (v.ldE a) a, recovered := false }])
set_option maxRecDepth 100000 in
set_option maxHeartbeats 800000 in
theorem wk_load {S2 : Nat → Prop} (hW : WkAt w S k q l) (hV : VmAt w S2 q v) (a : Int) : Calls Tryz.prog 174 #[.pointer (some ⟨k, 0, none⟩), .int .i64 a] w (WLoadEnd w v a) := by
  have HW := hid hW
  have HL := hid (fun (w' : World) (g : Gr w w') => vm_load (hV.gr g) a)
  obtain ⟨vl, hr, -⟩ := hW.row
  have c0 := hr.cell (j := 0) rfl
  unfold spV at c0
  have n0 := sp_nil
  have n1 := nil_load
  have n2 := method_load
  clear hr hW hV
  by_cases h0 : v.ldE a = 0
  · have HE := hid h0
    rw [h0] at HL
    clear h0
    go_enter Tryz.func174, Tryz.ntmps174
    go_wp2_with (go_at_call 64; refine (HL.out _ (Gr.refl w)).mono ?_; rintro e w1 ⟨rfl, hg1⟩; have HG1 := hid hg1; clear hg1)
    go_ret
    exact ⟨HG1.out, fun _ => rfl, fun h => absurd HE.out h⟩
  · have HE := hid h0
    obtain ⟨y, hy⟩ : ∃ y, y = v.ldE a := ⟨_, rfl⟩
    have d2 : (y == 0) = false := by rw [hy]; simpa using h0
    rw [← hy] at HL
    have HY := hid hy
    clear h0 hy
    go_enter Tryz.func174, Tryz.ntmps174
    go_wp2_with (first
      | (go_at_call 64; refine (HL.out _ (Gr.refl w)).mono ?_; rintro e w1 ⟨rfl, hg1⟩; have HG1 := hid hg1; clear hg1)
      | (go_at_call 175; refine (wk_fail (HW.out.gr HG1.out) y a).mono ?_; rintro e w2 ⟨rfl, rfl⟩))
    exact ⟨rfl, HG1.out, fun h => absurd h HE.out, fun _ => by rw [← HY.out]⟩
/-- The memory that was, where the log is undone. -/
def undoL (v : Vm) (l : Lg) : Vm := l.foldr (fun x v => v.st x.1 x.2) v
theorem undoL_snoc (v : Vm) (l : Lg) (x : Int × Nat) : undoL v (l ++ [x]) = undoL (v.st x.1 x.2) l := by
  unfold undoL; rw [List.foldr_append]; rfl
theorem st_back {v : Vm} (h : VmOk v) {a : Int} (ha : v.ldE a = 0) (x : Nat) : (v.st a x).st a (v.ldV a) = v := by
  have e1 : v.st a x = { v with pl := { v.pl with wd := v.pl.wd.set (v.at a) x } } := if_pos ha
  have e2 : (v.st a x).ldE a = 0 := by rw [st_ldE]; exact ha
  have e3 : (v.st a x).st a (v.ldV a) = { v with pl := { v.pl with wd := (v.pl.wd.set (v.at a) x).set (v.at a) (v.ldV a) } } := by
    rw [e1] at e2 ⊢
    exact if_pos e2
  have e4 : v.ldV a = v.pl.wd.getD (v.at a) 0 := if_pos ha
  have hl := h.place_lt ha
  rw [e3, List.set_set, e4]
  have e5 : v.pl.wd.set (v.at a) (v.pl.wd.getD (v.at a) 0) = v.pl.wd := by
    rw [List.getD_eq_getElem?_getD, List.getElem?_eq_getElem hl, Option.getD_some, List.set_getElem_self]
  rw [e5]
def WStoreEnd (w : World) (S S2 : Nat → Prop) (k q : Nat) (v : Vm) (l : Lg) (a : Int) (x : Nat) (e : Ending) (w' : World) : Prop :=
  (v.ldE a ≠ 0 ∧ Gr w w' ∧ e = .panicked [{ v := thrV (v.ldE a) a, recovered := false }]) ∨
  (v.ldE a = 0 ∧ e = .returned (.tuple #[]) ∧ Touch (fun i => S i ∨ S2 i) w w' ∧ VmAt w' (cutS S2 w) q (v.st a x) ∧ WkAt w' (plus S w) k q (l ++ [(a, v.ldV a)]))
theorem infoOld : (Tryz.prog.info? 230).map (fun i => (i.zero, i.size, i.bytes)) = some (some (.agg #[.int .i64 0, .int .u64 0]), 2, 16) := by kernel_rfl
set_option maxRecDepth 100000 in
set_option maxHeartbeats 1600000 in
theorem wk_store {S2 : Nat → Prop} (hW : WkAt w S k q l) (hV : VmAt w S2 q v) (hd : ∀ i, S i → ¬ S2 i) (hl : l.length < 1048576) (a : Int) {x : Nat} (hx : x < 18446744073709551616) :
    Calls Tryz.prog 127 #[.pointer (some ⟨k, 0, none⟩), .int .i64 a, .int .u64 x] w (WStoreEnd w S S2 k q v l a x) := by
  have HW := hid hW
  have HV := hid hV
  have HX := hid hx
  have HD := hid hd
  obtain ⟨vl, hr, ho, hs⟩ := hW.row
  have c0 := hr.cell (j := 0) rfl
  unfold spV at c0
  have n0 := sp_nil
  have n1 := nil_store
  have n2 := method_store
  by_cases h0 : v.ldE a = 0
  · have HE := hid h0
    obtain ⟨A, c, rfl, hc1, hc2⟩ := own_shape ho
    unfold maxLen at hc2
    have HR := hid hr
    have HO := hid ho
    have HS := hid hs
    obtain ⟨N, hN⟩ : ∃ N, N = l.length := ⟨_, rfl⟩
    have HN := hid hN
    rw [← hN] at hl hc1
    obtain ⟨ii, hii, hi0, hi1, hi2⟩ := info_parts infoOld
    have hkl := hr.lt
    have hSk := hW.sk
    clear hr hW hV h0 ho hs hN hd
    go_enter Tryz.func127, Tryz.ntmps127
    go_wp2_with (first
      | (go_at_call 174; refine (wk_load HW.out HV.out a).mono ?_; rintro e w1 ⟨hg1, he, -⟩; obtain rfl := he HE.out; have k0 := (hg1.cell hkl 0).trans c0; have HG1 := hid hg1; clear hg1 he)
      | (go_at_call 61; refine (vm_store (HV.out.cut.gr HG1.out) a HX.out).mono ?_; rintro e w2 ⟨rfl, ht2, hv2⟩; rw [HE.out]; have HR2 := hid ((HR.out.gr HG1.out).touch ht2 (fun h => HD.out _ hSk h.1)); have d1 := HR2.out.cell (j := 1) rfl; have df := HR2.out.free 1; have HO2 := hid (own_touch (own_gr HO.out HG1.out) ht2 (fun g hg h => HD.out _ (HS.out g hg) h.1)); rw [← HN.out] at d1 HO2; have HT2 := hid ht2; have HV2 := hid hv2; clear ht2 hv2)
      | (at_builtin; refine wpList_append_lies _ rfl _ _ 223 rfl 0 230 ii _ 2 16 Tryz.underlying223 hii hi0 hi1 hi2 rfl (by decide) (.slice A N c) N (lgV l) rfl (HO2.out.alloc _) ⟨w2.heap.size, 0, none⟩ 1 1 [.int .i64 a, .int .u64 (v.ldV a : Nat)] rfl rfl (World.news_of_block (cs := #[.int .i64 a, .int .u64 (v.ldV a : Nat)]) (t := 230) (fr := (0, 0)) (heap_alloc_new w2 (.cells #[.int .i64 a, .int .u64 (v.ldV a : Nat)] 230))) (by simp [Value.oneCell']) (by omega) (by unfold maxLen; omega) (by omega) (Nat.zero_le _) (w2.heap.size + 1) (by simp) ?_; intro g3 c3 w3 hown3 hgrow3 hat3 hlt3; have t3 : Touch (fun k => (Value.slice A N c).ownBlock = some k) w2 w3 := (((Gr.refl _).alloc _).touch _).trans (grown_touch hgrow3 _ (fun k e _ => e)); have HR3 := hid (HR2.out.touch t3 (fun e => own_ne HO2.out HR2.out (by decide) e rfl rfl)); have d3 := HR3.out.cell (j := 1) rfl; have df3 := HR3.out.free 1; have HT3 := hid t3; have HO3 := hid hown3; have HA3 := hid (And.intro hat3 hlt3); clear hown3 hgrow3 hat3 hlt3 t3))
    refine bodyPost_end (results_none rfl _ _ _) rfl ?_
    have hsz1 := HG1.out.size
    have hsz2 := HT2.out.size
    have hA3 := HA3.out
    have hT : Touch (fun i => S i ∨ S2 i) w w3 := ((HG1.out.touch _).trans (HT2.out.mono (fun i _ hi => .inr hi.1))).trans (HT3.out.mono (fun i _ hi => .inl (HS.out i (by rw [← HN.out]; exact hi))))
    have hdk : ∀ i, cutS S2 w i → ¬ (Value.slice A N c).ownBlock = some i := fun i hi e => HD.out i (HS.out i (by rw [← HN.out]; exact e)) hi.1
    refine .inr ⟨HE.out, rfl, hT.setCell (a := ⟨k, 1, none⟩) (fun _ => .inl hSk) _, ?_, .inl hSk, by rw [List.length_append, ← HN.out]; simp; omega, fun y hy => (List.mem_append.1 hy).elim (HW.out.lv y) (fun h => by simp at h; subst h; exact HV.out.ok.ldV_lt a), .slice (some ⟨g3, 0, none⟩) (N + 1) c3, Rec.set HR3.out 1 _, ?_, fun g hg => ?_⟩
    · exact (HV2.out.touch HT3.out (fun i hi _ => hdk i hi)).touch ((Touch.refl (fun i => i = k) w3).setCell (a := ⟨k, 1, none⟩) (fun _ => rfl) _) (fun i hi _ e => by subst e; exact HD.out i hSk hi.1)
    · rw [List.length_append, ← HN.out, show lgV (l ++ [(a, v.ldV a)]) = lgV l ++ [.int .i64 a, .int .u64 (v.ldV a : Nat)] by unfold lgV; rw [List.flatMap_append]; rfl]
      exact own_set_other HO3.out _ (fun g hg => own_ne HO3.out HR3.out (by decide) hg rfl)
    · cases hg
      rcases hA3.1 with h | h
      · exact .inl (HS.out _ (by rw [← HN.out]; exact h))
      · right
        show w.heap.size ≤ g3
        omega
  · have HE := hid h0
    clear hr hW hV h0 ho hs hd
    go_enter Tryz.func127, Tryz.ntmps127
    go_wp2_with (go_at_call 174; refine (wk_load HW.out HV.out a).mono ?_; rintro e w1 ⟨hg1, -, he⟩; obtain rfl := he HE.out; have HG1 := hid hg1; clear hg1 he)
    exact ⟨rfl, .inl ⟨HE.out, HG1.out, rfl⟩⟩
theorem undoL_drop (v : Vm) {l : Lg} {j : Nat} (h : j < l.length) : undoL v (l.drop j) = (undoL v (l.drop (j + 1))).st l[j].1 l[j].2 := by
  rw [List.drop_eq_getElem_cons h]; rfl
theorem lgV_at {l : Lg} {j : Nat} (h : j < l.length) : (lgV l)[j * 2]? = some (.int .i64 l[j].1) ∧ (lgV l)[j * 2 + 1]? = some (.int .u64 (l[j].2 : Nat)) := by
  induction l generalizing j with
  | nil => exact absurd h (by simp)
  | cons x l ih =>
    have e : lgV (x :: l) = .int .i64 x.1 :: .int .u64 (x.2 : Nat) :: lgV l := rfl
    cases j with
    | zero => rw [e]; exact ⟨rfl, rfl⟩
    | succ j =>
      have := ih (j := j) (by simpa using h)
      rw [e, show (j + 1) * 2 = j * 2 + 1 + 1 by omega, show j * 2 + 1 + 1 + 1 = (j * 2 + 1) + 1 + 1 by omega]
      exact this
theorem own_clip0 {w : World} {E size : Nat} {A : Option Addr} {n c : Nat} {xs : List Value} (h : w.ownsRow 0 E size (.slice A n c) n xs) : w.ownsRow 0 E size (.slice A 0 c) 0 [] := by
  obtain ⟨h1, ⟨h, _⟩ | ⟨g, cap, cur, e1, e2, e3, e4, e5, e6, e7⟩⟩ := h
  · cases h; exact ⟨by simp, .inl ⟨rfl, rfl⟩⟩
  · simp only [Value.slice.injEq] at e1
    obtain ⟨rfl, -, rfl⟩ := e1
    exact ⟨by simp, .inr ⟨g, c, cur, rfl, e2, e3, Nat.zero_le _, e5, e6, by simp⟩⟩
def UndoEnd (w : World) (S S2 : Nat → Prop) (k q : Nat) (v : Vm) (l : Lg) (e : Ending) (w' : World) : Prop :=
  e = .returned (.tuple #[]) ∧ Touch (fun i => S i ∨ S2 i) w w' ∧ VmAt w' S2 q (undoL v l) ∧ WkAt w' S k q []
set_option maxRecDepth 100000 in
set_option maxHeartbeats 1600000 in
theorem wk_undo {S2 : Nat → Prop} (hW : WkAt w S k q l) (hV : VmAt w S2 q v) (hd : ∀ i, S i → ¬ S2 i) : Calls Tryz.prog 206 #[.pointer (some ⟨k, 0, none⟩), .int .i64 0] w (UndoEnd w S S2 k q v l) := by
  have HW := hid hW
  have HV := hid hV
  have HD := hid hd
  obtain ⟨vl, hr, ho, hs⟩ := hW.row
  obtain ⟨A, c, rfl, hc1, hc2⟩ := own_shape ho
  unfold maxLen at hc2
  have c1 := hr.cell (j := 1) rfl
  have HR := hid hr
  have HO := hid ho
  have HS := hid hs
  have hll := hW.ll
  obtain ⟨N, hN⟩ : ∃ N, N = l.length := ⟨_, rfl⟩
  have HN := hid hN
  rw [← hN] at c1 hc1 hll
  have hkl := hr.lt
  have hSk := hid hW.sk
  clear hr ho hs hW hV hd hN
  go_enter Tryz.func206, Tryz.ntmps206
  go_wp2
  go_loopw [4] (fun i wr => ∃ m : Nat, m ≤ N ∧ Hid (Touch S2 w wr) ∧ Hid (VmAt wr S2 q (undoL v (l.drop m))) ∧ i = .int .i64 ((m : Int) - 1)) (fun i _ => (intOf i + 1).toNat)
  case atStart => exact ⟨N, Nat.le_refl _, ⟨Touch.refl S2 w⟩, ⟨by rw [HN.out, List.drop_length]; exact HV.out⟩, by go_num⟩
  case round =>
    obtain ⟨m, hm, HT, HK, rfl⟩ := hrel
    have HR1 := hid (HR.out.touch HT.out (HD.out _ hSk.out))
    have HO1 := hid (own_touch HO.out HT.out (fun g hg h => HD.out _ (HS.out g hg) h))
    have e1 := HR1.out.cell (j := 1) rfl
    have ef := HR1.out.free 1
    rw [← HN.out] at e1
    clear c1
    by_cases hm0 : m = 0
    · subst hm0
      go_wp2
      refine bodyPost_end (results_none rfl _ _ _) rfl ?_
      have hdd : ∀ i, S2 i → i ≠ k := fun i hi e => HD.out k hSk.out (by rw [← e]; exact hi)
      refine ⟨rfl, (HT.out.mono (fun i _ hi => .inr hi)).setCell (a := ⟨k, 1, none⟩) (fun _ => .inl hSk.out) _, ?_, hSk.out, Nat.zero_le _, (fun x hx => by cases hx), .slice A 0 c, Rec.set HR1.out 1 _, ?_, fun g hg => HS.out g (by cases A with | none => cases hg | some a => exact hg)⟩
      · have := HK.out.touch ((Touch.refl (fun i => i = k) wr).setCell (a := ⟨k, 1, none⟩) (fun _ => rfl) (.slice A 0 c)) (fun i hi _ => hdd i hi)
        rw [List.drop_zero] at this
        exact this
      · exact own_set_other (own_clip0 HO1.out) _ (fun g hg => own_ne (own_clip0 HO1.out) HR1.out (by decide) hg rfl)
    · obtain ⟨j, rfl⟩ : ∃ j, m = j + 1 := ⟨m - 1, by omega⟩
      have hjl : j < l.length := by have := HN.out; omega
      have hUD := undoL_drop v hjl
      obtain ⟨g, c', e2, -, -, -, -⟩ := own_form HO1.out (by omega)
      simp only [Value.slice.injEq] at e2
      obtain ⟨rfl, -, rfl⟩ := e2
      have r1 := own_cell HO1.out (lgV_at hjl).1
      have r2 := own_cell HO1.out (lgV_at hjl).2
      have hxl := HW.out.lv _ (List.getElem_mem hjl)
      obtain ⟨⟨xa, xw⟩, hxe⟩ : ∃ x, x = l[j] := ⟨_, rfl⟩
      rw [← hxe] at r1 r2 hxl hUD
      have HXL := hid hxl
      have HUD := hid hUD
      have hgl := (own_lt HO1.out (g := g) rfl).2
      have n1 := nil_store
      have n2 := method_store
      have e0 := HR1.out.cell (j := 0) rfl
      unfold spV at e0
      have hkl1 := HR1.out.lt
      have KS : Hid (∀ W', Gr wr W' → W'.cell? ⟨k, 0, none⟩ = some (.iface 31 (.pointer (some ⟨q, 0, none⟩))) ∧ W'.cell? ⟨k, 1, none⟩ = some (.slice (some ⟨g, 0, none⟩) N c) ∧ W'.cell? ⟨g, j * 2, none⟩ = some (.int .i64 xa) ∧ W'.cell? ⟨g, j * 2 + 1, none⟩ = some (.int .u64 (xw : Nat))) :=
        ⟨fun W' h => ⟨(h.cell hkl1 0).trans e0, (h.cell hkl1 1).trans e1, (h.cell hgl _).trans r1, (h.cell hgl _).trans r2⟩⟩
      have hjN : (j : Int) < (N : Int) := by have := HN.out; omega
      clear hjl hUD r1 r2 hxl hxe hgl e0 e1 ef hkl1
      go_upto_region 3 with (fail)
      obtain ⟨Sx, hSx⟩ : ∃ Sx : World → Prop, Sx = fun W' => Gr wr W' := ⟨_, rfl⟩
      have x1 : ∀ p : Held Sx, p.w.cell? ⟨k, 0, none⟩ = some (.iface 31 (.pointer (some ⟨q, 0, none⟩))) := fun p => (KS.out _ (Held.get hSx p)).1
      have x2 : ∀ p : Held Sx, p.w.cell? ⟨k, 1, none⟩ = some (.slice (some ⟨g, 0, none⟩) N c) := fun p => (KS.out _ (Held.get hSx p)).2.1
      have x3 : ∀ p : Held Sx, p.w.cell? ⟨g, j * 2, none⟩ = some (.int .i64 xa) := fun p => (KS.out _ (Held.get hSx p)).2.2.1
      have x4 : ∀ p : Held Sx, p.w.cell? ⟨g, j * 2 + 1, none⟩ = some (.int .u64 (xw : Nat)) := fun p => (KS.out _ (Held.get hSx p)).2.2.2
      have hS0 : Sx wr.drew := by rw [hSx]; exact (Gr.refl wr).drew
      have inst : Inhabited (Held Sx) := ⟨⟨_, hS0⟩⟩
      clear hSx
      refine wp_region_mixS Sx 22 [([0, 1, 2, 3, 4, 5, 6, 7, 8, 9, 10, 11, 12, 13, 14, 15, 16, 17, 18, 19, 20, 21], 22)] [] (by kernel_rfl) (by kernel_rfl) hS0 ?_
      refine segs_step ?_
      simp only [opsAt, List.getElem?_cons_zero, List.getElem?_cons_succ]
      repeat (go_big_quiet_step (fail))
      refine wpQuiet_nil ?_
      go_wp2_with (go_at_call 61; refine (vm_store (HK.out.gr (Gr.refl wr).drew) xa HXL.out).mono ?_; rintro e w1 ⟨rfl, ht1, hv1⟩; have HT1 := hid ht1; have HV1 := hid hv1; clear ht1 hv1)
      refine ⟨.inl trivial, ?_⟩
      refine segs_end ?_
      refine wpQuiet_nil ?_
      refine NoPanic.normal ?_
      clear x1 x2 x3 x4 hS0 inst
      clear Sx
      go_wp2
      go_round
      case rel =>
        refine ⟨j, by omega, ⟨HT.out.trans (((Gr.refl wr).drew.touch _).trans HT1.out)⟩, ⟨?_⟩, by go_num⟩
        rw [HUD.out]
        exact HV1.out
      case measure => simp [intOf]
end
end Go.Proofs.YtbmidhlilafgeaaGreatDoor
end

section
namespace Go.Proofs.YtbmidhlilafgeaaGreatDoor
open Go.RowKit Word

section
variable {w : World} {S : Nat → Prop} {k q : Nat} {v : Vm} {l : Lg}
theorem tmps22 (x y z r : Value) : #[x, y, z] ++ ((Array.replicate 19 undef).setIfInBounds 3 r).setIfInBounds 0 r =
    #[x, y, z, r, undef, undef, r, undef, undef, undef, undef, undef, undef, undef, undef, undef, undef, undef, undef, undef, undef, undef] := by kernel_rfl
theorem part_idle (p2 p5 p4 : Addr) (w : World) : CallsD Tryz.prog 205 #[.pointer (some p2), .pointer (some p5), .pointer (some p4)] .returning w fun e u' w' => e = .returned (.tuple #[]) ∧ u' = .returning ∧ w' = w := by
  have hnil : ∀ w : World, (binOp BinOp.eql 20 .nilIface .nilIface).run Tryz.prog w = .ok (.bool true) w := fun _ => by kernel_rfl
  refine callsD_of_wpS Tryz.func205 rfl fun c₀ cs hu => ?_
  apply wpS_seq
  apply wpS_region
  simp [wpOpsS, go_sem, recoverD, hu, Tryz.ntmps205, Exit.thenS]
  rw [tmps22]
  refine wpS_of_wp ?_
  go_wp2
  refine ⟨rfl, .returning, ?_, _, results_none rfl _ _ _, rfl, rfl, rfl⟩
  cases c₀
  simp_all
def CaughtEnd (w : World) (S S2 : Nat → Prop) (b4 k q : Nat) (v : Vm) (l : Lg) (why a : Int) (w' : World) : Prop :=
  Touch (fun i => S i ∨ S2 i ∨ i = b4) w w' ∧ VmAt w' S2 q (undoL v l) ∧ WkAt w' S k q [] ∧ Rec w' b4 168 [.int .i64 why, .int .i64 a]
set_option maxRecDepth 100000 in
set_option maxHeartbeats 1600000 in
theorem part_caught {S2 : Nat → Prop} {b2 b5 b4 : Nat} (hW : WkAt w S k q l) (hV : VmAt w S2 q v) (hd : ∀ i, S i → ¬ S2 i) (why a : Int) (older : List PanicEntry)
    (r2 : w.cell? ⟨b2, 0, none⟩ = some (.pointer (some ⟨k, 0, none⟩))) (r5 : w.cell? ⟨b5, 0, none⟩ = some (.int .i64 0)) (r4 : Rec w b4 168 [.int .i64 0, .int .i64 0]) (n4 : ¬ S b4) (m4 : ¬ S2 b4) :
    CallsD Tryz.prog 205 #[.pointer (some ⟨b2, 0, none⟩), .pointer (some ⟨b5, 0, none⟩), .pointer (some ⟨b4, 0, none⟩)] (.panicking ({ v := thrV why a, recovered := false } :: older)) w fun e u' w' =>
      e = .returned (.tuple #[]) ∧ u' = .panicking ({ v := thrV why a, recovered := true } :: older) ∧ CaughtEnd w S S2 b4 k q v l why a w' := by
  have hta : ∀ (x y : Int) (w : World), (Instr.typeAssert (.iface 264 (.agg #[.int .i64 x, .int .i64 y])) 20 264 true).run Tryz.prog w = .ok (.tuple #[.agg #[.int .i64 x, .int .i64 y], .bool true]) w := fun _ _ _ => by kernel_rfl
  have hnn : ∀ (x : Value) (w : World), (binOp BinOp.eql 20 (.iface 264 x) .nilIface).run Tryz.prog w = .ok (.bool false) w := fun _ _ => by kernel_rfl
  have HW := hid hW
  have HV := hid hV
  have HD := hid hd
  clear hW hV hd
  refine callsD_of_wpS Tryz.func205 rfl fun c₀ cs hu => ?_
  apply wpS_seq
  apply wpS_region
  unfold thrV at hu ⊢
  simp [wpOpsS, go_sem, recoverD, hu, Tryz.ntmps205, Exit.thenS]
  rw [tmps22]
  refine wpS_of_wp ?_
  go_wp2_with (go_at_call 206; refine (wk_undo HW.out HV.out HD.out).mono ?_; rintro e w1 ⟨rfl, ht1, hv1, hw1⟩; have HR1 := hid (r4.touch ht1 (fun h => h.elim n4 m4)); have d0 := HR1.out.cell (j := 0) rfl; have d1 := HR1.out.cell (j := 1) rfl; have df := HR1.out.free; have hb4 := HR1.out.lt; have HT1 := hid ht1; have HV1 := hid hv1; have HW1 := hid hw1; clear ht1 hv1 hw1)
  have hbl := HR1.out.lt
  have hdk : ∀ i, S2 i → i ≠ b4 := fun i hi e => m4 (by rw [← e]; exact hi)
  have hds : ∀ i, S i → i ≠ b4 := fun i hi e => n4 (by rw [← e]; exact hi)
  have hT := ((Touch.refl (fun i => i = b4) w1).setCell (a := ⟨b4, 0, none⟩) (fun _ => rfl) (.int .i64 why)).setCell (a := ⟨b4, 1, none⟩) (fun _ => rfl) (.int .i64 a)
  have hTA : Touch (fun i => S i ∨ S2 i ∨ i = b4) w _ := (HT1.out.mono (fun i _ hi => hi.elim Or.inl (fun h => Or.inr (Or.inl h)))).trans (hT.mono (fun i _ hi => Or.inr (Or.inr hi)))
  refine ⟨rfl, _, rfl, _, results_none rfl _ _ _, rfl, rfl, ?_⟩
  exact ⟨hTA.alloc _, (HV1.out.touch hT (fun i hi _ => hdk i hi)).gr ((Gr.refl _).alloc _), (HW1.out.touch hT (fun i hi _ => hds i hi)).gr ((Gr.refl _).alloc _), Rec.gr (Rec.set (Rec.set HR1.out 0 _) 1 _) ((Gr.refl _).alloc _)⟩
end
end Go.Proofs.YtbmidhlilafgeaaGreatDoor
end

section
namespace Go.Proofs.YtbmidhlilafgeaaGreatDoor
open Go.RowKit Word

/-- How a piece of work ends. -/
def BodyEnd (q k b4 : Nat) (Sx : Nat → Prop) (w0 : World) (G : World → Prop) (H : Int → Int → Vm → Lg → (Nat → Prop) → (Nat → Prop) → World → Prop) (e : Ending) (w1 : World) : Prop :=
  Touch Sx w0 w1 ∧ ((e = .returned (.tuple #[]) ∧ G w1) ∨
    ∃ why a v l S S2, e = .panicked [{ v := thrV why a, recovered := false }] ∧ WkAt w1 S k q l ∧ VmAt w1 S2 q v ∧ (∀ i, S i → ¬ S2 i) ∧ ¬ S b4 ∧ ¬ S2 b4 ∧ H why a v l S S2 w1)
section
variable {w : World} {S : Nat → Prop} {k q : Nat} {v : Vm} {l : Lg}
/-- The world that the piece of work starts from. -/
def partW (w : World) (k : Nat) : World := ((w.alloc (.cells #[.pointer (some ⟨k, 0, none⟩)] 170)).alloc (.cells #[.int .i64 0, .int .i64 0] 168)).alloc (.cells #[.int .i64 0] 3)
def PartEnd (w : World) (k q : Nat) (Sx : Nat → Prop) (G : World → Prop) (H : Int → Int → Vm → Lg → (Nat → Prop) → (Nat → Prop) → World → Prop) (e : Ending) (w' : World) : Prop :=
  ∃ w1, Touch Sx (partW w k) w1 ∧ ((G w1 ∧ e = .returned (.agg #[.int .i64 0, .int .i64 0]) ∧ w' = (w1.setCell ⟨w.heap.size + 1, 0, none⟩ (.int .i64 0)).setCell ⟨w.heap.size + 1, 1, none⟩ (.int .i64 0)) ∨
    ∃ why a v l S S2, H why a v l S S2 w1 ∧ e = .returned (.agg #[.int .i64 why, .int .i64 a]) ∧ CaughtEnd w1 S S2 (w.heap.size + 1) k q v l why a w')
theorem load_fault (W : World) (blk : Nat) (p q : Value) (h0 : W.cell? ⟨blk, 0, none⟩ = some p) (h1 : W.cell? ⟨blk, 1, none⟩ = some q) : (loadVar 168 ⟨blk, 0, none⟩).run Tryz.prog W = .ok (.agg #[p, q]) W := by
  have a1 : (isAgg 168).run Tryz.prog W = .ok true W := by kernel_rfl
  have a2 : (sizeOf 168).run Tryz.prog W = .ok 2 W := by kernel_rfl
  simp [loadVar, Sem.run_bind, a1, a2, Result.andThen, loadCells, go_sem, h0, h1]
set_option maxRecDepth 100000 in
set_option maxHeartbeats 1600000 in
theorem wk_part {F : Nat} {caps : Array Value} {Sx : Nat → Prop} {G : World → Prop} {H : Int → Int → Vm → Lg → (Nat → Prop) → (Nat → Prop) → World → Prop}
    (hcf : ∀ args w, (callFunc F args).run Tryz.prog w = .ok (.enter F args) w) (hW : WkAt w S k q []) (hF : Calls Tryz.prog F (#[.pointer (some ⟨k, 0, none⟩)] ++ caps) (partW w k) (BodyEnd q k (w.heap.size + 1) Sx (partW w k) G H)) (hx : ∀ i, w.heap.size ≤ i → i ≤ w.heap.size + 2 → ¬ Sx i) :
    Calls Tryz.prog 173 #[.pointer (some ⟨k, 0, none⟩), .func (.func F) #[] caps] w (PartEnd w k q Sx G H) := by
  have hmf : ∀ (fn : Fn) (first cap : Array Value) (w : World), (Instr.makeFunc fn first cap).run Tryz.prog w = .ok (.func fn first cap) w := fun _ _ _ _ => rfl
  obtain ⟨vl, hr, ho, -⟩ := hW.row
  obtain ⟨A, c, rfl, hc1, hc2⟩ := own_shape ho
  have c1 := hr.cell (j := 1) rfl
  have hkl := hr.lt
  clear hr ho
  go_enter_defers Tryz.func173, Tryz.ntmps173
  have r2 : Rec (partW w k) w.heap.size 170 [.pointer (some ⟨k, 0, none⟩)] := Rec.gr (Rec.gr (Rec.new w _ _) ((Gr.refl _).alloc _)) ((Gr.refl _).alloc _)
  have r4 : Rec (partW w k) (w.heap.size + 1) 168 [.int .i64 0, .int .i64 0] := by
    have := Rec.gr (Rec.new (w.alloc (.cells #[.pointer (some ⟨k, 0, none⟩)] 170)) 168 [.int .i64 0, .int .i64 0]) ((Gr.refl _).alloc (.cells #[.int .i64 0] 3))
    rw [World.size_alloc] at this
    exact this
  have r5 : Rec (partW w k) (w.heap.size + 1 + 1) 3 [.int .i64 0] := by
    have := Rec.new ((w.alloc (.cells #[.pointer (some ⟨k, 0, none⟩)] 170)).alloc (.cells #[.int .i64 0, .int .i64 0] 168)) 3 [.int .i64 0]
    rw [World.size_alloc, World.size_alloc] at this
    exact this
  have HR2 := hid r2
  have HR4 := hid r4
  have HR5 := hid r5
  clear r2 r4 r5
  go_wp2
  refine hF.mono ?_
  rintro e w1 ⟨ht1, he⟩
  have q2 := HR2.out.touch ht1 (hx _ (Nat.le_refl _) (by omega))
  have q4 := HR4.out.touch ht1 (hx _ (by omega) (by omega))
  have q5 := HR5.out.touch ht1 (hx _ (by omega) (by omega))
  have hT1 := hid ht1
  rcases he with ⟨rfl, hg1⟩ | ⟨why, a, v, l, S', S2, rfl, hw1, hv1, hd1, n4, m4, hh1⟩
  · have HG := hid hg1
    have k0 := q4.cell (j := 0) rfl
    have k1 := q4.cell (j := 1) rfl
    have kf := q4.free
    have HQ4 := hid q4
    clear q2 q4 q5 ht1 hF hx hg1
    go_wp2
    have R6 := Rec.set (Rec.set HQ4.out 0 (.int .i64 0)) 1 (.int .i64 0)
    refine leaves_cons (f := 205) (args := #[.pointer (some ⟨w.heap.size, 0, none⟩), .pointer (some ⟨w.heap.size + 1 + 1, 0, none⟩), .pointer (some ⟨w.heap.size + 1, 0, none⟩)]) (by simp) (by simp [go_sem]) ?_
    refine (part_idle _ _ _ _).mono ?_
    rintro e u' w2 ⟨rfl, rfl, rfl⟩
    have hl := load_fault _ (w.heap.size + 1) _ _ (R6.cell (j := 0) rfl) (R6.cell (j := 1) rfl)
    simp only [Leaves, settle]
    refine ⟨_, ?_, w1, hT1.out, .inl ⟨HG.out, rfl, rfl⟩⟩
    simp [results, Tryz.results173, asAddr, hl]
  · have HW1 := hid hw1
    have HV1 := hid hv1
    have HD1 := hid hd1
    have HH := hid hh1
    have HN := hid (And.intro n4 m4)
    have k2 := q2.cell (j := 0) rfl
    have k5 := q5.cell (j := 0) rfl
    have HQ4 := hid q4
    clear q2 q4 q5 ht1 hF hx hw1 hv1 hd1 hh1 n4 m4
    go_wp2
    refine leaves_cons (f := 205) (args := #[.pointer (some ⟨w.heap.size, 0, none⟩), .pointer (some ⟨w.heap.size + 1 + 1, 0, none⟩), .pointer (some ⟨w.heap.size + 1, 0, none⟩)]) (by simp) (by simp [go_sem]) ?_
    refine (part_caught HW1.out HV1.out HD1.out why a [] k2 k5 HQ4.out HN.out.1 HN.out.2).mono ?_
    rintro e u' w2 ⟨rfl, rfl, hc⟩
    have hl := load_fault _ (w.heap.size + 1) _ _ (hc.2.2.2.cell (j := 0) rfl) (hc.2.2.2.cell (j := 1) rfl)
    simp only [settle, List.dropWhile_nil, Leaves]
    refine ⟨_, ?_, w1, hT1.out, .inr ⟨why, a, v, l, S', S2, HH.out, rfl, hc⟩⟩
    simp [results, Tryz.results173, asAddr, hl]
/-- Run: the same, with a Work of its own. -/
def runW (w : World) (q : Nat) : World := (w.alloc (.cells #[.int .i64 0, .int .i64 0] 168)).alloc (.cells #[spV q, .slice none 0 0] 225)
theorem wk_new (w : World) (q : Nat) : WkAt (runW w q) (fun i => i = w.heap.size + 1) (w.heap.size + 1) q [] := by
  have := Rec.new (w.alloc (.cells #[.int .i64 0, .int .i64 0] 168)) 225 [spV q, .slice none 0 0]
  rw [World.size_alloc] at this
  exact ⟨rfl, Nat.zero_le _, (fun x hx => by cases hx), .slice none 0 0, this, own_nil _ _ _ _, (fun g hg => by cases hg)⟩
def TRunEnd (w : World) (q : Nat) (Sx : Nat → Prop) (G : World → Prop) (H : Int → Int → Vm → Lg → (Nat → Prop) → (Nat → Prop) → World → Prop) (e : Ending) (w' : World) : Prop :=
  ∃ w2, ∃ x y, PartEnd (runW w q) (w.heap.size + 1) q Sx G H (.returned (.agg #[.int .i64 x, .int .i64 y])) w2 ∧ e = .returned (.agg #[.int .i64 x, .int .i64 y]) ∧ w' = (w2.setCell ⟨w.heap.size, 0, none⟩ (.int .i64 x)).setCell ⟨w.heap.size, 1, none⟩ (.int .i64 y)
set_option maxRecDepth 100000 in
set_option maxHeartbeats 1600000 in
theorem trap_run {F : Nat} {caps : Array Value} {Sx : Nat → Prop} {G : World → Prop} {H : Int → Int → Vm → Lg → (Nat → Prop) → (Nat → Prop) → World → Prop}
    (hcf : ∀ args w, (callFunc F args).run Tryz.prog w = .ok (.enter F args) w)
    (hF : Calls Tryz.prog F (#[.pointer (some ⟨w.heap.size + 1, 0, none⟩)] ++ caps) (partW (runW w q) (w.heap.size + 1)) (BodyEnd q (w.heap.size + 1) (w.heap.size + 3) Sx (partW (runW w q) (w.heap.size + 1)) G H))
    (hx : ∀ i, w.heap.size + 2 ≤ i → i ≤ w.heap.size + 4 → ¬ Sx i) (hx0 : ¬ Sx w.heap.size) (hH : ∀ why a v l S S2 w1, H why a v l S S2 w1 → ¬ S w.heap.size ∧ ¬ S2 w.heap.size) :
    Calls Tryz.prog 125 #[spV q, .func (.func F) #[] caps] w (TRunEnd w q Sx G H) := by
  have hsz : (runW w q).heap.size = w.heap.size + 2 := by unfold runW; rw [World.size_alloc, World.size_alloc]
  have HP := hid (wk_part (k := w.heap.size + 1) (w := runW w q) (Sx := Sx) (G := G) (H := H) hcf (wk_new w q) (by rw [hsz]; exact hF) (by rw [hsz]; exact fun i h1 h2 => hx i h1 (by omega)))
  have HR0 := hid (Rec.gr (Rec.new w 168 [.int .i64 0, .int .i64 0]) ((Gr.refl _).alloc (.cells #[spV q, .slice none 0 0] 225)))
  have HPE : Hid (∀ e w', PartEnd (runW w q) (w.heap.size + 1) q Sx G H e w' → ∃ x y, e = .returned (.agg #[.int .i64 x, .int .i64 y]) ∧ Rec w' w.heap.size 168 [.int .i64 0, .int .i64 0]) := ⟨by
    rintro e w' ⟨w1, t1, h⟩
    have r0 : Rec (partW (runW w q) (w.heap.size + 1)) w.heap.size 168 [.int .i64 0, .int .i64 0] := HR0.out.gr (((((Gr.refl _).alloc _).alloc _).alloc _))
    have r1 := r0.touch t1 hx0
    rw [hsz] at h
    rcases h with ⟨-, rfl, rfl⟩ | ⟨why, a, v, l, S, S2, hh, rfl, hc⟩
    · exact ⟨0, 0, rfl, own_set_other (own_set_other r1 _ (fun g hg => by cases hg; show w.heap.size ≠ w.heap.size + 2 + 1; omega)) _ (fun g hg => by cases hg; show w.heap.size ≠ w.heap.size + 2 + 1; omega)⟩
    · obtain ⟨n1, n2⟩ := hH _ _ _ _ _ _ _ hh
      exact ⟨why, a, rfl, r1.touch hc.1 (fun h => by rcases h with h | h | h; exact n1 h; exact n2 h; omega)⟩⟩
  unfold spV at HP HPE HR0 ⊢
  clear hF hx hx0 hH hcf hsz
  go_enter Tryz.func125, Tryz.ntmps125
  go_wp2_with (go_at_call 173; refine HP.out.mono ?_; intro e w2 hpe; obtain ⟨x, y, rfl, hr2⟩ := HPE.out _ _ hpe; have k0 := hr2.cell (j := 0) rfl; have k1 := hr2.cell (j := 1) rfl; have kf := hr2.free; have HR2 := hid hr2; have HQ := hid hpe; clear hpe hr2)
  have R3 := Rec.set (Rec.set HR2.out 0 (.int .i64 x)) 1 (.int .i64 y)
  have hl := load_fault _ w.heap.size _ _ (R3.cell (j := 0) rfl) (R3.cell (j := 1) rfl)
  refine bodyPost_ret (v := .agg #[.int .i64 x, .int .i64 y]) ?_ rfl ⟨w2, x, y, HQ.out, rfl, rfl⟩
  simp [results, Tryz.results125, asAddr, hl]
end
end Go.Proofs.YtbmidhlilafgeaaGreatDoor
end
end
section
section
namespace Go.Proofs.YtbmidhlilafgeaaGreatDoor
open Go.RowKit Word

def mkV (v : Vm) (a : Int) (x : Nat) : Nat → Vm
  | 0 => v.st a x
  | m + 1 => (mkV v a x m).st (a + 1 + m) 0
def mkE (v : Vm) (a : Int) : Nat → Int
  | 0 => v.ldE a
  | m + 1 => if mkE v a m ≠ 0 then mkE v a m else v.ldE (a + 1 + m)
theorem mkV_ldE (v : Vm) (a : Int) (x : Nat) (m : Nat) (b : Int) : (mkV v a x m).ldE b = v.ldE b := by
  induction m with
  | zero => exact st_ldE ..
  | succ m ih => unfold mkV; rw [st_ldE, ih]
theorem mkE_stop {v : Vm} {a : Int} {m : Nat} (h : mkE v a m ≠ 0) {n : Nat} (hn : m ≤ n) : mkE v a n = mkE v a m := by
  induction n with
  | zero => rw [Nat.le_zero.1 hn]
  | succ n ih =>
    rcases Nat.lt_or_ge n m with h' | h'
    · rw [show m = n + 1 by omega]
    · have := ih h'
      show (if mkE v a n ≠ 0 then mkE v a n else _) = _
      rw [if_pos (by rw [this]; exact h), this]
section
variable {w : World} {S2 : Nat → Prop} {k q b4 : Nat} {v : Vm}
/-- The blocks of a piece of work that starts in w. -/
def wkS (w : World) (k i : Nat) : Prop := i = k ∨ w.heap.size ≤ i
def mkG (q : Nat) (S2 : Nat → Prop) (v : Vm) (a : Int) (x n : Nat) (w1 : World) : Prop := mkE v a n = 0 ∧ VmAt w1 S2 q (mkV v a x n)
def mkH (w : World) (k : Nat) (S2 : Nat → Prop) (v : Vm) (a : Int) (n : Nat) (why _a : Int) (v' : Vm) (l : Lg) (S S2' : Nat → Prop) (_w1 : World) : Prop :=
  why = mkE v a n ∧ mkE v a n ≠ 0 ∧ undoL v' l = v ∧ S = wkS w k ∧ S2' = S2
structure MkInv (w wr : World) (S2 : Nat → Prop) (k q : Nat) (v : Vm) (a : Int) (x m : Nat) (l : Lg) : Prop where
  e : mkE v a m = 0
  wk : WkAt wr (wkS w k) k q l
  vm : VmAt wr S2 q (mkV v a x m)
  un : undoL (mkV v a x m) l = v
  ll : l.length = m + 1
  t : Touch (fun i => wkS w k i ∨ S2 i) w wr
set_option maxRecDepth 100000 in
set_option maxHeartbeats 1600000 in
theorem make_body {bA bW bH p f c : Nat} {a : Int} {x : Nat} (hs : p + f + c ≤ 255) (hx : x < 18446744073709551616) (hW : WkAt w (fun i => i = k) k q []) (hV : VmAt w S2 q v) (hS : ∀ i, S2 i → i < w.heap.size) (hk : ¬ S2 k)
    (cA : Rec w bA 3 [.int .i64 a]) (cW : Rec w bW 50 [.int .u64 x]) (cH : Rec w bH 90 [.int .i64 p, .int .i64 f, .int .i64 c]) (nA : ¬ S2 bA) (nH : ¬ S2 bH) (n4 : ¬ S2 b4) (m4 : b4 < w.heap.size) (d4 : b4 ≠ k) :
    Calls Tryz.prog 126 #[.pointer (some ⟨k, 0, none⟩), .pointer (some ⟨bA, 0, none⟩), .pointer (some ⟨bW, 0, none⟩), .pointer (some ⟨bH, 0, none⟩)] w
      (BodyEnd q k b4 (fun i => wkS w k i ∨ S2 i) w (mkG q S2 v a x (p + f + c)) (mkH w k S2 v a (p + f + c))) := by
  have kA := cA.cell (j := 0) rfl
  have kW := cW.cell (j := 0) rfl
  obtain ⟨vl, hr, -⟩ := hW.row
  have hkA : bA ≠ k := own_ne cA hr (by decide) rfl rfl
  have hkH : bH ≠ k := own_ne cH hr (by decide) rfl rfl
  have hkl := hr.lt
  have hd : ∀ i, wkS w k i → ¬ S2 i := fun i hi h => by
    rcases hi with rfl | hi
    · exact hk h
    · have := hS i h; omega
  have hW' : WkAt w (wkS w k) k q [] := hW.mono (fun i hi => .inl hi)
  have HD := hid hd
  have HWK := hid hW'
  have HST := hid (wk_store hW' hV hd (by simp) a hx)
  have hN : hdrN ⟨p, f, c⟩ = 1 + (p : Int) + f + c := if_pos (hdrE_of hs)
  have HSZ := hid (fun W => hdr_size ⟨p, f, c⟩ W)
  rw [hN] at HSZ
  unfold hdrV at HSZ
  have HV := hid hV
  have HCA := hid cA
  have HCH := hid cH
  have HNN := hid (And.intro nA (And.intro nH (And.intro n4 (And.intro hkA hkH))))
  have HB4 := hid (show ¬ wkS w k b4 from fun h => by rcases h with h | h; exact d4 h; omega)
  clear hr hW hV hd hW' hk nA nH n4 hN cA cW cH
  by_cases h0 : v.ldE a = 0
  · have HE := hid h0
    have har := ldE_in h0
    have hn2 := HV.out.ok.n2
    clear h0
    go_enter Tryz.func126, Tryz.ntmps126
    go_wp2_with (first
      | (go_at_call 127; refine HST.out.mono ?_; rintro e w1 (⟨h, -⟩ | ⟨-, rfl, ht1, hv1, hk1⟩); (exact absurd HE.out h); have hH1 := HCH.out.touch ht1 (fun h => h.elim (fun h => h.elim HNN.out.2.2.2.2 (fun h => absurd HCH.out.lt (Nat.not_lt_of_le h))) HNN.out.2.1); have j0 := hH1.cell (j := 0) rfl; have j1 := hH1.cell (j := 1) rfl; have j2 := hH1.cell (j := 2) rfl; have HH1 := hid hH1; have HT1 := hid ht1; have HV1 := hid hv1; have HK1 := hid hk1; clear ht1 hv1 hk1 hH1)
      | (go_at_call 55; refine (HSZ.out _).mono ?_; rintro e w2 ⟨rfl, hg2⟩; have HG2 := hid hg2; clear hg2))
    have HI0 : Hid (MkInv w w2 S2 k q v a x 0 [(a, v.ldV a)]) := ⟨⟨HE.out, (HK1.out.gr HG2.out).mono (fun i hi => hi.elim id .inr), (HV1.out.gr HG2.out).mono (fun i hi => hi.1), st_back HV.out.ok HE.out x, rfl, HT1.out.trans (HG2.out.touch _)⟩⟩
    go_loopw [13] (fun i wr => ∃ (m : Nat) (l : Lg), m ≤ p + f + c ∧ Hid (MkInv w wr S2 k q v a x m l) ∧ i = .int .i64 m) (fun i _ => p + f + c - (intOf i).toNat)
    case atStart => exact ⟨0, _, by omega, HI0, rfl⟩
    case round =>
      obtain ⟨m, l, hm, HI, rfl⟩ := hrel
      have cA1 := HCA.out.touch HI.out.t (fun h => h.elim (fun h => h.elim HNN.out.2.2.2.1 (fun h => absurd HCA.out.lt (Nat.not_lt_of_le h))) HNN.out.1)
      have kA1 := cA1.cell (j := 0) rfl
      clear HI0 kA kW j0 j1 j2
      by_cases hlast : m = p + f + c
      · have d0 : decide ((m : Int) < 1 + (p : Int) + f + c - 1) = false := decide_eq_false (by omega)
        have HM := hid hlast
        clear hlast
        go_wp2
        refine bodyPost_end (results_none rfl _ _ _) rfl ?_
        refine ⟨HI.out.t, .inl ⟨rfl, ?_⟩⟩
        rw [← HM.out]
        exact ⟨HI.out.e, HI.out.vm⟩
      · have d0 : decide ((m : Int) < 1 + (p : Int) + f + c - 1) = true := decide_eq_true (by omega)
        have hll := HI.out.ll
        have HST2 := hid (wk_store HI.out.wk HI.out.vm HD.out (by omega) (a + 1 + m) (x := 0) (by omega))
        have hEE : mkE v a (m + 1) = v.ldE (a + 1 + m) := by
          show (if mkE v a m ≠ 0 then mkE v a m else _) = _
          rw [if_neg (fun h => h HI.out.e)]
        have hLE := mkV_ldE v a x m (a + 1 + m)
        by_cases h1 : v.ldE (a + 1 + m) = 0
        · have H1 := hid (hLE.trans h1)
          have HE1 := hid (hEE.trans h1)
          have HML := hid hlast
          clear hLE h1 hEE hlast hll
          go_wp2_with (go_at_call 127; refine HST2.out.mono ?_; rintro e w3 (⟨h, -⟩ | ⟨-, rfl, ht3, hv3, hk3⟩); (exact absurd H1.out h); have HT3 := hid ht3; have HV3 := hid hv3; have HK3 := hid hk3; clear ht3 hv3 hk3)
          go_round
          case rel =>
            refine ⟨m + 1, l ++ [(a + 1 + m, (mkV v a x m).ldV (a + 1 + m))], by have := HML.out; omega, ⟨HE1.out, HK3.out.mono (fun i hi => hi.elim id (fun h => .inr (Nat.le_trans HI.out.t.size h))), HV3.out.mono (fun i hi => hi.1), ?_, by rw [List.length_append, HI.out.ll]; rfl, HI.out.t.trans HT3.out⟩, by go_num⟩
            rw [undoL_snoc]
            show undoL (((mkV v a x m).st (a + 1 + m) 0).st _ _) l = v
            rw [st_back HI.out.vm.ok H1.out]
            exact HI.out.un
          case measure => have := HML.out; simp [intOf]; omega
        · have H1 : Hid ((mkV v a x m).ldE (a + 1 + m) ≠ 0) := ⟨by rw [hLE]; exact h1⟩
          have HE1 : Hid (mkE v a (p + f + c) = (mkV v a x m).ldE (a + 1 + m)) := ⟨by rw [hLE, ← hEE]; exact mkE_stop (by rw [hEE]; exact h1) (by omega)⟩
          clear hLE h1 hEE hlast hll
          go_wp2_with (go_at_call 127; refine HST2.out.mono ?_; rintro e w3 (⟨-, hg3, rfl⟩ | ⟨h, -⟩); rotate_left; (exact absurd h H1.out); have HG3 := hid hg3; clear hg3)
          exact ⟨rfl, HI.out.t.trans (HG3.out.touch _), .inr ⟨_, _, _, l, wkS w k, S2, rfl, HI.out.wk.gr HG3.out, HI.out.vm.gr HG3.out, HD.out, HB4.out, HNN.out.2.2.1, HE1.out.symm, by rw [HE1.out]; exact H1.out, HI.out.un, rfl, rfl⟩⟩
  · have HE := hid h0
    clear h0
    go_enter Tryz.func126, Tryz.ntmps126
    go_wp2_with (go_at_call 127; refine HST.out.mono ?_; rintro e w1 (⟨-, hg1, rfl⟩ | ⟨h, -⟩); rotate_left; (exact absurd h HE.out); have HG1 := hid hg1; clear hg1)
    have he : mkE v a (p + f + c) = v.ldE a := mkE_stop (m := 0) HE.out (Nat.zero_le _)
    exact ⟨rfl, HG1.out.touch _, .inr ⟨v.ldE a, a, v, [], wkS w k, S2, rfl, HWK.out.gr HG1.out, HV.out.gr HG1.out, HD.out, HB4.out, HNN.out.2.2.1, he.symm, by rw [he]; exact HE.out, rfl, rfl, rfl⟩⟩
end
end Go.Proofs.YtbmidhlilafgeaaGreatDoor
end

section
namespace Go.Proofs.YtbmidhlilafgeaaGreatDoor
open Go.RowKit Word

theorem call_make (args : Array Value) (w : World) : (callFunc 126 args).run Tryz.prog w = .ok (.enter 126 args) w := by kernel_rfl
theorem field_fault (x y : Value) (w : World) : (Instr.field 168 (.agg #[x, y]) 0).run Tryz.prog w = .ok x w := by kernel_rfl
section
variable {w : World} {S : Nat → Prop} {q : Nat} {v : Vm}
set_option maxRecDepth 100000 in
set_option maxHeartbeats 1600000 in
theorem hdr_put_bad {h : Hdr} (he : hdrE h ≠ 0) (w : World) : Calls Tryz.prog 124 #[hdrV h] w fun e w' => e = .returned (.tuple #[.int .u64 0, .int .i64 15]) ∧ Gr w w' := by
  have HC := hid (fun W => hdr_check h W)
  have h15 : hdrE h = 15 := (hdrE_two h).resolve_left he
  rw [h15] at HC
  clear h15 he
  unfold hdrV at HC ⊢
  go_enter Tryz.func124, Tryz.ntmps124
  go_wp2_with (go_at_call 118; refine (HC.out _).mono ?_; rintro e w1 ⟨rfl, hg1⟩; have HG1 := hid (((Gr.refl w).alloc _).trans hg1); clear hg1)
  go_ret2
  exact ⟨rfl, HG1.out⟩
/-- What running Make's closure leaves. -/
def MakeEnd (w : World) (S : Nat → Prop) (q : Nat) (v : Vm) (a : Int) (x n : Nat) (e : Ending) (w' : World) : Prop :=
  ∃ b : Int, e = .returned (.agg #[.int .i64 (mkE v a n), .int .i64 b]) ∧ Touch S w w' ∧ VmAt w' S q (if mkE v a n = 0 then mkV v a x n else v)
theorem run_make (hV : VmAt w S q v) {bA bW bH p f c : Nat} {a : Int} {x : Nat} (hs : p + f + c ≤ 255) (hx : x < 18446744073709551616)
    (cA : Rec w bA 3 [.int .i64 a]) (cW : Rec w bW 50 [.int .u64 x]) (cH : Rec w bH 90 [.int .i64 p, .int .i64 f, .int .i64 c]) (nA : ¬ S bA) (nH : ¬ S bH) :
    Calls Tryz.prog 125 #[spV q, .func (.func 126) #[] #[.pointer (some ⟨bA, 0, none⟩), .pointer (some ⟨bW, 0, none⟩), .pointer (some ⟨bH, 0, none⟩)]] w (MakeEnd w S q v a x (p + f + c)) := by
  have hsz : (runW w q).heap.size = w.heap.size + 2 := by unfold runW; rw [World.size_alloc, World.size_alloc]
  obtain ⟨W0, hW0⟩ : ∃ W0, W0 = partW (runW w q) (w.heap.size + 1) := ⟨_, rfl⟩
  have hsz0 : W0.heap.size = w.heap.size + 5 := by rw [hW0]; unfold partW; rw [World.size_alloc, World.size_alloc, World.size_alloc, hsz]
  have g1 : Gr w (runW w q) := ((Gr.refl w).alloc _).alloc _
  have g2 : Gr (runW w q) W0 := by rw [hW0]; exact (((Gr.refl _).alloc _).alloc _).alloc _
  have g : Gr w W0 := g1.trans g2
  have hS2 : ∀ i, cutS S w i → i < w.heap.size := fun i hi => hi.2
  have hbody := make_body (b4 := w.heap.size + 3) (S2 := cutS S w) hs hx ((wk_new w q).gr g2) (hV.cut.gr g) (fun i hi => by have := hS2 i hi; omega) (fun h => by have := hS2 _ h; omega) (cA.gr g) (cW.gr g) (cH.gr g) (fun h => nA h.1) (fun h => nH h.1) (fun h => by have := hS2 _ h; omega) (by omega) (by omega)
  have hrun := trap_run (w := w) (q := q) (F := 126) (caps := #[.pointer (some ⟨bA, 0, none⟩), .pointer (some ⟨bW, 0, none⟩), .pointer (some ⟨bH, 0, none⟩)]) (Sx := fun i => wkS W0 (w.heap.size + 1) i ∨ cutS S w i)
    (G := mkG q (cutS S w) v a x (p + f + c)) (H := mkH W0 (w.heap.size + 1) (cutS S w) v a (p + f + c)) call_make (by rw [← hW0]; exact hbody)
    (fun i h1 h2 h => by
      rcases h with (h | h) | h
      · omega
      · omega
      · have := h.2; omega)
    (fun h => by
      rcases h with (h | h) | h
      · omega
      · omega
      · exact absurd h.2 (Nat.lt_irrefl _))
    (fun why a' v' l S' S2 w1 h => by
      obtain ⟨-, -, -, rfl, rfl⟩ := h
      refine ⟨fun h => ?_, fun h => absurd h.2 (Nat.lt_irrefl _)⟩
      rcases h with h | h <;> omega)
  refine hrun.mono ?_
  rintro e w' ⟨w2, fx, fy, ⟨w1, ht1, hp⟩, rfl, rfl⟩
  rw [← hW0] at ht1
  rw [hsz] at hp
  have hTw : ∀ (X : World) (T : Touch (fun i => w.heap.size ≤ i ∨ S i) w X), Touch S w X := fun X T => T.mono (fun i hi h => h.resolve_left (by omega))
  have T1 : Touch (fun i => w.heap.size ≤ i ∨ S i) w w1 := (g.touch _).trans' ht1 (fun i hi h => by
    rcases h with (h | h) | h
    · left; omega
    · left; omega
    · exact .inr h.1)
  rcases hp with ⟨⟨e0, hv1⟩, he, rfl⟩ | ⟨why, a', v', l, S', S2, ⟨rfl, e0, hu, rfl, rfl⟩, he, hc⟩
  · simp only [Ending.returned.injEq, Value.agg.injEq] at he
    have hfx : fx = 0 ∧ fy = 0 := by simpa using he
    obtain ⟨rfl, rfl⟩ := hfx
    have hT := (((Touch.refl (fun i => w.heap.size ≤ i) w1).setCell (a := ⟨w.heap.size + 2 + 1, 0, none⟩) (fun _ => by show w.heap.size ≤ w.heap.size + 2 + 1; omega) (.int .i64 0)).setCell (a := ⟨w.heap.size + 2 + 1, 1, none⟩) (fun _ => by show w.heap.size ≤ w.heap.size + 2 + 1; omega) (.int .i64 0)).setCell (a := ⟨w.heap.size, 0, none⟩) (fun _ => Nat.le_refl _) (.int .i64 0) |>.setCell (a := ⟨w.heap.size, 1, none⟩) (fun _ => Nat.le_refl _) (.int .i64 0)
    refine ⟨0, by rw [e0], hTw _ (T1.trans (hT.mono (fun i _ h => .inl h))), ?_⟩
    rw [if_pos e0]
    exact (hv1.touch hT (fun i hi _ h => by have := hi.2; omega)).mono (fun i hi => hi.1)
  · simp only [Ending.returned.injEq, Value.agg.injEq] at he
    have hfx : fx = mkE v a (p + f + c) ∧ fy = a' := by simpa using he
    obtain ⟨rfl, rfl⟩ := hfx
    have hT := fun z1 z2 => ((Touch.refl (fun i => w.heap.size ≤ i) w2).setCell (a := ⟨w.heap.size, 0, none⟩) (fun _ => Nat.le_refl _) z1).setCell (a := ⟨w.heap.size, 1, none⟩) (fun _ => Nat.le_refl _) z2
    refine ⟨fy, rfl, hTw _ ((T1.trans' hc.1 (fun i hi h => ?_)).trans ((hT _ _).mono (fun i _ h => .inl h))), ?_⟩
    · rcases h with (h | h) | h | h
      · left; omega
      · left; omega
      · exact .inr h.1
      · left; omega
    · rw [if_neg e0]
      have := (hc.2.1.touch (hT (.int .i64 (mkE v a (p + f + c))) (.int .i64 fy)) (fun i hi _ h => by have := hi.2; omega)).mono (fun i hi => hi.1)
      rw [hu] at this
      exact this
def mkRes (v : Vm) (a : Int) (h : Hdr) : Int := if a ≤ 0 then 5 else if hdrE h ≠ 0 then 15 else mkE v a (h.p + h.f + h.k).toNat
def mkVm (v : Vm) (a : Int) (h : Hdr) : Vm := if mkRes v a h = 0 then mkV v a (hdrW h.p.toNat h.f.toNat h.k.toNat) (h.p + h.f + h.k).toNat else v
theorem hdrW_lt {a b c : Nat} (hs : a + b + c ≤ 255) : hdrW a b c < 18446744073709551616 := by
  have := hdrL_lt hs
  unfold hdrW
  omega
set_option maxRecDepth 100000 in
set_option maxHeartbeats 1600000 in
theorem obj_make (hV : VmAt w S q v) (a : Int) (h : Hdr) : Calls Tryz.prog 60 #[spV q, .int .i64 a, hdrV h] w fun e w' => e = .returned (.int .i64 (mkRes v a h)) ∧ Touch S w w' ∧ VmAt w' (plus S w) q (mkVm v a h) := by
  have HV := hid hV
  have hmf : ∀ (fn : Fn) (first cap : Array Value) (w : World), (Instr.makeFunc fn first cap).run Tryz.prog w = .ok (.func fn first cap) w := fun _ _ _ _ => rfl
  have HSAME : Hid (mkRes v a h ≠ 0 → ∀ w', Gr w w' → Touch S w w' ∧ VmAt w' (plus S w) q (mkVm v a h)) := ⟨fun hn w' g => ⟨g.touch S, by unfold mkVm; rw [if_neg hn]; exact (hV.gr g).mono (fun k hk => .inl hk)⟩⟩
  by_cases h0 : a ≤ 0
  · have HR : Hid (mkRes v a h = 5) := ⟨if_pos h0⟩
    have d0 : decide (a ≤ 0) = true := decide_eq_true h0
    unfold spV hdrV
    clear h0 hV
    go_enter Tryz.func60, Tryz.ntmps60
    go_wp2
    go_ret
    exact ⟨ret_int HR.out.symm, HSAME.out (by rw [HR.out]; decide) _ (((Gr.refl w).alloc _).alloc _)⟩
  · have d0 : decide (a ≤ 0) = false := decide_eq_false h0
    by_cases h1 : hdrE h = 0
    · obtain ⟨p, f, c, rfl, hs⟩ := hdrE_zero h1
      have hR : mkRes v a ⟨p, f, c⟩ = mkE v a (p + f + c) := by
        unfold mkRes
        rw [if_neg h0, if_neg (fun h => h h1)]
        congr 1
      have HR := hid hR
      have HM : Hid (mkVm v a ⟨p, f, c⟩ = if mkE v a (p + f + c) = 0 then mkV v a (hdrW p f c) (p + f + c) else v) := ⟨by
        unfold mkVm
        rw [hR]
        congr 1⟩
      have HP := hid (fun W => hdr_put_ok hs W)
      have HRUN := hid (fun (W : World) (g : Gr w W) (bW : Nat) (cA : Rec W w.heap.size 3 [.int .i64 a]) (cW : Rec W bW 50 [.int .u64 (hdrW p f c : Nat)]) (cH : Rec W (w.heap.size + 1) 90 [.int .i64 p, .int .i64 f, .int .i64 c]) =>
        run_make (hV.cut.gr g) hs (hdrW_lt hs) cA cW cH (fun h => absurd h.2 (Nat.lt_irrefl _)) (fun h => by have := h.2; omega))
      unfold hdrV at HP
      unfold spV hdrV
      unfold spV at HRUN
      have hfl := field_fault
      clear hV h0 h1 hR
      go_enter Tryz.func60, Tryz.ntmps60
      go_wp2_with (first
        | (go_at_call 124; refine (HP.out _).mono ?_; rintro e w1 ⟨rfl, hg1⟩; have HG1 := hid hg1; clear hg1)
        | (go_at_call 125; have cA := (((Rec.new w 3 [.int .i64 a]).gr ((Gr.refl _).alloc _)).gr HG1.out).gr ((Gr.refl w1).alloc (.cells #[.int .u64 (hdrW p f c : Nat)] 50)); have cH := ((Rec.new (w.alloc (.cells #[.int .i64 a] 3)) 90 [.int .i64 p, .int .i64 f, .int .i64 c]).gr HG1.out).gr ((Gr.refl w1).alloc (.cells #[.int .u64 (hdrW p f c : Nat)] 50)); rw [World.size_alloc] at cH; have cW := Rec.new w1 50 [.int .u64 (hdrW p f c : Nat)]; refine (HRUN.out _ (((((Gr.refl w).alloc _).alloc _).trans HG1.out).alloc _) _ cA cW cH).mono ?_; rintro e w2 ⟨b, rfl, ht2, hv2⟩; have HT2 := hid ht2; have HV2 := hid hv2; clear ht2 hv2 cA cH cW))
      go_ret
      refine ⟨ret_int HR.out.symm, ((((((Gr.refl w).alloc _).alloc _).trans HG1.out).alloc _).touch S).trans (HT2.out.mono (fun i _ hi => hi.1)), ?_⟩
      rw [HM.out]
      exact HV2.out.mono (fun i hi => .inl hi.1)
    · have HR : Hid (mkRes v a h = 15) := ⟨by unfold mkRes; rw [if_neg h0, if_pos h1]⟩
      have HP := hid (fun W => hdr_put_bad h1 W)
      unfold hdrV at HP
      unfold spV hdrV
      clear hV h0 h1
      go_enter Tryz.func60, Tryz.ntmps60
      go_wp2_with (go_at_call 124; refine (HP.out _).mono ?_; rintro e w1 ⟨rfl, hg1⟩; have HG1 := hid ((((Gr.refl w).alloc _).alloc _).trans hg1); clear hg1)
      go_ret
      exact ⟨ret_int HR.out.symm, HSAME.out (by rw [HR.out]; decide) _ (HG1.out.alloc _)⟩
end
end Go.Proofs.YtbmidhlilafgeaaGreatDoor
end

section
namespace Go.Proofs.YtbmidhlilafgeaaGreatDoor
open Go.RowKit Word

section
variable {w : World} {S S2 : Nat → Prop} {k q b4 : Nat} {v : Vm}
end
end Go.Proofs.YtbmidhlilafgeaaGreatDoor
end
end
section
namespace Go.Proofs.YtbmidhlilafgeaaGreatDoor
open Go.RowKit Word

theorem take_snoc {l : List Int} {i : Nat} (h : i < l.length) : l.take (i + 1) = l.take i ++ [l[i]] := by rw [List.take_add_one, List.getElem?_eq_getElem h]; rfl
section
variable {w : World} {S : Nat → Prop} {K M q : Nat} {v v' : Vm} {rs : List Int} {L : List Ob} {to : Nat} {O : List Int} {k i : Nat}
end
end Go.Proofs.YtbmidhlilafgeaaGreatDoor
end
section
namespace Go.Proofs.YtbmidhlilafgeaaGreatDoor
open Go.RowKit Word

structure Cf where
  fr : Nat
  tp : Nat
  to : Nat
  lm : Nat
  bk : Nat
  st : Nat
  ah : Nat
def cfV (c : Cf) : Value := .agg #[.int .i64 c.fr, .int .i64 c.tp, .int .i64 c.to, .int .i64 c.lm, .int .i64 c.bk, .int .i64 c.st, .int .i64 c.ah]
def upN (n B : Nat) : Nat := (n + B - 1) / B * B
section
variable {w : World} {S : Nat → Prop} {q : Nat} {v : Vm}
end
end Go.Proofs.YtbmidhlilafgeaaGreatDoor
end
section
section
namespace Go.Proofs.YtbmidhlilafgeaaGreatDoor
open Go.RowKit Word

/-- Numbers that lie in a row apart from some blocks. -/
def IntsOff (T : Nat → Prop) (w : World) (A : Option Addr) (l : List Int) : Prop := ∀ i (h : i < l.length), ∃ b o, A = some ⟨b, o, none⟩ ∧ b < w.heap.size ∧ ¬ T b ∧ w.cell? ⟨b, o + i, none⟩ = some (.int .i64 l[i])
theorem IntsOff.touch {T S : Nat → Prop} {w w' : World} {A : Option Addr} {l : List Int} (h : IntsOff T w A l) (t : Touch S w w') (hs : ∀ b, b < w.heap.size → S b → T b) : IntsOff T w' A l := fun i hi => by
  obtain ⟨b, o, e, hb, hT, hc⟩ := h i hi
  exact ⟨b, o, e, Nat.lt_of_lt_of_le hb t.size, hT, (t.cell hb (fun x => hT (hs b hb x)) _).trans hc⟩
theorem IntsOff.gr {T : Nat → Prop} {w w' : World} {A : Option Addr} {l : List Int} (h : IntsOff T w A l) (t : Gr w w') : IntsOff T w' A l := h.touch (t.touch (fun _ => False)) (fun _ _ h => h.elim)
theorem IntsOff.mono {T T' : Nat → Prop} {w : World} {A : Option Addr} {l : List Int} (h : IntsOff T w A l) (hs : ∀ b, b < w.heap.size → T' b → T b) : IntsOff T' w A l := fun i hi => by
  obtain ⟨b, o, e, hb, hT, hc⟩ := h i hi
  exact ⟨b, o, e, hb, fun x => hT (hs b hb x), hc⟩
def zs (l : List Int) : List Value := l.map fun x => .int .i64 x
theorem zs_at {l : List Int} {i : Nat} (h : i < l.length) : (zs l)[i]? = some (.int .i64 l[i]) := by simp [zs, h]
/-- A stack s of numbers l lies in w. -/
structure StkAt (w : World) (S : Nat → Prop) (s : Nat) (l : List Int) (R : Nat) (lost : Bool) : Prop where
  ss : S s
  r1 : 1 ≤ R ∧ R ≤ 4096
  le : l.length ≤ R
  row : ∃ vl hi, Rec w s 267 [vl, .int .i64 R, .int .i64 hi, .bool lost] ∧ w.ownsRow 0 3 1 vl l.length (zs l) ∧ ∀ g, vl.ownBlock = some g → S g
theorem StkAt.touch {S T : Nat → Prop} {w w' : World} {s : Nat} {l : List Int} {R : Nat} {b : Bool} (h : StkAt w S s l R b) (t : Touch T w w') (hS : ∀ k, S k → k < w.heap.size → ¬ T k) : StkAt w' S s l R b := by
  obtain ⟨h1, h2, h3, vl, hi, hr, ho, hs⟩ := h
  exact ⟨h1, h2, h3, vl, hi, hr.touch t (hS _ h1 hr.lt), own_touch ho t (fun g hg => hS g (hs g hg) (own_lt ho hg).2), hs⟩
theorem StkAt.gr {S : Nat → Prop} {w w' : World} {s : Nat} {l : List Int} {R : Nat} {b : Bool} (h : StkAt w S s l R b) (t : Gr w w') : StkAt w' S s l R b := h.touch (t.touch (fun _ => False)) (fun _ _ _ h => h)
theorem StkAt.mono {S T : Nat → Prop} {w : World} {s : Nat} {l : List Int} {R : Nat} {b : Bool} (h : StkAt w S s l R b) (hT : ∀ k, S k → T k) : StkAt w T s l R b := by
  obtain ⟨h1, h2, h3, vl, hi, hr, ho, hs⟩ := h
  exact ⟨hT _ h1, h2, h3, vl, hi, hr, ho, fun g hg => hT g (hs g hg)⟩
theorem StkAt.cut {S : Nat → Prop} {w : World} {s : Nat} {l : List Int} {R : Nat} {b : Bool} (h : StkAt w S s l R b) : StkAt w (cutS S w) s l R b := by
  obtain ⟨h1, h2, h3, vl, hi, hr, ho, hs⟩ := h
  exact ⟨⟨h1, hr.lt⟩, h2, h3, vl, hi, hr, ho, fun g hg => ⟨hs g hg, (own_lt ho hg).2⟩⟩
section
variable {w : World} {S : Nat → Prop} {s R : Nat} {l : List Int} {lost : Bool}
theorem stk_len (h : StkAt w S s l R lost) : Calls Tryz.prog 234 #[.pointer (some ⟨s, 0, none⟩)] w fun e w' => e = .returned (.int .i64 (l.length : Nat)) ∧ w = w' := by
  obtain ⟨h1, h2, h3, vl, hi, hr, ho, hs⟩ := h
  obtain ⟨A, c, rfl, hc1, hc2⟩ := own_shape ho
  have c0 := hr.cell (j := 0) rfl
  clear hr ho hs
  go_enter Tryz.func234, Tryz.ntmps234
  go_wp2
  go_ret
  exact ⟨rfl, rfl⟩
theorem stk_lost (h : StkAt w S s l R lost) : Calls Tryz.prog 210 #[.pointer (some ⟨s, 0, none⟩)] w fun e w' => e = .returned (.bool lost) ∧ w = w' := by
  obtain ⟨h1, h2, h3, vl, hi, hr, ho, hs⟩ := h
  have c3 := hr.cell (j := 3) rfl
  clear hr ho hs
  go_enter Tryz.func210, Tryz.ntmps210
  go_wp2
  go_ret
  exact ⟨rfl, rfl⟩
theorem stk_found (h : StkAt w S s l R lost) : Calls Tryz.prog 211 #[.pointer (some ⟨s, 0, none⟩)] w fun e w' => e = .returned (.tuple #[]) ∧ Touch S w w' ∧ StkAt w' S s l R false := by
  obtain ⟨h1, h2, h3, vl, hi, hr, ho, hs⟩ := h
  have c3 := hr.cell (j := 3) rfl
  have f3 := hr.free 3
  have HR := hid hr
  have HO := hid ho
  have HS := hid hs
  clear hr ho hs
  go_enter Tryz.func211, Tryz.ntmps211
  go_wp2
  refine bodyPost_end (results_none rfl _ _ _) rfl ?_
  exact ⟨rfl, (Touch.refl S w).setCell (a := ⟨s, 3, none⟩) (fun _ => h1) _, h1, h2, h3, vl, hi, Rec.set HR.out 3 _, own_set_other HO.out _ (fun g hg => own_ne HO.out HR.out (by decide) hg rfl), HS.out⟩
def PopEnd (w : World) (S : Nat → Prop) (s : Nat) (l : List Int) (R : Nat) (lost : Bool) (e : Ending) (w' : World) : Prop :=
  (l = [] ∧ e = .returned (.tuple #[.int .i64 0, .bool false]) ∧ w = w') ∨ (∃ l' a, l = l' ++ [a] ∧ e = .returned (.tuple #[.int .i64 a, .bool true]) ∧ Touch S w w' ∧ StkAt w' S s l' R lost)
set_option maxRecDepth 100000 in
set_option maxHeartbeats 800000 in
theorem stk_pop (h : StkAt w S s l R lost) : Calls Tryz.prog 228 #[.pointer (some ⟨s, 0, none⟩)] w (PopEnd w S s l R lost) := by
  have HL := hid (stk_len h)
  obtain ⟨h1, h2, h3, vl, hi, hr, ho, hs⟩ := h
  rcases List.eq_nil_or_concat l with rfl | ⟨l', a, rfl⟩
  · clear hr ho hs
    go_enter Tryz.func228, Tryz.ntmps228
    go_wp2_with (go_at_call 234; refine HL.out.mono ?_; rintro e w1 ⟨rfl, rfl⟩)
    go_ret2
    exact .inl ⟨rfl, rfl, rfl⟩
  · rw [List.concat_eq_append] at *
    have hlen : (l' ++ [a]).length = l'.length + 1 := by simp
    rw [hlen] at HL ho h3
    obtain ⟨g, c, rfl, -, hc1, hc2, -⟩ := own_form ho (by omega)
    unfold maxLen at hc2
    have c0 := hr.cell (j := 0) rfl
    have f0 := hr.free 0
    have kb := own_cell ho (j := l'.length) (u := .int .i64 a) (by simp [zs])
    have HR := hid hr
    have HO := hid ho
    have HS := hid hs
    obtain ⟨N, hN⟩ : ∃ N, N = l'.length := ⟨_, rfl⟩
    rw [← hN] at HL c0 kb h3 hc1
    have HN := hid hN
    clear hr ho hs hlen hN
    go_enter Tryz.func228, Tryz.ntmps228
    go_wp2_with (go_at_call 234; refine HL.out.mono ?_; rintro e w1 ⟨rfl, rfl⟩)
    go_ret2
    refine .inr ⟨l', a, rfl, rfl, (Touch.refl S w).setCell (a := ⟨s, 0, none⟩) (fun _ => h1) _, h1, h2, by have := HN.out; omega, .slice (some ⟨g, 0, none⟩) N c, hi, Rec.set HR.out 0 _, ?_, fun g' hg => HS.out g' hg⟩
    have ho' := HO.out
    rw [show zs (l' ++ [a]) = zs l' ++ [.int .i64 a] by unfold zs; rw [List.map_append]; rfl] at ho'
    have hp := own_pop ho'
    rw [HN.out]
    exact own_set_other hp _ (fun g' hg => own_ne hp HR.out (by decide) hg rfl)
def NewStk (w : World) (R : Int) (e : Ending) (w' : World) : Prop :=
  ((R < 1 ∨ 4096 < R) ∧ e = .returned (.tuple #[.pointer none, .int .i64 5]) ∧ w = w') ∨
  (1 ≤ R ∧ R ≤ 4096 ∧ e = .returned (.tuple #[.pointer (some ⟨w.heap.size, 0, none⟩), .int .i64 0]) ∧ Gr w w' ∧ StkAt w' (fun k => w.heap.size ≤ k) w.heap.size [] R.toNat false)
set_option maxRecDepth 100000 in
theorem stk_new (R : Int) (w : World) : Calls Tryz.prog 178 #[.int .i64 R] w (NewStk w R) := by
  rcases (by omega : R < 1 ∨ (1 ≤ R ∧ 4096 < R) ∨ (1 ≤ R ∧ R ≤ 4096)) with h | h | h
  · have d0 : decide (R < 1) = true := decide_eq_true h
    go_enter Tryz.func178, Tryz.ntmps178
    go_wp2
    go_ret2
    exact .inl ⟨.inl h, rfl, rfl⟩
  · have d0 : decide (R < 1) = false := decide_eq_false (by omega)
    have d1 : decide (4096 < R) = true := decide_eq_true h.2
    go_enter Tryz.func178, Tryz.ntmps178
    go_wp2
    go_ret2
    exact .inl ⟨.inr h.2, rfl, rfl⟩
  · obtain ⟨m, rfl⟩ : ∃ m : Nat, R = m := ⟨R.toNat, by omega⟩
    have d0 : decide ((m : Int) < 1) = false := decide_eq_false (by omega)
    have d1 : decide (4096 < (m : Int)) = false := decide_eq_false (by omega)
    go_enter Tryz.func178, Tryz.ntmps178
    go_wp2
    go_ret2
    refine .inr ⟨h.1, h.2, rfl, (Gr.refl w).alloc _, Nat.le_refl _, ?_, Nat.zero_le _, .slice none 0 0, 0, ?_, own_nil _ _ _ _, (fun g hg => by cases hg)⟩
    · rw [Int.toNat_natCast]; omega
    · rw [Int.toNat_natCast]; exact Rec.new w _ _
theorem infoIntV : (Tryz.prog.info? 3).map (fun i => (i.zero, i.size, i.bytes)) = some (some (.int .i64 0), 1, 8) := by kernel_rfl
def PushEnd (w : World) (S : Nat → Prop) (s : Nat) (l : List Int) (R : Nat) (lost : Bool) (a : Int) (e : Ending) (w' : World) : Prop :=
  (R ≤ l.length ∧ e = .returned (.bool false) ∧ Touch S w w' ∧ StkAt w' (plus S w) s l R true) ∨ (l.length < R ∧ e = .returned (.bool true) ∧ Touch S w w' ∧ StkAt w' (plus S w) s (l ++ [a]) R lost)
set_option maxRecDepth 100000 in
set_option maxHeartbeats 1600000 in
theorem stk_push (h : StkAt w S s l R lost) (a : Int) : Calls Tryz.prog 227 #[.pointer (some ⟨s, 0, none⟩), .int .i64 a] w (PushEnd w S s l R lost a) := by
  obtain ⟨h1, h2, h3, vl, hi, hr, ho, hs⟩ := h
  obtain ⟨A, c, rfl, hc1, hc2⟩ := own_shape ho
  unfold maxLen at hc2
  have hmax := run_maxB2 Tryz.prog
  have c0 := hr.cell (j := 0) rfl
  have c1 := hr.cell (j := 1) rfl
  have c3 := hr.cell (j := 3) rfl
  have f3 := hr.free 3
  have hsl := hr.lt
  have HR := hid hr
  have HO := hid ho
  have HS := hid hs
  obtain ⟨N, hN⟩ : ∃ N, N = l.length := ⟨_, rfl⟩
  rw [← hN] at c0 h3 hc1
  have HN := hid hN
  have z0 : ∀ m, (w.drewN m).cell? ⟨s, 0, none⟩ = some (.slice A N c) := fun m => c0
  have z1 : ∀ m, (w.drewN m).cell? ⟨s, 1, none⟩ = some (.int .i64 R) := fun m => c1
  have z3 : ∀ m, (w.drewN m).cell? ⟨s, 3, none⟩ = some (.bool lost) := fun m => c3
  have zf : ∀ m, (w.drewN m).frozen? ⟨s, 3, none⟩ = false := fun m => f3
  clear hr ho hs hN
  by_cases hfull : R ≤ N
  · have d0 : decide (R ≤ N) = true := decide_eq_true hfull
    go_enter Tryz.func227, Tryz.ntmps227
    go_wp2
    go_quiet (fail)
    go_wp2
    go_ret
    have hg : Gr w (w.drewN nq) := (Gr.refl w).drewN nq
    refine .inl ⟨by rw [← HN.out]; exact hfull, rfl, (hg.touch S).setCell (a := ⟨s, 3, none⟩) (fun _ => h1) _, .inl h1, h2, by rw [← HN.out]; exact h3, _, hi, Rec.set (HR.out.gr hg) 3 _, own_set_other (own_gr HO.out hg) _ (fun g hg' => own_ne HO.out HR.out (by decide) hg' rfl), fun g hg' => .inl (HS.out g hg')⟩
  · have d0 : decide (R ≤ N) = false := decide_eq_false hfull
    obtain ⟨ii, hii, hi0, hi1, hi2⟩ := info_parts infoIntV
    go_enter Tryz.func227, Tryz.ntmps227
    go_wp2
    go_quiet (fail)
    have hg : Gr w (w.drewN nq) := (Gr.refl w).drewN nq
    have HG := hid hg
    have ho1 := own_gr HO.out hg
    rw [← HN.out] at ho1
    have HO1 := hid ho1
    have HR1 := hid (HR.out.gr hg)
    clear hg ho1 z0 z1 z3 zf
    go_wp2_with (at_builtin; refine wpList_append_lies _ rfl _ _ 30 rfl 0 3 ii _ 1 8 Tryz.underlying30 hii hi0 hi1 hi2 rfl (by decide) (.slice A N c) N (zs l) rfl (HO1.out.alloc _) ⟨(w.drewN nq).heap.size, 0, none⟩ 1 1 [.int .i64 a] rfl rfl (World.news_of_block (cs := #[.int .i64 a]) (t := 3) (fr := (0, 0)) (heap_alloc_new (w.drewN nq) (.cells #[.int .i64 a] 3))) (by simp [Value.oneCell']) (by omega) (by unfold maxLen; omega) (by omega) (Nat.zero_le _) ((w.drewN nq).heap.size + 1) (by simp) ?_; intro g2 c2 w2 hown2 hgrow2 hat2 hlt2; have t2 : Touch (fun k => (Value.slice A N c).ownBlock = some k) (w.drewN nq) w2 := (((Gr.refl _).alloc _).touch _).trans (grown_touch hgrow2 _ (fun k e _ => e)); have HR2 := hid (HR1.out.touch t2 (fun e => own_ne HO1.out HR1.out (by decide) e rfl rfl)); have k0 := HR2.out.cell (j := 0) rfl; have kf := HR2.out.free 0; have HT2 := hid t2; have HO2 := hid hown2; have HA2 := hid (And.intro hat2 hlt2); clear hown2 hgrow2 hat2 hlt2 t2)
    obtain ⟨W3, hW3⟩ : ∃ W3, W3 = w2.setCell ⟨s, 0, none⟩ (.slice (some ⟨g2, 0, none⟩) (N + 1) c2) := ⟨_, rfl⟩
    rw [← hW3]
    have R3 : Rec W3 s 267 [.slice (some ⟨g2, 0, none⟩) (N + 1) c2, .int .i64 R, .int .i64 hi, .bool lost] := by rw [hW3]; exact Rec.set HR2.out 0 _
    have O3 := own_set_other (q := s) (j := 0) HO2.out (.slice (some ⟨g2, 0, none⟩) (N + 1) c2) (fun g hg => own_ne HO2.out HR2.out (by decide) hg rfl)
    rw [← hW3] at O3
    have T3 : Touch S w W3 := by
      rw [hW3]
      exact ((HG.out.touch S).trans (HT2.out.mono (fun k _ hk => HS.out k (by rw [← HN.out]; exact hk)))).setCell (a := ⟨s, 0, none⟩) (fun _ => h1) _
    have y0 := R3.cell (j := 0) rfl
    have y2 := R3.cell (j := 2) rfl
    have yf := R3.free 2
    have HW3 := hid (And.intro R3 (And.intro O3 T3))
    have hsz : (w.drewN nq).heap.size = w.heap.size := rfl
    clear hW3 R3 O3 T3 k0 kf c0 c1 c3 f3
    obtain ⟨Sx, hSx⟩ : ∃ Sx : World → Prop, Sx = fun W' => W'.cell? ⟨s, 0, none⟩ = some (.slice (some ⟨g2, 0, none⟩) (N + 1) c2) ∧ W'.cell? ⟨s, 2, none⟩ = some (.int .i64 hi) := ⟨_, rfl⟩
    have x0 : ∀ p' : Held Sx, p'.w.cell? ⟨s, 0, none⟩ = some (.slice (some ⟨g2, 0, none⟩) (N + 1) c2) := fun p' => (Held.get hSx p').1
    have x2 : ∀ p' : Held Sx, p'.w.cell? ⟨s, 2, none⟩ = some (.int .i64 hi) := fun p' => (Held.get hSx p').2
    have hS0 : Sx W3.drew := by rw [hSx]; exact ⟨y0, y2⟩
    clear hSx
    have inst : Inhabited (Held Sx) := ⟨⟨_, hS0⟩⟩
    refine wp_region_mixS Sx 13 [([0, 1, 2, 3, 4, 5, 6, 7, 8, 9, 10, 11, 12], 13)] [] (by kernel_rfl) (by kernel_rfl) hS0 ?_
    refine segs_step ?_
    simp only [opsAt, List.getElem?_cons_zero, List.getElem?_cons_succ]
    repeat (go_big_quiet_step (fail))
    refine wpQuiet_nil ?_
    go_wp2
    refine ⟨.inl trivial, ?_⟩
    refine segs_end ?_
    refine wpQuiet_nil ?_
    refine NoPanic.normal ?_
    clear x0 x2 hS0 inst
    clear Sx
    go_wp2
    go_ret
    obtain ⟨R3, O3, T3⟩ := HW3.out
    have hA2 := HA2.out
    refine .inr ⟨by rw [← HN.out]; omega, rfl, (T3.setCell (a := ⟨s, 2, none⟩) (fun _ => h1) _).drew, .inl h1, h2, by rw [List.length_append, ← HN.out]; simp; omega, .slice (some ⟨g2, 0, none⟩) (N + 1) c2, max hi ((N : Int) + 1), Rec.gr (Rec.set R3 2 _) (Gr.refl _).drew, ?_, fun g hg => ?_⟩
    · rw [List.length_append, ← HN.out, show zs (l ++ [a]) = zs l ++ [.int .i64 a] by unfold zs; rw [List.map_append]; rfl]
      exact own_gr (own_set_other O3 _ (fun g hg => own_ne O3 R3 (by decide) hg rfl)) (Gr.refl _).drew
    · cases hg
      rcases hA2.1 with h | h
      · exact .inl (HS.out _ (by rw [← HN.out]; exact h))
      · right
        show w.heap.size ≤ g2
        omega
end
end Go.Proofs.YtbmidhlilafgeaaGreatDoor
end

section
namespace Go.Proofs.YtbmidhlilafgeaaGreatDoor
open Go.RowKit Word

/-- A table of root slots: its block, the block of its row, the slots' addresses. -/
structure RtAt (w : World) (r g : Nat) (rs : List Int) : Prop where
  rcd : Rec w r 102 [.slice (some ⟨g, 0, none⟩) rs.length rs.length]
  row : w.ownsRow 0 3 1 (.slice (some ⟨g, 0, none⟩) rs.length rs.length) rs.length (zs rs)
  ne : rs ≠ []
  le : rs.length ≤ 64
theorem zs_set (l : List Int) (i : Nat) (a : Int) : (zs l).set i (.int .i64 a) = zs (l.set i a) := by unfold zs; rw [List.map_set]
theorem RtAt.touch {S : Nat → Prop} {w w' : World} {r g : Nat} {rs : List Int} (h : RtAt w r g rs) (t : Touch S w w') (h1 : ¬ S r) (h2 : ¬ S g) : RtAt w' r g rs :=
  ⟨h.rcd.touch t h1, own_touch h.row t (fun g' hg => by cases hg; exact h2), h.ne, h.le⟩
theorem RtAt.gr {w w' : World} {r g : Nat} {rs : List Int} (h : RtAt w r g rs) (t : Gr w w') : RtAt w' r g rs := ⟨h.rcd.gr t, own_gr h.row t, h.ne, h.le⟩
theorem RtAt.lt {w : World} {r g : Nat} {rs : List Int} (h : RtAt w r g rs) : r < w.heap.size ∧ g < w.heap.size := ⟨h.rcd.lt, (own_lt h.row rfl).2⟩
theorem RtAt.dif {w : World} {r g : Nat} {rs : List Int} (h : RtAt w r g rs) : g ≠ r := own_ne h.row h.rcd (by decide) rfl rfl
theorem RtAt.set {w : World} {r g : Nat} {rs : List Int} (h : RtAt w r g rs) (i : Nat) (a : Int) : RtAt (w.setCell ⟨g, i, none⟩ (.int .i64 a)) r g (rs.set i a) := by
  have hl : (rs.set i a).length = rs.length := List.length_set
  refine ⟨?_, ?_, fun e => h.ne ?_, by rw [hl]; exact h.le⟩
  · rw [hl]
    exact own_set_other h.rcd _ (fun g' hg e => by cases hg; exact h.dif e.symm)
  · rw [hl]
    have := (World.ownsRow.stored h.row i (.int .i64 a)).1
    rw [zs_set] at this
    exact this
  · have : (rs.set i a).length = 0 := by rw [e]; rfl
    rw [hl] at this
    exact List.eq_nil_of_length_eq_zero this
theorem RtAt.cell {w : World} {r g : Nat} {rs : List Int} (h : RtAt w r g rs) {i : Nat} (hi : i < rs.length) : w.cell? ⟨g, i, none⟩ = some (.int .i64 rs[i]) := own_cell h.row (zs_at hi)
section
variable {w : World} {r g : Nat} {rs : List Int}
/-- Whether there is a slot. -/
def slE (rs : List Int) (i : Int) : Int := if 0 ≤ i ∧ i < rs.length then 0 else 17
set_option maxRecDepth 100000 in
theorem rt_check (h : RtAt w r g rs) {b : Nat} {i : Int} (hc : w.cell? ⟨b, 0, none⟩ = some (.int .i64 i)) : Calls Tryz.prog 90 #[.pointer (some ⟨r, 0, none⟩), .slice (some ⟨b, 0, none⟩) 1 1] w fun e w' => e = .returned (.int .i64 (slE rs i)) ∧ w = w' := by
  have c0 := h.rcd.cell (j := 0) rfl
  have hle := h.le
  have hbl := lt_cell hc
  clear h
  obtain ⟨n, hn⟩ : ∃ n, n = rs.length := ⟨_, rfl⟩
  unfold slE
  rw [← hn] at c0 hle ⊢
  rcases (by omega : i < 0 ∨ (0 ≤ i ∧ (n : Int) ≤ i) ∨ (0 ≤ i ∧ i < n)) with h1 | h1 | h1
  · have d0 : decide (i < 0) = true := decide_eq_true h1
    have e0 : (if 0 ≤ i ∧ i < (n : Int) then (0 : Int) else 17) = 17 := if_neg (by omega)
    rw [e0]
    go_enter Tryz.func90, Tryz.ntmps90
    go_wp2
    go_loopw [11] (fun s11 wr => wr = w ∧ s11 = .int .i64 0) (fun _ _ => 0)
    case atStart => exact ⟨rfl, rfl⟩
    case round =>
      obtain ⟨rfl, rfl⟩ := hrel
      go_wp2
      go_ret
      exact ⟨rfl, rfl⟩
  · obtain ⟨h1, h2⟩ := h1
    have d0 : decide (i < 0) = false := decide_eq_false (by omega)
    have d1 : decide ((n : Int) ≤ i) = true := decide_eq_true h2
    have e0 : (if 0 ≤ i ∧ i < (n : Int) then (0 : Int) else 17) = 17 := if_neg (by omega)
    rw [e0]
    go_enter Tryz.func90, Tryz.ntmps90
    go_wp2
    go_loopw [11] (fun s11 wr => wr = w ∧ s11 = .int .i64 0) (fun _ _ => 0)
    case atStart => exact ⟨rfl, rfl⟩
    case round =>
      obtain ⟨rfl, rfl⟩ := hrel
      go_wp2
      go_ret
      exact ⟨rfl, rfl⟩
  · obtain ⟨h1, h2⟩ := h1
    have d0 : decide (i < 0) = false := decide_eq_false (by omega)
    have d1 : decide ((n : Int) ≤ i) = false := decide_eq_false (by omega)
    have e0 : (if 0 ≤ i ∧ i < (n : Int) then (0 : Int) else 17) = 0 := if_pos ⟨h1, h2⟩
    rw [e0]
    go_enter Tryz.func90, Tryz.ntmps90
    go_wp2
    go_loopw [11] (fun s11 wr => ∃ j : Nat, j ≤ 1 ∧ wr = w ∧ s11 = .int .i64 j) (fun s11 _ => 1 - (intOf s11).toNat)
    case atStart => exact ⟨0, by omega, by simp⟩
    case round =>
      obtain ⟨j, hj, rfl, rfl⟩ := hrel
      rcases (by omega : j = 0 ∨ j = 1) with rfl | rfl
      · go_wp2
        go_round
        case rel => exact ⟨1, by omega, trivial, by go_num⟩
        case measure => simp [intOf]
      · go_wp2
        go_ret
        exact ⟨rfl, rfl⟩
theorem rt_len (h : RtAt w r g rs) : Calls Tryz.prog 63 #[.pointer (some ⟨r, 0, none⟩)] w fun e w' => e = .returned (.int .i64 (rs.length : Nat)) ∧ w = w' := by
  have c0 := h.rcd.cell (j := 0) rfl
  clear h
  go_enter Tryz.func63, Tryz.ntmps63
  go_wp2
  go_ret
  exact ⟨rfl, rfl⟩
theorem rt_len_nil (w : World) : Calls Tryz.prog 63 #[.pointer none] w fun e w' => e = .returned (.int .i64 0) ∧ w = w' := by
  go_enter Tryz.func63, Tryz.ntmps63
  go_wp2
  go_ret
  exact ⟨rfl, rfl⟩
set_option maxRecDepth 100000 in
theorem rt_get (h : RtAt w r g rs) {i : Nat} (hi : i < rs.length) : Calls Tryz.prog 65 #[.pointer (some ⟨r, 0, none⟩), .int .i64 i] w fun e w' => e = .returned (.tuple #[.int .i64 rs[i], .int .i64 0]) ∧ Gr w w' := by
  have HC := hid (rt_check (h.gr ((Gr.refl w).alloc (.cells #[.int .i64 i] 3))) (b := w.heap.size) (i := i) ((Rec.new w 3 [.int .i64 i]).cell (j := 0) rfl))
  rw [show slE rs i = 0 from if_pos ⟨by omega, by omega⟩] at HC
  have h' := h.gr ((Gr.refl w).alloc (.cells #[.int .i64 i] 3))
  have c0 := h'.rcd.cell (j := 0) rfl
  have c1 := h'.cell hi
  have hle := h'.le
  obtain ⟨x, hx⟩ : ∃ x, x = rs[i] := ⟨_, rfl⟩
  rw [← hx] at c1 ⊢
  obtain ⟨n, hn⟩ : ∃ n, n = rs.length := ⟨_, rfl⟩
  rw [← hn] at c0 hle hi
  clear h h' hx hn
  go_enter Tryz.func65, Tryz.ntmps65
  go_wp2_with (go_at_call 90; refine HC.out.mono ?_; rintro e w1 ⟨rfl, rfl⟩)
  go_ret2
  exact ⟨rfl, (Gr.refl w).alloc _⟩
set_option maxRecDepth 100000 in
theorem rt_set (h : RtAt w r g rs) {i : Nat} (hi : i < rs.length) {a : Int} (ha : 0 ≤ a) : Calls Tryz.prog 29 #[.pointer (some ⟨r, 0, none⟩), .int .i64 i, .int .i64 a] w fun e w' => e = .returned (.int .i64 0) ∧ Touch (fun k => k = g) w w' ∧ RtAt w' r g (rs.set i a) := by
  have HC := hid (rt_check (h.gr ((Gr.refl w).alloc (.cells #[.int .i64 i] 3))) (b := w.heap.size) (i := i) ((Rec.new w 3 [.int .i64 i]).cell (j := 0) rfl))
  rw [show slE rs i = 0 from if_pos ⟨by omega, by omega⟩] at HC
  have h' := h.gr ((Gr.refl w).alloc (.cells #[.int .i64 i] 3))
  have HR := hid h'
  have c0 := h'.rcd.cell (j := 0) rfl
  have c1 := h'.cell hi
  have cf := own_free h'.row i
  have hle := h'.le
  have d0 : decide (a < 0) = false := decide_eq_false (by omega)
  obtain ⟨n, hn⟩ : ∃ n, n = rs.length := ⟨_, rfl⟩
  rw [← hn] at c0 hle hi
  clear h h' hn
  go_enter Tryz.func29, Tryz.ntmps29
  go_wp2_with (go_at_call 90; refine HC.out.mono ?_; rintro e w1 ⟨rfl, rfl⟩)
  go_ret
  exact ⟨rfl, Touch.setCell (S := fun k => k = g) (((Gr.refl w).alloc _).touch _) (a := ⟨g, i, none⟩) (fun _ => rfl) _, HR.out.set i a⟩
theorem made_ints (n : Nat) : (madeCells #[.int .i64 0] n).toList = zs (List.replicate n 0) := by
  unfold madeCells zs
  apply List.ext_getElem
  · simp
  · intro i h1 h2
    simp [Nat.mod_one]
theorem infoIntV' : (Tryz.prog.info? 3).map (fun i => (i.zero, i.size, i.bytes)) = some (some (.int .i64 0), 1, 8) := by kernel_rfl
set_option maxRecDepth 100000 in
set_option maxHeartbeats 800000 in
theorem rt_new {n : Nat} (h1 : 1 ≤ n) (h2 : n ≤ 64) (w : World) : Calls Tryz.prog 58 #[.int .i64 n] w fun e w' => ∃ r g, e = .returned (.tuple #[.pointer (some ⟨r, 0, none⟩), .int .i64 0]) ∧ Gr w w' ∧ RtAt w' r g (List.replicate n 0) ∧ w.heap.size ≤ r ∧ w.heap.size ≤ g := by
  obtain ⟨i0, hi, hz0, hz1, hz2⟩ := info_parts infoIntV'
  have HB : Hid (i0.bytes * n ≤ 281474976710656) := ⟨by rw [hz2]; omega⟩
  have HM : Hid (n ≤ maxLen) := ⟨by unfold maxLen; omega⟩
  have d0 : decide ((n : Int) < 1) = false := decide_eq_false (by omega)
  have d1 : decide (64 < (n : Int)) = false := decide_eq_false (by omega)
  go_enter Tryz.func58, Tryz.ntmps58
  go_wp2_with (at_make; refine wpList_make_full _ rfl _ _ 30 rfl w.heap.size 3 i0 (.int .i64 0) 1 Tryz.underlying30 hi hz0 hz1 .i64 .i64 _ _ n rfl rfl ?h1 ?h2 HB.out HM.out (Nat.le_refl _) ?h3)
  case h1 => omega
  case h2 => omega
  case h3 =>
    intro w1 hown hgrow
    have hg1 : Gr w w1 := (grownBy_touch hgrow (fun _ => False) (fun k e _ => by cases e)).gr
    have HO := hid hown
    have HG := hid hg1
    clear hown hgrow hg1
    go_wp2
    go_ret2
    obtain ⟨g, c, hv, hg2, -, -⟩ := slice_of_own HO.out (by omega)
    simp only [Value.slice.injEq, Option.some.injEq, Addr.mk.injEq, and_true, true_and] at hv
    have hl : (List.replicate n (0 : Int)).length = n := List.length_replicate
    refine ⟨w1.heap.size, w.heap.size, ret2 rfl rfl, HG.out.alloc _, ⟨?_, ?_, fun e => ?_, by rw [hl]; exact h2⟩, HG.out.size, Nat.le_refl _⟩
    · rw [hl]; exact Rec.new w1 _ _
    · rw [hl]
      have := own_gr (own_zero HO.out) ((Gr.refl w1).alloc (.cells #[.slice (some ⟨w.heap.size, 0, none⟩) n n] 102))
      rw [made_ints] at this
      exact this
    · have := congrArg List.length e
      rw [hl] at this
      simp at this
      omega
set_option maxRecDepth 100000 in
set_option maxHeartbeats 800000 in
theorem clone_ints {n b cap : Nat} {l : List Int} (hn : n = l.length) (hn0 : n ≠ 0) (hb : b < w.heap.size) (hc : ∀ i (h : i < l.length), w.cell? ⟨b, i, none⟩ = some (.int .i64 l[i])) (hl : n ≤ 64) :
    Calls Tryz.prog 66 #[.slice (some ⟨b, 0, none⟩) n cap] w fun e w' => ∃ g c, e = .returned (.slice (some ⟨g, 0, none⟩) n c) ∧ Gr w w' ∧ w.heap.size ≤ g ∧ w'.ownsRow 0 3 1 (.slice (some ⟨g, 0, none⟩) n c) n (zs l) := by
  obtain ⟨i0, hi, hz0, hz1, hz2⟩ := info_parts infoIntV'
  have hsn := Lib.run_eql_slice_nil (P := Tryz.prog) w 30 3 (some ⟨b, 0, none⟩) n cap 0 0 Tryz.underlying30
  have hown : (w.alloc (.cells #[] 3)).ownsRow w.heap.size 3 1 (.slice (some ⟨w.heap.size, 0, none⟩) 0 0) 0 [] :=
    ⟨rfl, .inr ⟨w.heap.size, 0, #[], rfl, Nat.le_refl _, heap_alloc_new w _, Nat.le_refl _, by unfold maxLen; omega, rfl, rfl⟩⟩
  have hcell : ∀ (j : Nat) (u : Value), (zs l)[j]? = some u → (w.alloc (.cells #[] 3)).cell? (Addr.add ⟨b, 0, none⟩ j) = some u := fun j u hj => by
    have hjl : j < l.length := by
      rcases Nat.lt_or_ge j l.length with h | h
      · exact h
      · rw [List.getElem?_eq_none (by simpa [zs] using h)] at hj; cases hj
    rw [zs_at hjl] at hj
    cases hj
    have e : Addr.add ⟨b, 0, none⟩ j = ⟨b, j, none⟩ := by unfold Addr.add; split <;> simp_all
    rw [e, World.cell?_alloc_lt (h := hb), hc j hjl]
  have h1c : ∀ u ∈ zs l, u.oneCell' = true := fun u hu => by
    obtain ⟨i, _, rfl⟩ := List.mem_map.1 hu; rfl
  have HO := hid hown
  have HC := hid hcell
  have H1 := hid h1c
  have HL := hid (show n = (zs l).length by rw [hn]; simp [zs])
  have HN0 := hid hn0
  clear hown hcell h1c hn0 hc hn
  go_enter Tryz.func66, Tryz.ntmps66
  go_wp2_with (at_builtin; (refine wpList_append_own _ rfl _ _ 30 rfl w.heap.size 3 i0 (.int .i64 0) 1 8 Tryz.underlying30 hi hz0 hz1 hz2 rfl (by decide) _ _ _ rfl HO.out ⟨b, 0, none⟩ n cap (zs l) rfl (by rw [← HL.out]; omega) HC.out H1.out (by unfold maxLen; omega) (by omega) (by simp) ?_); intro v' w1 hown1 hgrow _; obtain ⟨g, c, hv, hg1, hg2, hg3⟩ := slice_of_own hown1 (by have := HN0.out; omega); subst hv)
  go_ret
  have hgrow' : (w.alloc (.cells #[] 3)).grownBy w1 (some w.heap.size) := hgrow
  refine ⟨g, c, by simp, ?_, hg1, by simpa using own_zero hown1⟩
  refine Touch.gr ((((Gr.refl w).alloc _).touch _).trans' (grownBy_touch hgrow' (fun k => k = w.heap.size) (fun k e _ => by cases e; rfl)) ?_)
  rintro i hi rfl; omega
set_option maxRecDepth 100000 in
theorem rt_all (h : RtAt w r g rs) : Calls Tryz.prog 16 #[.pointer (some ⟨r, 0, none⟩)] w fun e w' => ∃ g c, e = .returned (.slice (some ⟨g, 0, none⟩) rs.length c) ∧ Gr w w' ∧ w.heap.size ≤ g ∧ w'.ownsRow 0 3 1 (.slice (some ⟨g, 0, none⟩) rs.length c) rs.length (zs rs) := by
  have c0 := h.rcd.cell (j := 0) rfl
  have HCL := hid (clone_ints (w := w) (b := g) (cap := rs.length) rfl (fun e => h.ne (List.eq_nil_of_length_eq_zero e)) h.lt.2 (fun i hi => h.cell hi) h.le)
  clear h
  go_enter Tryz.func16, Tryz.ntmps16
  go_wp2_with (go_at_call 66; refine HCL.out.mono ?_; rintro e w1 ⟨g1, c1, rfl, hg1, hg2, ho⟩; have HG1 := hid hg1; have HG2 := hid hg2; have HO1 := hid ho; clear hg1 hg2 ho)
  go_ret
  exact ⟨g1, c1, rfl, HG1.out, HG2.out, HO1.out⟩
end
end Go.Proofs.YtbmidhlilafgeaaGreatDoor
end

section
namespace Go.Proofs.YtbmidhlilafgeaaGreatDoor
open Go.RowKit Word

section
variable {w : World} {r g : Nat} {rs : List Int}
/-- What a round's call leaves. -/
def TurnStep (g r : Nat) (rs : List Int) (i : Nat) (out : List Int) (J : Nat → World → List Int → Prop) (e : Ending) (W' : World) : Prop :=
  ∃ b : Int, e = .returned (.int .i64 b) ∧ RtAt W' r g (out ++ rs.drop i) ∧ ∀ W'', Touch (fun k => k = g) W' W'' → J (i + 1) W'' (out ++ [max b 0])
theorem rt_split {out rs : List Int} {i : Nat} (hi : i < rs.length) (ho : out.length = i) (b : Int) : (out ++ rs.drop i).set i b = (out ++ [b]) ++ rs.drop (i + 1) := by
  subst ho
  rw [List.set_append_right _ _ (Nat.le_refl _), Nat.sub_self, List.drop_eq_getElem_cons hi, List.set_cons_zero, List.append_assoc]
  rfl
theorem rt_at {out rs : List Int} {i : Nat} (hi : i < rs.length) (ho : out.length = i) (h : i < (out ++ rs.drop i).length) : (out ++ rs.drop i)[i] = rs[i] := by
  subst ho
  simp
set_option maxRecDepth 100000 in
set_option maxHeartbeats 3200000 in
theorem rt_turn {F : Nat} {pre caps : Array Value} (J : Nat → World → List Int → Prop) (hcf : ∀ args w, (callFunc F args).run Tryz.prog w = .ok (.enter F args) w)
    (h : RtAt w r g rs) (h0 : J 0 w [])
    (hz : ∀ i (hi : i < rs.length) W out, out.length = i → J i W out → rs[i] = 0 → J (i + 1) W (out ++ [0]))
    (hF : ∀ i (hi : i < rs.length) W out, out.length = i → J i W out → RtAt W r g (out ++ rs.drop i) → rs[i] ≠ 0 → ∀ W0, Gr W W0 → Calls Tryz.prog F (pre ++ #[.int .i64 rs[i]] ++ caps) W0 (TurnStep g r rs i out J)) :
    Calls Tryz.prog 68 #[.pointer (some ⟨r, 0, none⟩), .func (.func F) pre caps] w fun e w' => e = .returned (.tuple #[]) ∧ ∃ out, out.length = rs.length ∧ J rs.length w' out ∧ RtAt w' r g out := by
  have hle := h.le
  obtain ⟨n, hn⟩ : ∃ n, n = rs.length := ⟨_, rfl⟩
  have c0 := h.rcd.cell (j := 0) rfl
  have HN := hid hn
  have HR := hid h
  have HJ0 := hid h0
  have HZ := hid hz
  have HF := hid hF
  rw [← hn] at c0 hle ⊢
  clear h h0 hz hF hn
  go_enter Tryz.func68, Tryz.ntmps68
  go_wp2
  go_loopw [13] (fun s13 wr => ∃ (i : Nat) (out : List Int), i ≤ n ∧ Hid (out.length = i) ∧ Hid (J i wr out) ∧ Hid (RtAt wr r g (out ++ rs.drop i)) ∧ s13 = .int .i64 i) (fun s13 _ => n - (intOf s13).toNat)
  case atStart => exact ⟨0, [], by omega, ⟨rfl⟩, HJ0, HR, rfl⟩
  case round =>
    obtain ⟨i, out, hi, HO, HJ, HT, rfl⟩ := hrel
    clear c0
    by_cases hlast : i = n
    · subst hlast
      go_wp2
      refine bodyPost_end (results_none rfl _ _ _) rfl ?_
      refine ⟨rfl, out, HO.out, HJ.out, ?_⟩
      have := HT.out
      rw [HN.out, List.drop_length, List.append_nil] at this
      exact this
    · have hil : i < rs.length := by have := HN.out; omega
      have hlen : (out ++ rs.drop i).length = n := by have := HO.out; have := HN.out; simp; omega
      have hiI : (i : Int) < (n : Int) := by omega
      have c1 := HT.out.cell (i := i) (by rw [hlen]; omega)
      rw [rt_at hil HO.out] at c1
      obtain ⟨a, ha⟩ : ∃ a, a = rs[i] := ⟨_, rfl⟩
      have HA := hid ha
      have HIL := hid hil
      have HLL := hid hlen
      have HNL := hid hlast
      rw [← ha] at c1
      clear ha hlast
      by_cases ha0 : a = 0
      · subst ha0
        clear hlen
        go_wp2
        go_round
        case rel =>
          refine ⟨i + 1, out ++ [0], by have := HNL.out; omega, ⟨by have := HO.out; simp [this]⟩, ⟨HZ.out i HIL.out _ out HO.out HJ.out HA.out.symm⟩, ⟨?_⟩, by go_num⟩
          have := HT.out
          rw [List.drop_eq_getElem_cons HIL.out, ← HA.out] at this
          simpa using this
        case measure => have := HNL.out; simp [intOf]; omega
      · have d0 : (a != 0) = true := by simpa using ha0
        have HCALL := hid (HF.out i HIL.out wr out HO.out HJ.out HT.out (by rw [← HA.out]; exact ha0) _ (Gr.refl wr).drew)
        rw [← HA.out] at HCALL
        unfold TurnStep at HCALL
        have y0 := HT.out.rcd.cell (j := 0) rfl
        rw [hlen] at y0
        have hrl := HT.out.lt
        clear hlen
        go_upto_region 5 with (fail)
        obtain ⟨Sx, hSx⟩ : ∃ Sx : World → Prop, Sx = fun W' => W'.cell? ⟨r, 0, none⟩ = some (.slice (some ⟨g, 0, none⟩) n n) := ⟨_, rfl⟩
        have x0 : ∀ p' : Held Sx, p'.w.cell? ⟨r, 0, none⟩ = some (.slice (some ⟨g, 0, none⟩) n n) := fun p' => Held.get hSx p'
        have hS0 : Sx wr.drew := by rw [hSx]; exact y0
        have HSX := hid hSx
        clear hSx
        have inst : Inhabited (Held Sx) := ⟨⟨_, hS0⟩⟩
        have hmax := run_maxB2 Tryz.prog
        refine wp_region_mixS Sx 10 [([0, 1, 2, 3, 4, 5, 6], 7), ([8, 9], 10)] [] (by kernel_rfl) (by kernel_rfl) hS0 ?_
        refine segs_step ?_
        simp only [opsAt, List.getElem?_cons_zero, List.getElem?_cons_succ]
        repeat (go_big_quiet_step (fail))
        refine wpQuiet_nil ?_
        go_wp2_with (refine HCALL.out.mono ?_; rintro e w3 ⟨b, rfl, hr3, hj3⟩; have HR3 := hid hr3; have HJ3 := hid hj3; have z0 := hr3.rcd.cell (j := 0) rfl; have z1 := hr3.cell (i := i) (by rw [HLL.out]; have := HNL.out; omega); have zf := own_free hr3.row i; rw [HLL.out] at z0; clear hr3 hj3)
        refine ⟨.inr (Held.of (by rw [HSX.out]; exact z0)), ?_⟩
        refine segs_step ?_
        simp only [opsAt, List.getElem?_cons_zero, List.getElem?_cons_succ]
        repeat (go_big_quiet_step (fail))
        refine wpQuiet_nil ?_
        go_wp2
        refine ⟨.inl trivial, ?_⟩
        refine segs_end ?_
        refine wpQuiet_nil ?_
        refine NoPanic.normal ?_
        clear x0 hS0 inst
        go_wp2
        go_round
        case rel =>
          refine ⟨i + 1, out ++ [max b 0], by have := HNL.out; omega, ⟨by have := HO.out; simp [this]⟩, ⟨HJ3.out _ ?_⟩, ⟨?_⟩, by go_num⟩
          · exact Touch.setCell (S := fun k => k = g) (Touch.refl _ _) (a := ⟨g, i, none⟩) (fun _ => rfl) _
          · have := HR3.out.set i (max b 0)
            rw [rt_split HIL.out HO.out] at this
            exact this
        case measure => have := HNL.out; simp [intOf]; omega
end
end Go.Proofs.YtbmidhlilafgeaaGreatDoor
end
end
section
section
namespace Go.Proofs.YtbmidhlilafgeaaGreatDoor
open Go.RowKit

section
variable {F : Fence} {n : Nat} {P : Program}
/-- The iterator's contract, as SeqT; its own steps turn K blocks alone, those that it makes first. -/
def SeqU (K : Nat) {σ α : Type} (F : Fence) (n : Nat) (P : Program) (g : Nat) (lb : Array Value) (encs : α → Array Value) (Inv : σ → World → Prop) (gives : σ → α → Prop) (next : σ → α → σ → Prop) (fin : σ → Prop) (s0 : σ) (w : World) : Prop :=
  ∀ (l : Nat) (J : σ → World → Prop) (Jx : World → Prop) (W : World), Gr w W → (∀ s A B, J s A → Touch (fun k => W.heap.size ≤ k ∧ k < W.heap.size + K) A B → J s B) → (∀ A B, Jx A → Touch (fun k => W.heap.size ≤ k ∧ k < W.heap.size + K) A B → Jx B) → (∀ s A, J s A → Inv s A) →
    (∀ s x W1, J s W1 → W.heap.size + K ≤ W1.heap.size → gives s x → YieldAt F (n - 1) P l (encs x) W1 fun e W' => ((e = .returned (.bool true) ∧ ∃ s', next s x s' ∧ J s' W') ∨ (e = .returned (.bool false) ∧ Jx W')) ∧ Touch (fun k => k < W.heap.size ∨ W.heap.size + K ≤ k) W1 W') →
    J s0 W → CallsIn F n P g (#[.func (.yield l) #[] #[]] ++ lb) W fun e W' => (∃ v, e = .returned v) ∧ ((∃ s, fin s ∧ J s W') ∨ Jx W')
/-- What a round must come to. -/
def roundEndU {σ α : Type} (B K : Nat) (I : σ → World → Prop) (Ix : Code → World → Prop) (next : σ → α → σ → Prop) (s : σ) (x : α) (W : World) : Exit → Act → World → Prop
  | .normal, _, W' => Touch (fun k => k < B ∨ B + K ≤ k) W W' ∧ ∃ s', next s x s' ∧ I s' W'
  | .ret, _, W' => Touch (fun k => k < B ∨ B + K ≤ k) W W' ∧ Ix .ret W'
  | .exit id, _, W' => Touch (fun k => k < B ∨ B + K ≤ k) W W' ∧ Ix (.exit id) W'
  | .goto t, _, W' => Touch (fun k => k < B ∨ B + K ≤ k) W W' ∧ Ix (.goto t) W'
  | _, _, _ => False
theorem SeqS.toU {σ α : Type} {g : Nat} {lb : Array Value} {encs : α → Array Value} {Inv : σ → World → Prop} {gives : σ → α → Prop} {next : σ → α → σ → Prop} {fin : σ → Prop} {s0 : σ} {w : World} (h : SeqS F n P g lb encs Inv gives next fin s0 w) : SeqU 0 F n P g lb encs Inv gives next fin s0 w := by
  intro l J Jx W hg hJ hJx hI hY h0
  refine h l (fun s A => J s A ∧ W.heap.size ≤ A.heap.size) Jx W hg (fun s A B hs hAB => ⟨hJ s A B hs.1 (hAB.touch _), Nat.le_trans hs.2 hAB.size⟩) (fun A B hs hAB => hJx A B hs (hAB.touch _)) (fun s A hs => hI s A hs.1) ?_ ⟨h0, Nat.le_refl _⟩ |>.mono ?_
  · rintro s x W1 ⟨hs, hsz⟩ hx
    refine (hY s x W1 hs hsz hx).mono ?_
    rintro e W' ⟨⟨he, s', hn, hJ'⟩ | ⟨he, hx'⟩, ht⟩
    · exact .inl ⟨he, s', hn, hJ', Nat.le_trans hsz ht.size⟩
    · exact .inr ⟨he, hx'⟩
  · rintro e W' ⟨hv, ⟨s, hs, hJ', _⟩ | hx⟩
    · exact ⟨hv, .inl ⟨s, hs, hJ'⟩⟩
    · exact ⟨hv, .inr hx⟩
theorem range_lawU {σ α : Type} {g : Operand} {ps : Array Tmp} {assign body : Code} {Q : Exit → Act → World → Prop} {a : Act} {w : World}
    (hro : F.round = none) (h1 : 1 ≤ n) {gf : Nat} {lb : Array Value} (hg : a.eval g = .func (.func gf) #[] lb) (hFg : F.fn gf) (eg : ∀ args w, (callFunc gf args).run P w = .ok (.enter gf args) w)
    {encs : α → Array Value} {Inv : σ → World → Prop} {gives : σ → α → Prop} {next : σ → α → σ → Prop} {fin : σ → Prop} {s0 : σ} {K : Nat} (hseq : SeqU K F (n - 1) P gf lb encs Inv gives next fin s0 w)
    (hps : ∀ x, (encs x).size = ps.size)
    (I : σ → World → Prop) (Ix : Code → World → Prop) (hI : ∀ s A B, I s A → Touch (fun k => w.heap.size ≤ k ∧ k < w.heap.size + 2 + K) A B → I s B) (hIx : ∀ c A B, Ix c A → Touch (fun k => w.heap.size ≤ k ∧ k < w.heap.size + 2 + K) A B → Ix c B)
    (hInv : ∀ s A, I s A → Inv s A) (h0 : I s0 w)
    (hround : ∀ (l : Nat) (s : σ) (x : α) (W : World), w.heap.size + 2 + K ≤ W.heap.size → I s W → gives s x →
      assign.wpIn (F.inRound l) (n - 1 - 1) P (Exit.then (fun a' Wa => Gr W Wa ∧ ∀ W2, Touch (fun k => k = w.heap.size + 1) Wa W2 → I s W2 → body.wpIn (F.inRound l) (n - 1 - 1) P (roundEndU w.heap.size (2 + K) I Ix next s x W2) a' W2) (fun _ _ _ => False))
        { tmps := (ps.zip (encs x)).foldl (fun t (p, v) => t.setIfInBounds p v) a.tmps, defers := [] } W)
    (hdone : ∀ (D : Nat) (s : σ) (W : World), D = w.heap.size → fin s → I s W → W.heap[D]? = some (.deferred (some [])) → Q .normal { a with defers := { target := .collected D, args := #[] } :: a.defers } W)
    (hstop : ∀ (D : Nat) (c : Code) (W : World), D = w.heap.size → Ix c W → W.heap[D]? = some (.deferred (some [])) → c.wpIn F n P Q { a with defers := { target := .collected D, args := #[] } :: a.defers } W) :
    (Code.rangeFunc g ps assign body).wpIn F n P Q a w := by
  refine wpIn_rangeFunc ?_
  intro fn hfn
  rw [hro]
  obtain ⟨rec, hrec⟩ : ∃ rec : LoopState → Option Code → Loop, rec = fun st pe => { state := st, pending := pe, fn, tmps := a.tmps, params := ps, assign, body, defers := w.heap.size } := ⟨_, rfl⟩
  obtain ⟨W1, hW1⟩ : ∃ W1, (w.alloc (.deferred (some []))).alloc (.loop (rec .ready none)) = W1 := ⟨_, rfl⟩
  have hL1 : W1.heap[w.heap.size + 1]? = some (.loop (rec .ready none)) := by
    rw [← hW1]; have := World.alloc_heap_new (w.alloc (.deferred (some []))) (.loop (rec .ready none)); rwa [World.size_alloc] at this
  have hK1 : W1.heap[w.heap.size]? = some (.deferred (some [])) := by
    rw [← hW1]; exact (Below.heap_alloc _ _ _ (by simp)).trans (World.alloc_heap_new w _)
  have hg1 : Gr w W1 := by rw [← hW1]; exact ((Gr.refl w).alloc _).alloc _
  have tt : ∀ {A B : World}, Gr A B → Touch (fun k => w.heap.size ≤ k ∧ k < w.heap.size + 2 + K) A B := fun h => h.touch _
  have lt_of : ∀ {A : World} {k : Nat} {o : Obj}, A.heap[k]? = some o → k < A.heap.size := fun h => (Array.getElem?_eq_some_iff.1 h).1
  refine ⟨w.heap.size + 1, [{ target := .collected w.heap.size, args := #[] }], W1, { target := .fn (.func gf) lb, args := #[.func (.yield (w.heap.size + 1)) #[] #[]] }, W1, gf,
    #[.func (.yield (w.heap.size + 1)) #[] #[]] ++ lb, W1, ?_, ?_, ?_, ?_, fun _ => h1, ?_⟩
  · rw [← hW1, hrec]; exact run_enterLoop_outer _ _ _ _ _
  · simp only [resolve, hg]
    simp [go_sem]
  · intro f' hf'; simp [Target.leads] at hf'; subst hf'; exact hFg
  · simp [invoke, go_sem, eg]
  · have hs1 : W1.heap.size = w.heap.size + 2 := by rw [← hW1]; simp
    refine (hseq (w.heap.size + 1)
      (fun s W => I s W ∧ W.heap[w.heap.size + 1]? = some (.loop (rec .ready none)) ∧ W.heap[w.heap.size]? = some (.deferred (some [])))
      (fun W => ∃ c, Ix c W ∧ W.heap[w.heap.size + 1]? = some (.loop (rec .done (some c))) ∧ W.heap[w.heap.size]? = some (.deferred (some [])))
      W1 hg1
      (fun s A B hs ht => ⟨hI s A B hs.1 (ht.mono (fun k _ h => by omega)), (ht.block _ (lt_of hs.2.1) (by omega)).trans hs.2.1, (ht.block _ (lt_of hs.2.2) (by omega)).trans hs.2.2⟩)
      (fun A B hs ht => by
        obtain ⟨c, hc, hl, hk⟩ := hs
        exact ⟨c, hIx c A B hc (ht.mono (fun k _ h => by omega)), (ht.block _ (lt_of hl) (by omega)).trans hl, (ht.block _ (lt_of hk) (by omega)).trans hk⟩)
      (fun s A hs => hInv s A hs.1) ?_ ⟨hI _ _ _ h0 (tt hg1), hL1, hK1⟩).mono ?_
    · rintro s x W ⟨hi, hl, hk⟩ hszW hgv
      have hlt : w.heap.size + 1 < W.heap.size := lt_of hl
      have hy := run_yield (P := P) (args := encs x) hl (by rw [hrec]; exact hps x)
      rw [hrec] at hy
      refine ⟨fn, _, assign, body, hy, roundIn_of_wpIn hfn (wpIn_mono (hround _ s x W (by omega) hi hgv) ?_)⟩
      rintro e a' Wa hp
      cases e with
      | normal => ?_
      | _ => exact False.elim hp
      obtain ⟨hga, hbody⟩ := hp
      replace hl := (hga.block hlt).trans hl
      replace hk := (hga.block (by omega)).trans hk
      replace hlt := lt_of hl
      replace hi := hI _ _ _ hi (tt hga)
      clear hy
      revert hbody hga
      generalize W = W0
      intro hga hbody
      obtain ⟨W, rfl⟩ : ∃ W, W = Wa := ⟨_, rfl⟩
      refine ⟨_, run_beginRound hl (by rw [hrec]), ?_⟩
      have hl2 : (W.putObj (w.heap.size + 1) (.loop { rec .ready none with state := .busy })).heap[w.heap.size + 1]? = some (.loop { rec .ready none with state := .busy }) := World.putObj_heap_same hlt
      have hk2 : (W.putObj (w.heap.size + 1) (.loop { rec .ready none with state := .busy })).heap[w.heap.size]? = some (.deferred (some [])) := (World.putObj_heap_other (by omega)).trans hk
      refine wpIn_mono (hbody _ ⟨rfl, rfl, rfl, by simp, fun k _ hn => World.putObj_heap_other hn⟩ (hI _ _ _ hi ((touch_put1 W (w.heap.size + 1) _).mono (fun k _ h => by omega)))) ?_
      have fin : ∀ (jump : Option Code) (W3 : World), Touch (fun k => k < w.heap.size ∨ w.heap.size + (2 + K) ≤ k) (W.putObj (w.heap.size + 1) (.loop { rec .ready none with state := .busy })) W3 →
          (Instr.endRound (w.heap.size + 1) jump).run P W3 = .ok (.bool jump.isNone) (W3.putObj (w.heap.size + 1) (.loop (rec (if jump.isNone then .ready else .done) jump))) ∧
          (W3.putObj (w.heap.size + 1) (.loop (rec (if jump.isNone then .ready else .done) jump))).heap[w.heap.size + 1]? = some (.loop (rec (if jump.isNone then .ready else .done) jump)) ∧
          (W3.putObj (w.heap.size + 1) (.loop (rec (if jump.isNone then .ready else .done) jump))).heap[w.heap.size]? = some (.deferred (some [])) := fun jump W3 hk3 => by
        have hl3 := (hk3.block _ (lt_of hl2) (by omega)).trans hl2
        have := run_endRound (P := P) jump hl3
        rw [hrec] at this ⊢
        exact ⟨this, World.putObj_heap_same (lt_of hl3), (World.putObj_heap_other (by omega)).trans ((hk3.block _ (lt_of hk2) (by omega)).trans hk2)⟩
      have tch : ∀ (o : Obj) (W3 : World), Touch (fun k => k < w.heap.size ∨ w.heap.size + (2 + K) ≤ k) (W.putObj (w.heap.size + 1) (.loop { rec .ready none with state := .busy })) W3 → Touch (fun k => k < W1.heap.size ∨ W1.heap.size + K ≤ k) W0 (W3.putObj (w.heap.size + 1) o) := fun o W3 h3 =>
        (((hga.touch _).trans ((touch_put1 W (w.heap.size + 1) _).mono (fun k _ h => by omega))).trans (h3.mono (fun k _ h => by omega))).trans ((touch_put1 W3 (w.heap.size + 1) o).mono (fun k _ h => by omega))
      rintro e a3 W3 hp
      cases e with
      | normal =>
        obtain ⟨hk3, s', hn3, hi3⟩ := hp
        obtain ⟨hr, hl4, hk4⟩ := fin none W3 hk3
        exact ⟨_, _, hr, .inl ⟨rfl, s', hn3, hI _ _ _ hi3 ((touch_put1 W3 (w.heap.size + 1) _).mono (fun k _ h => by omega)), hl4, hk4⟩, tch _ _ hk3⟩
      | ret =>
        obtain ⟨hk3, hi3⟩ := hp
        obtain ⟨hr, hl4, hk4⟩ := fin (some .ret) W3 hk3
        exact ⟨_, _, hr, .inr ⟨rfl, .ret, hIx _ _ _ hi3 ((touch_put1 W3 (w.heap.size + 1) _).mono (fun k _ h => by omega)), hl4, hk4⟩, tch _ _ hk3⟩
      | exit id =>
        obtain ⟨hk3, hi3⟩ := hp
        obtain ⟨hr, hl4, hk4⟩ := fin (some (.exit id)) W3 hk3
        exact ⟨_, _, hr, .inr ⟨rfl, .exit id, hIx _ _ _ hi3 ((touch_put1 W3 (w.heap.size + 1) _).mono (fun k _ h => by omega)), hl4, hk4⟩, tch _ _ hk3⟩
      | goto t =>
        obtain ⟨hk3, hi3⟩ := hp
        obtain ⟨hr, hl4, hk4⟩ := fin (some (.goto t)) W3 hk3
        exact ⟨_, _, hr, .inr ⟨rfl, .goto t, hIx _ _ _ hi3 ((touch_put1 W3 (w.heap.size + 1) _).mono (fun k _ h => by omega)), hl4, hk4⟩, tch _ _ hk3⟩
      | panic ch => exact hp.elim
      | outgrown => exact hp.elim
    · rintro e W2 ⟨⟨v, rfl⟩, (⟨s, hS, hi, hl, hk⟩ | ⟨c, hi, hl, hk⟩)⟩
      · exact ⟨none, _, by have := run_endLoop (P := P) hl (by rw [hrec]; simp); rw [hrec] at this; exact this, hdone _ s _ rfl hS (hI _ _ _ hi ((touch_put1 W2 (w.heap.size + 1) _).mono (fun k _ h => by omega))) ((World.putObj_heap_other (by omega)).trans hk)⟩
      · exact ⟨some c, _, by have := run_endLoop (P := P) hl (by rw [hrec]; simp); rw [hrec] at this; exact this, hstop _ c _ rfl (hIx _ _ _ hi ((touch_put1 W2 (w.heap.size + 1) _).mono (fun k _ h => by omega))) ((World.putObj_heap_other (by omega)).trans hk)⟩
end
end Go.Proofs.YtbmidhlilafgeaaGreatDoor
end

section
namespace Go.Proofs.YtbmidhlilafgeaaGreatDoor
open Go.RowKit Go.Shelf Word
attribute [local go_sem] Oper.semAt_some

set_option maxRecDepth 100000 in
set_option maxHeartbeats 3200000 in
theorem all_seqU (n' : Nat) (box m p1 b1 p2 b2 n : Nat) (L : List Ob) (w : World) :
    SeqU 4 Fence.wide n' Tryz.prog 150 #[.pointer (some ⟨box, 0, none⟩)] encO (AllInv box m p1 b1 p2 b2 n L) (AllGives L) (fun j _ j' => j' = j + 1) (fun j => j = L.length) 0 w := by
  intro l J Jx W hg hJ hJx hI hY h0
  refine callsIn_wide.2 ((callsIn_wide (n := 5)).1 ?_)
  refine callsIn_of_wp_marks Tryz.func150 rfl trivial ?_ rfl
  have hi0 := hI _ _ h0
  have c0 := hi0.2.2.1
  have k0 := hi0.1.c0
  have HI0 := hid hi0
  have HJ0 := hid h0
  have HII := hid hI
  clear hi0 h0 hI
  simp only [Tryz.ntmps150, List.size_toArray, List.length_cons, List.length_nil, Nat.reduceAdd, Nat.reduceSub, Array.replicate_succ, Array.replicate_zero, List.push_toArray, List.append_toArray, List.nil_append, List.cons_append]
  have hbox : box < W.heap.size := lt_cell c0
  have hmw := HI0.out.1.hm
  gi_wp2_with (first
    | (refine ⟨trivial, ?_⟩; gi_at_call 151; refine (callsIn_wide.2 (ext_none (HI0.out.1.gr ((Gr.refl W).alloc _)))).mono ?_; rintro e w1 ⟨rfl, rfl⟩)
    | (refine ⟨trivial, ?_⟩; gi_at_call 152; refine (callsIn_wide.2 (ones_call (some ⟨p1, 0, none⟩))).mono ?_; rintro e w1 ⟨rfl, rfl⟩))
  obtain ⟨W0, hW0⟩ : ∃ W0, W0 = (W.alloc (.cells #[.func (.yield l) #[] #[]] 56)).alloc (.cells #[.pointer (some ⟨p1, 0, none⟩)] 198) := ⟨_, rfl⟩
  have hg0 : Gr W W0 := by rw [hW0]; exact ((Gr.refl W).alloc _).alloc _
  have hsz0 : W0.heap.size = W.heap.size + 2 := by rw [hW0]; simp
  have bY : W0.cell? ⟨W.heap.size, 0, none⟩ = some (.func (.yield l) #[] #[]) := by rw [hW0]; exact ((Boxed.new W _ _).alloc _).cell
  have bV : W0.cell? ⟨W.heap.size + 1, 0, none⟩ = some (.pointer (some ⟨p1, 0, none⟩)) := by
    rw [hW0]
    have := Boxed.new (W.alloc (.cells #[.func (.yield l) #[] #[]] 56)) 198 (.pointer (some ⟨p1, 0, none⟩))
    rw [World.size_alloc] at this
    exact this.cell
  rw [← hW0]
  have hgood := HI0.out.1.good
  have hnb := HI0.out.1.nb
  have hJ00 : J 0 W0 := hJ _ _ _ HJ0.out (hg0.touch _)
  have HH0 := hid hW0
  clear hW0 c0 k0
  have hn0 : nextO L ((0 : Nat) : Int) = 0 := nextO_eq (Nat.zero_le _) (fun i hi h => by omega) (fun h => by omega)
  have tI : ∀ s A B, InAll n L J W.heap.size (W.heap.size + 1) p1 (.func (.yield l) #[] #[]) s A → Touch (fun k => W0.heap.size ≤ k ∧ k < W0.heap.size + 2 + 0) A B → InAll n L J W.heap.size (W.heap.size + 1) p1 (.func (.yield l) #[] #[]) s B := fun s A B h t =>
    ⟨h.st, h.ps, by obtain ⟨j, hj, e⟩ := h.j; exact ⟨j, hJ _ _ _ hj (t.mono (fun k _ h => by omega)), e⟩, (t.cell (lt_cell h.y) (by show ¬ (W0.heap.size ≤ W.heap.size ∧ _); omega) 0).trans h.y, (t.cell (lt_cell h.v) (by show ¬ (W0.heap.size ≤ W.heap.size + 1 ∧ _); omega) 0).trans h.v⟩
  refine range_lawU (K := 0) (s0 := (startsL n L, 0)) rfl (by omega) (gf := 197) (lb := #[.pointer (some ⟨W.heap.size + 1, 0, none⟩)]) rfl trivial (enters_of Tryz.func197 (by kernel_rfl) rfl)
    (ones_seq _ (W.heap.size + 1) p1 b1 n (startsL n L) _).toU (fun _ => rfl)
    (InAll n L J W.heap.size (W.heap.size + 1) p1 (.func (.yield l) #[] #[])) (fun c A => c = .ret ∧ Jx A) tI (fun c A B h t => ⟨h.1, hJx _ _ h.2 (t.mono (fun k _ h => by omega))⟩)
    (fun s A h => by
      obtain ⟨j, hj, -⟩ := h.j
      have hi := HII.out _ _ hj
      exact ⟨by rw [h.st]; exact hi.1.v1, by rw [h.st, startsL_len], hi.2.1, h.v, h.ps⟩)
    ⟨rfl, Nat.zero_le _, ⟨0, hJ00, hn0⟩, bY, bV⟩ ?round ?done ?stop
  case round =>
    intro lp s x W3 hsz3 hI3 hgv
    gi_wp2
    refine ⟨Gr.refl _, fun W4 ht4 hI4 => ?_⟩
    obtain ⟨hst, hps, ⟨j, hj, hnx⟩, hy, hv⟩ := hI4
    obtain ⟨hx, hlt⟩ := hgv
    have hi4 := HII.out _ _ hj
    rw [hst] at hx hlt
    have hjl : j < L.length := by
      rcases Nat.lt_or_ge j L.length with h | h
      · exact h
      · have := next_start_no hgood (a := (s.2 : Int)) (by rw [hnx]; omega)
        omega
    have hxj : x = L[j].1 := by
      have := (next_start_yes hgood (a := (s.2 : Int)) (by rw [hnx]; exact hjl)).1
      rw [hx, this]; congr 2
    subst hxj
    have hJd : J j W4.drew := hJ _ _ _ hj ((Gr.refl W4).drew.touch _)
    have hsz4 : W.heap.size + 4 ≤ W4.drew.heap.size := by have := ht4.size; show W.heap.size + 4 ≤ W4.heap.size; omega
    obtain ⟨fn, tmps, assign, body, hyy, hR⟩ := yieldAt_wide (m' := 2) (l2 := lp) (hY j L[j] W4.drew hJd hsz4 (List.getElem?_eq_getElem hjl))
    have HZ := hid (ext_size (hi4.1.gr (Gr.refl W4).drew) ((Gr.refl W4).drew.tab hi4.2.1.lt hi4.2.1) hjl)
    have cbx := hi4.2.2.1
    have hbxs := hsz0
    have HS := hid (And.intro hst (And.intro hnx hjl))
    clear hst hnx hj hi4 hx hlt hI3
    dsimp only [encO] at hyy
    have hR2 := hR.mono (R' := fun e W' => ∃ bb : Bool, e = .returned (.bool bb) ∧ ((bb = true ∧ J (j + 1) W') ∨ (bb = false ∧ Jx W')) ∧ Touch (fun k => k < W.heap.size ∨ W.heap.size + 4 ≤ k) W4.drew W') (by
      rintro e W' ⟨⟨he, s', rfl, hs'⟩ | ⟨he, hx⟩, ht⟩
      · exact ⟨true, he, .inl ⟨rfl, hs'⟩, ht⟩
      · exact ⟨false, he, .inr ⟨rfl, hx⟩, ht⟩)
    clear hR
    gi_wp2
    obtain ⟨Sx, hSx⟩ : ∃ S : World → Prop, S = fun A => A.cell? ⟨W.heap.size, 0, none⟩ = some (.func (.yield l) #[] #[]) := ⟨_, rfl⟩
    have x1 : ∀ p : Held Sx, p.w.cell? ⟨W.heap.size, 0, none⟩ = some (.func (.yield l) #[] #[]) := fun p => Held.get hSx p
    have hS0 : Sx W4.drew := by rw [hSx]; exact hy
    have HSx := hid hSx
    clear hSx
    have inst : Inhabited (Held Sx) := ⟨⟨_, hS0⟩⟩
    refine wpIn_region_mixS Sx 7 [([0, 1, 3], 2), ([], 4), ([], 5)] [6] (fun _ => trivial) (by kernel_rfl) (by kernel_rfl) hS0 ?_
    refine segsIn_step ?_
    simp only [opsAt, List.getElem?_cons_zero, List.getElem?_cons_succ]
    repeat (go_big_quiet_step (fail))
    refine wpQuiet_nil ?_
    gi_wp2
    refine ⟨.inr (Held.of hS0), ?_⟩
    refine segsIn_step ?_
    simp only [opsAt, List.getElem?_cons_zero, List.getElem?_cons_succ]
    refine wpQuiet_nil ?_
    gi_wp2_with (refine ⟨trivial, ?_⟩; gi_at_call 153; refine (CallsIn.inRound lp (callsIn_wide.2 HZ.out)).mono ?_; rintro e w' ⟨rfl, rfl⟩)
    refine ⟨.inr (Held.of hS0), ?_⟩
    refine segsIn_step ?_
    simp only [opsAt, List.getElem?_cons_zero, List.getElem?_cons_succ]
    refine wpQuiet_nil ?_
    gi_wp2
    refine hR2.mono ?_
    rintro e W5 ⟨bb, rfl, hor, ht5⟩
    have hy5 := (ht5.cell (lt_cell hy) (by show ¬ (W.heap.size < W.heap.size ∨ W.heap.size + 4 ≤ W.heap.size); omega) 0).trans hy
    have hv5 := (ht5.cell (lt_cell hv) (by show ¬ (W.heap.size + 1 < W.heap.size ∨ W.heap.size + 4 ≤ W.heap.size + 1); omega) 0).trans hv
    gi_wp2
    refine ⟨.inr (Held.of (by rw [HSx.out]; exact hy5)), ?_⟩
    refine segsIn_end ?_
    simp only [opsAt, List.getElem?_cons_zero, List.getElem?_cons_succ]
    repeat (go_big_quiet_step (fail))
    refine wpQuiet_nil ?_
    refine NoPanic.normal ?_
    have T5 := hid (((Gr.refl W4).drew.touch (fun k => k < W0.heap.size ∨ W0.heap.size + (2 + 0) ≤ k)).trans (ht5.mono (fun k _ h => by omega)))
    have HSZ := hid (hgood.sz _ (List.getElem_mem hjl))
    clear x1 hS0 HSx inst hR2 ht5
    clear Sx
    cases bb with
    | true =>
      have hJ5 : J (j + 1) W5 := by
        rcases hor with ⟨_, h⟩ | ⟨h, _⟩
        · exact h
        · cases h
      have HJ5 := hid hJ5
      clear hor hJ5
      gi_wp2
      exact ⟨T5.out, (startsL n L, L[j].1 + 1), rfl, rfl, by have := HSZ.out; show L[j].1 + 1 ≤ n; omega, ⟨j + 1, HJ5.out, by have := next_succ_ob hgood hjl; push_cast; exact this⟩, hy5, hv5⟩
    | false =>
      have hJ5 : Jx W5 := by
        rcases hor with ⟨h, _⟩ | ⟨_, h⟩
        · cases h
        · exact h
      have HJ5 := hid hJ5
      clear hor hJ5
      gi_wp2
      exact ⟨T5.out, rfl, HJ5.out⟩
  case done =>
    rintro D s W3 hD hfin hI3 hK
    obtain ⟨hst, hps, ⟨j, hj, hnx⟩, hy, hv⟩ := hI3
    have hjl : ¬ j < L.length := fun h => by
      have := next_start_yes hgood (a := (s.2 : Int)) (by rw [hnx]; exact h)
      unfold OnesFin at hfin
      rw [hst] at hfin
      exact hfin this.2
    have hje : j = L.length := by have := nextO_le L (s.2 : Int); omega
    have HE := hid (And.intro hje hj)
    have HK := hid hK
    have HD := hid hD
    clear hst hps hnx hy hv hfin hje hj hK hD hjl
    gi_wp2
    refine ⟨by simp, .inl ⟨_, _, rfl, run_takeDeferred HK.out, ?_⟩⟩
    refine ⟨.tuple #[], results_none rfl _ _ _, ⟨_, rfl⟩, .inl ⟨j, HE.out.1, hJ _ _ _ HE.out.2 ((touch_put1 W3 D _).mono (fun k _ h => by have := HD.out; omega))⟩⟩
  case stop =>
    rintro D c W3 hD ⟨rfl, hx⟩ hK
    have HE := hid hx
    have HK := hid hK
    have HD := hid hD
    clear hx hK hD
    gi_wp2
    refine ⟨by simp, .inl ⟨_, _, rfl, run_takeDeferred HK.out, ?_⟩⟩
    refine ⟨.tuple #[], results_none rfl _ _ _, ⟨_, rfl⟩, .inr (hJx _ _ HE.out ((touch_put1 W3 D _).mono (fun k _ h => by have := HD.out; omega)))⟩
end Go.Proofs.YtbmidhlilafgeaaGreatDoor
end
end
