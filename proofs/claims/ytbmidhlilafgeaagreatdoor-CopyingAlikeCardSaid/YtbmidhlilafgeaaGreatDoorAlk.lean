/- Layer 25's Alike: the plain law. Layer 25's Alike: two numbers meet. Layer 25's Alike. Layer 25: CopyingAlike. -/
import Derived.Test.YtbmidhlilafgeaaGreatDoorCp25P
import Derived.Test.YtbmidhlilafgeaaGreatDoorMapJ
import Derived.Test.YtbmidhlilafgeaaGreatDoorCopier
import Derived.Test.YtbmidhlilafgeaaGreatDoorRef25B
import Derived.Test.YtbmidhlilafgeaaGreatDoorPlays25A
section
namespace Go.Proofs.YtbmidhlilafgeaaGreatDoor
open Go.RowKit Word

theorem rowC_get (v : Vm) (O : List Int) (t : Nat) (P : List Int) {j m : Nat} (hj : j < P.length) (hm : (m : Int) < v.osz P[j]) : (rowC v O t P).getD ((sumC v (P.take j)).toNat + m) 0 = wdC v O t P[j] m := by
  induction P generalizing j with
  | nil => simp at hj
  | cons b r ih =>
    have hz := osz_nonneg v b
    cases j with
    | zero =>
      have hm : (m : Int) < v.osz b := hm
      have hlt : m < (v.osz b).toNat := by omega
      simp only [List.take_zero, sumC, Int.toNat_zero, Nat.zero_add, rowC, List.getElem_cons_zero]
      rw [List.getD_eq_getElem?_getD, List.getElem?_append_left (by simpa using hlt), List.getElem?_map, List.getElem?_range hlt]
      rfl
    | succ j =>
      have hj' : j < r.length := by simpa using hj
      have := ih hj' (by simpa using hm)
      have hs := sumC_nonneg v (r.take j)
      simp only [List.take_succ_cons, sumC, rowC, List.getElem_cons_succ]
      rw [← this, List.getD_eq_getElem?_getD, List.getElem?_append_right (by simp; omega), List.getD_eq_getElem?_getD]
      congr 2
      simp
      omega
theorem went_inj {v : Vm} {O : List Int} (hn : O.Nodup) (hz : ∀ a ∈ O, 1 ≤ v.osz a) (t : Int) {a b : Int} (ha : a ∈ O) (hb : b ∈ O) (h : wentC v O t a = wentC v O t b) : a = b := by
  obtain ⟨i, hi, rfl⟩ := List.getElem_of_mem ha
  obtain ⟨j, hj, rfl⟩ := List.getElem_of_mem hb
  rw [wentC_at v hn t hi, wentC_at v hn t hj] at h
  have hzi := hz _ ha
  have hzj := hz _ hb
  have := place_inj v hi hj (m := 0) (m' := 0) (by omega) (by omega) (by omega)
  simp only [this.1]
/-- What an object looks like where it went. -/
theorem copied_at {u ub : Vm} {rs O : List Int} {t sz n : Nat} {L : List Ob} (hub : FullN n ub) (hrow : RowO u rs O) (hM : Marks u rs n L) (hval : ∀ i : Nat, i < sz → ub.ldV ((t + i : Nat) : Int) = (rowC u O t O).getD i 0) (hsz : sumC u O = sz) (htn : t + sz ≤ n) (ht : 0 < t) {p : Int} (hp : p ∈ O) :
    ∃ q : Nat, wentC u O t p = q ∧ t ≤ q ∧ (q : Int) + u.osz p ≤ n ∧ ub.rdE q = 0 ∧ ub.rdH q = u.rdH p ∧
      ∀ m : Nat, ((m + 1 : Nat) : Int) < u.osz p → ub.ldV ((q : Int) + 1 + m) = if (m : Int) < (u.rdH p).p then (wentC u O t (u.ldV (p + 1 + m) : Nat)).toNat else u.ldV (p + 1 + m) := by
  obtain ⟨j, hj, rfl⟩ := List.getElem_of_mem hp
  have hrd := hM.sound.rd _ (hrow.rc _ hp)
  have hz := osz_pos hrd
  have h0 := sumC_nonneg u (O.take j)
  have hst := sumC_take u hj
  have hsa := sumC_take_all u O (j + 1)
  have hw := wentC_at u hrow.nd t hj
  have hv : ∀ m : Nat, (m : Int) < u.osz O[j] → ub.ldV (((t + (sumC u (O.take j)).toNat : Nat) : Int) + m) = wdC u O t O[j] m := fun m hm => by
    have h1 := hval ((sumC u (O.take j)).toNat + m) (by omega)
    rw [rowC_get u O t O hj hm] at h1
    rw [← h1]
    congr 1
    push_cast
    omega
  have hv0 := hv 0 (by omega)
  have e0 : wdC u O t O[j] 0 = u.ldV O[j] := by
    unfold wdC
    rw [if_neg (by omega)]
    congr 1
    omega
  rw [e0, show (((t + (sumC u (O.take j)).toNat : Nat) : Int) + ((0 : Nat) : Int)) = ((t + (sumC u (O.take j)).toNat : Nat) : Int) by omega] at hv0
  have hl0 : ub.ldE ((t + (sumC u (O.take j)).toNat : Nat) : Int) = 0 := hub.al _ (by omega)
  refine ⟨t + (sumC u (O.take j)).toNat, by rw [hw]; omega, by omega, by omega, ?_, ?_, fun m hm => ?_⟩
  · unfold Vm.rdE at hrd ⊢
    rw [if_neg (by omega), if_neg (by omega)] at hrd
    rw [if_neg (by omega), if_neg (by omega), if_pos hl0, hv0]
    split at hrd
    · exact hrd
    · rename_i hx; exact absurd hrd hx
  · have h1 := (rdE_zero hrd).2.1
    unfold Vm.rdH
    rw [if_pos ⟨by omega, hl0⟩, if_pos ⟨by omega, h1⟩, hv0]
  · have h1 := hv (m + 1) hm
    rw [show (((t + (sumC u (O.take j)).toNat : Nat) : Int) + 1 + (m : Int)) = (((t + (sumC u (O.take j)).toNat : Nat) : Int) + ((m + 1 : Nat) : Int)) by push_cast; omega, h1]
    unfold wdC
    rw [show O[j] + ((m + 1 : Nat) : Int) = O[j] + 1 + m by push_cast; omega]
    by_cases hm1 : (m : Int) < (u.rdH O[j]).p
    · rw [if_pos ⟨by omega, by push_cast; omega⟩, if_pos hm1]
    · rw [if_neg (fun h => hm1 (by have := h.2; push_cast at this; omega)), if_neg hm1]
end Go.Proofs.YtbmidhlilafgeaaGreatDoor
end

section
namespace Go.Proofs.YtbmidhlilafgeaaGreatDoor
open Go.RowKit Word

def prM (F : Int → Int) (T : List Int) (y : Int) : Option Value := if y = 0 then some (.int .i64 0) else if y ∈ T then some (.int .i64 (F y)) else none
def bkM (F : Int → Int) (T : List Int) (y : Int) : Option Value := if y = 0 then some (.int .i64 0) else (T.find? (fun x => decide (F x = y))).map (fun x => .int .i64 x)
/-- The pairs in memory. -/
structure MtAt (w : World) (B : Nat) (b1 b2 b3 M1 M2 : Nat) (F : Int → Int) (T : List Int) (N : Nat) (vL : Value) : Prop where
  r1 : Rec w b1 104 [.map (some M1)]
  r2 : Rec w b2 104 [.map (some M2)]
  r3 : Rec w b3 30 [vL]
  m1 : MapI Tryz.prog 3 w M1 (N + 1) (prM F T)
  m2 : MapI Tryz.prog 3 w M2 (N + 1) (bkM F T)
  own : w.ownsRow B 3 1 vL N (zs T)
  len : N = T.length
  ne : M1 ≠ M2
theorem MtAt.gr {w w' : World} {B b1 b2 b3 M1 M2 : Nat} {F : Int → Int} {T : List Int} {N : Nat} {vL : Value} (h : MtAt w B b1 b2 b3 M1 M2 F T N vL) (g : Gr w w') : MtAt w' B b1 b2 b3 M1 M2 F T N vL :=
  ⟨h.r1.gr g, h.r2.gr g, h.r3.gr g, h.m1.gr g, h.m2.gr g, own_gr h.own g, h.len, h.ne⟩
/-- What numbers are told apart. -/
structure Inj (F : Int → Int) (O : List Int) : Prop where
  nz : ∀ a ∈ O, F a ≠ 0
  inj : ∀ a ∈ O, ∀ b ∈ O, F a = F b → a = b
theorem bkM_hit {F : Int → Int} {O T : List Int} (h : Inj F O) (hT : ∀ a ∈ T, a ∈ O) {p : Int} (hp : p ∈ T) : bkM F T (F p) = some (.int .i64 p) := by
  unfold bkM
  rw [if_neg (h.nz _ (hT _ hp))]
  have : T.find? (fun x => decide (F x = F p)) = some p := by
    cases hf : T.find? (fun x => decide (F x = F p)) with
    | none => have := List.find?_eq_none.1 hf p hp; simp at this
    | some y =>
      have h1 := List.find?_some hf
      have h2 := List.mem_of_find?_eq_some hf
      rw [h.inj y (hT _ h2) p (hT _ hp) (by simpa using h1)]
  rw [this]; rfl
theorem bkM_miss {F : Int → Int} {O T : List Int} (h : Inj F O) (hT : ∀ a ∈ T, a ∈ O) {p : Int} (hp : p ∈ O) (hn : p ∉ T) : bkM F T (F p) = none := by
  unfold bkM
  rw [if_neg (h.nz _ hp)]
  have : T.find? (fun x => decide (F x = F p)) = none := List.find?_eq_none.2 fun x hx hd => hn (by rw [← h.inj x (hT _ hx) p hp (by simpa using hd)]; exact hx)
  rw [this]; rfl
def MtEnd (w : World) (B b1 b2 b3 M1 M2 : Nat) (F : Int → Int) (T : List Int) (vL : Value) (p : Int) (e : Ending) (w' : World) : Prop :=
  ∃ N' vL', e = .returned (.bool true) ∧ MtAt w' B b1 b2 b3 M1 M2 F (addC T p) N' vL' ∧ Touch (fun b => (b = b3 ∨ b = M1 ∨ b = M2) ∨ vL.ownBlock = some b) w w'
section
variable {w : World} {B b1 b2 b3 M1 M2 N : Nat} {F : Int → Int} {T O : List Int} {vL : Value}
set_option maxRecDepth 100000 in
set_option maxHeartbeats 3200000 in
theorem alike_meet (h : MtAt w B b1 b2 b3 M1 M2 F T N vL) (hI : Inj F O) (hT : ∀ a ∈ T, a ∈ O) {p q : Int} (hp : (p = 0 ∧ q = 0) ∨ (p ∈ O ∧ p ≠ 0 ∧ q = F p)) (hpb : 0 ≤ p ∧ p ≤ 2147483647) (hqb : 0 ≤ q ∧ q ≤ 2147483647) (hN : N ≤ 2000) (hB : B ≤ w.heap.size) :
    Calls Tryz.prog 73 #[.int .i64 p, .int .i64 q, .pointer (some ⟨b1, 0, none⟩), .pointer (some ⟨b2, 0, none⟩), .pointer (some ⟨b3, 0, none⟩)] w (MtEnd w B b1 b2 b3 M1 M2 F T vL p) := by
  have H := hid h
  have l1 := h.m1.look_ok keyed_int Tryz.underlying104 Tryz.underlying3 (zero_int w) (x := p) (WalkArith.wf_i64 (by omega))
  have l2 := h.m2.look_ok keyed_int Tryz.underlying104 Tryz.underlying3 (zero_int w) (x := q) (WalkArith.wf_i64 (by omega))
  have c1 := h.r1.cell (j := 0) rfl
  have c2 := h.r2.cell (j := 0) rfl
  have c3 := h.r3.cell (j := 0) rfl
  by_cases hs : p = 0 ∨ p ∈ T
  · have hadd : addC T p = T := if_pos hs
    have hE : Hid (MtEnd w B b1 b2 b3 M1 M2 F T vL p (.returned (.bool true)) w) := ⟨⟨N, vL, rfl, by rw [hadd]; exact h, Touch.refl _ _⟩⟩
    have hq : prM F T p = some (.int .i64 q) ∧ bkM F T q = some (.int .i64 p) := by
      rcases hp with ⟨rfl, rfl⟩ | ⟨hpO, hp0, rfl⟩
      · exact ⟨if_pos rfl, if_pos rfl⟩
      · have hpT := hs.resolve_left hp0
        exact ⟨by unfold prM; rw [if_neg hp0, if_pos hpT], bkM_hit hI hT hpT⟩
    rw [hq.1] at l1
    rw [hq.2] at l2
    clear h hI hT hp hpb hqb hs hadd hq
    go_enter Tryz.func73, Tryz.ntmps73
    go_wp2
    go_ret
    exact hE.out
  · obtain ⟨hpO, hp0, hqF⟩ := hp.resolve_left (fun h => hs (.inl h.1))
    have hpT : p ∉ T := fun h => hs (.inr h)
    have hadd : addC T p = T ++ [p] := if_neg hs
    have hq1 : prM F T p = none := by unfold prM; rw [if_neg hp0, if_neg hpT]
    have hq2 : bkM F T q = none := by rw [hqF]; exact bkM_miss hI hT hpO hpT
    rw [hq1] at l1
    rw [hq2] at l2
    have HADD := hid hadd
    have HP1 : Hid (∀ y : Int, (if y = p then some (Value.int .i64 q) else prM F T y) = prM F (T ++ [p]) y) := ⟨fun y => by
      unfold prM
      by_cases e : y = p
      · rw [if_pos e, if_neg (by rw [e]; exact hp0), if_pos (by rw [e]; simp), e, hqF]
      · rw [if_neg e]
        by_cases e0 : y = 0
        · rw [if_pos e0, if_pos e0]
        · rw [if_neg e0, if_neg e0]
          by_cases hy : y ∈ T
          · rw [if_pos hy, if_pos (List.mem_append_left _ hy)]
          · rw [if_neg hy, if_neg (fun h => (List.mem_append.1 h).elim hy (fun h => e (List.mem_singleton.1 h)))]⟩
    have HP2 : Hid (∀ y : Int, (if y = q then some (Value.int .i64 p) else bkM F T y) = bkM F (T ++ [p]) y) := ⟨fun y => by
      have hq0 : q ≠ 0 := by rw [hqF]; exact hI.nz _ hpO
      unfold bkM
      by_cases e : y = q
      · subst e
        have hn : T.find? (fun x => decide (F x = y)) = none := List.find?_eq_none.2 fun x hx hd => hpT (by
          have := hI.inj x (hT _ hx) p hpO (by rw [← hqF]; simpa using hd)
          rw [← this]; exact hx)
        rw [if_pos rfl, if_neg hq0, List.find?_append, hn]
        simp [hqF]
      · rw [if_neg e]
        by_cases e0 : y = 0
        · rw [if_pos e0, if_pos e0]
        · rw [if_neg e0, if_neg e0, List.find?_append]
          have : [p].find? (fun x => decide (F x = y)) = none := List.find?_eq_none.2 fun x hx hd => e (by rw [List.mem_singleton.1 hx] at hd; rw [hqF]; exact (by simpa using hd : F p = y).symm)
          rw [this]
          simp⟩
    have HW1 : Hid ((Lit.int .i64 p).wf = true) := ⟨WalkArith.wf_i64 (by omega)⟩
    have HW2 : Hid ((Lit.int .i64 q).wf = true) := ⟨WalkArith.wf_i64 (by omega)⟩
    have HNM : Hid (N + 1 < maxLen) := ⟨by unfold maxLen; omega⟩
    have HNE : Hid (M1 ≠ b1 ∧ M1 ≠ b2 ∧ M1 ≠ b3 ∧ M2 ≠ b1 ∧ M2 ≠ b2 ∧ M2 ≠ b3) := ⟨⟨h.m1.ne (rec_cells h.r1), h.m1.ne (rec_cells h.r2), h.m1.ne (rec_cells h.r3), h.m2.ne (rec_cells h.r1), h.m2.ne (rec_cells h.r2), h.m2.ne (rec_cells h.r3)⟩⟩
    obtain ⟨TA, tc, rfl, hc1, hc2⟩ := own_shape h.own
    unfold maxLen at hc2
    have HRN : Hid (∀ g, (Value.slice TA N tc).ownBlock = some g → g ≠ M1 ∧ g ≠ M2 ∧ g ≠ b1 ∧ g ≠ b2 ∧ g ≠ b3) := ⟨fun g hg => by
      obtain ⟨cs, hcs⟩ := own_type h.own hg
      exact ⟨fun e => h.m1.ne ⟨_, _, hcs⟩ e.symm, fun e => h.m2.ne ⟨_, _, hcs⟩ e.symm, own_ne h.own h.r1 (by decide) hg rfl, own_ne h.own h.r2 (by decide) hg rfl, own_ne h.own h.r3 (by decide) hg rfl⟩⟩
    have h31 : b3 ≠ b1 := own_ne h.r3 h.r1 (by decide) rfl rfl
    have h32 : b3 ≠ b2 := own_ne h.r3 h.r2 (by decide) rfl rfl
    have HB3 := hid (And.intro h31 h32)
    obtain ⟨ii, hii, hi0, hi1, hi2⟩ := info_parts infoIntV
    clear h hI hT hp hpb hqb hs hadd hq1 hq2 hp0 hpT hpO hqF h31 h32
    go_enter Tryz.func73, Tryz.ntmps73
    go_upto_region 5 with (fail)
    obtain ⟨Sx, hSx⟩ : ∃ Sx : World → Prop, Sx = fun W' => W'.cell? ⟨b1, 0, none⟩ = some (.map (some M1)) ∧ W'.cell? ⟨b2, 0, none⟩ = some (.map (some M2)) := ⟨_, rfl⟩
    have x1 : ∀ p : Held Sx, p.w.cell? ⟨b1, 0, none⟩ = some (.map (some M1)) := fun p => (Held.get hSx p).1
    have x2 : ∀ p : Held Sx, p.w.cell? ⟨b2, 0, none⟩ = some (.map (some M2)) := fun p => (Held.get hSx p).2
    have HS : Hid (∀ W', Touch (fun i => i = M1 ∨ i = M2) w W' → Sx W') := ⟨fun W' t => by
      rw [hSx]
      exact ⟨(t.cell H.out.r1.lt (fun h => h.elim (fun e => HNE.out.1 e.symm) (fun e => HNE.out.2.2.2.1 e.symm)) 0).trans c1, (t.cell H.out.r2.lt (fun h => h.elim (fun e => HNE.out.2.1 e.symm) (fun e => HNE.out.2.2.2.2.1 e.symm)) 0).trans c2⟩⟩
    have hS0 := HS.out _ ((Gr.refl w).drew.touch _)
    have inst : Inhabited (Held Sx) := ⟨⟨_, hS0⟩⟩
    clear hSx
    refine wp_region_mixS Sx 7 [([0, 1, 2, 3, 4, 5], 6), ([], 7)] [] (by kernel_rfl) (by kernel_rfl) hS0 ?_
    refine segs_step ?_
    simp only [opsAt, List.getElem?_cons_zero, List.getElem?_cons_succ]
    repeat (go_big_quiet_step (fail))
    refine wpQuiet_nil ?_
    go_wp2_with (at_mapUpdate; refine wpList_mapI _ rfl _ _ _ 104 rfl 3 3 keyed_int Tryz.underlying104 Tryz.underlying3 M1 (N + 1) (prM F T) rfl (H.out.m1.gr (Gr.refl w).drew) HNM.out p (.int .i64 q) rfl rfl HW1.out ?_; intro w3 hm3 ht3; have HM3 := hid (hm3.congr HP1.out); have HT3 : Hid (Touch (fun i => i = M1 ∨ i = M2) w w3) := ⟨((Gr.refl w).drew.touch _).trans (ht3.mono (fun i _ h => .inl h))⟩; have HM32 := hid ((H.out.m2.gr (Gr.refl w).drew).touch ht3 (fun e => H.out.ne e.symm)); clear hm3 ht3)
    refine ⟨.inr (Held.of (HS.out _ HT3.out)), ?_⟩
    refine segs_step ?_
    simp only [opsAt, List.getElem?_cons_zero, List.getElem?_cons_succ]
    refine wpQuiet_nil ?_
    go_wp2_with (at_mapUpdate; refine wpList_mapI _ rfl _ _ _ 104 rfl 3 3 keyed_int Tryz.underlying104 Tryz.underlying3 M2 (N + 1) (bkM F T) rfl HM32.out HNM.out q (.int .i64 p) rfl rfl HW2.out ?_; intro w4 hm4 ht4; have HM4 := hid (hm4.congr HP2.out); have HM41 := hid (HM3.out.touch ht4 H.out.ne); have HT4 : Hid (Touch (fun i => i = M1 ∨ i = M2) w w4) := ⟨HT3.out.trans (ht4.mono (fun i _ h => .inr h))⟩; clear hm4 ht4)
    refine ⟨.inr (Held.of (HS.out _ HT4.out)), ?_⟩
    refine segs_end ?_
    refine wpQuiet_nil ?_
    refine NoPanic.normal ?_
    clear x1 x2 hS0 inst
    clear HS Sx
    have hn1 : ∀ b, b = b1 ∨ b = b2 ∨ b = b3 → ¬ (b = M1 ∨ b = M2) := fun b hb h => by
      obtain ⟨n1, n2, n3, n4, n5, n6⟩ := HNE.out
      rcases hb with rfl | rfl | rfl
      · exact h.elim (fun e => n1 e.symm) (fun e => n4 e.symm)
      · exact h.elim (fun e => n2 e.symm) (fun e => n5 e.symm)
      · exact h.elim (fun e => n3 e.symm) (fun e => n6 e.symm)
    have HR1 := hid (H.out.r1.touch HT4.out (hn1 _ (.inl rfl)))
    have HR2 := hid (H.out.r2.touch HT4.out (hn1 _ (.inr (.inl rfl))))
    have HR3 := hid (H.out.r3.touch HT4.out (hn1 _ (.inr (.inr rfl))))
    have HO4 := hid (own_touch H.out.own HT4.out (fun g hg h => by
      obtain ⟨n1, n2, -⟩ := HRN.out g hg
      exact h.elim n1 n2))
    have HBS : Hid (B ≤ w4.heap.size) := ⟨Nat.le_trans hB HT4.out.size⟩
    have k3 := HR3.out.cell (j := 0) rfl
    have k3l := HR3.out.lt
    clear c1 c2 c3 hn1 hB
    go_wp2_with (at_builtin; refine wpList_append_lies _ rfl _ _ 30 rfl B 3 ii _ 1 8 Tryz.underlying30 hii hi0 hi1 hi2 rfl (by decide) (.slice TA N tc) N (zs T) rfl (HO4.out.alloc _) ⟨w4.heap.size, 0, none⟩ 1 1 [.int .i64 p] rfl rfl (World.news_of_block (cs := #[.int .i64 p]) (t := 3) (fr := (0, 0)) (heap_alloc_new w4 (.cells #[.int .i64 p] 3))) (by simp [Value.oneCell']) (by omega) (by unfold maxLen; omega) (by omega) (by have := HBS.out; rw [World.size_alloc]; omega) (w4.heap.size + 1) (by simp) ?_; intro g5 c5 w5 hown5 hgrow5 hat5 hlt5; have t5 : Touch (fun k => (Value.slice TA N tc).ownBlock = some k) w4 w5 := (((Gr.refl _).alloc _).touch _).trans (grown_touch hgrow5 _ (fun k e _ => e)); have HT5 := hid t5; have HO5 := hid hown5; have HR35 := HR3.out.touch t5 (fun e => (HRN.out _ e).2.2.2.2 rfl); have q0 := HR35.cell (j := 0) rfl; have q1 := HR35.free 0; have ql := HR35.lt; have HR35 := hid HR35; clear hown5 hgrow5 hat5 hlt5 t5)
    go_ret
    have hn := HRN.out
    have t6 : Touch (fun b => b = b3) w5 (w5.setCell ⟨b3, 0, none⟩ (.slice (some ⟨g5, 0, none⟩) (N + 1) c5)) := (Touch.refl (fun b => b = b3) w5).setCell (a := ⟨b3, 0, none⟩) (fun _ => rfl) _
    have hO5 : w5.ownsRow B 3 1 (.slice (some ⟨g5, 0, none⟩) (N + 1) c5) (N + 1) (zs (T ++ [p])) := by unfold zs; rw [List.map_append]; exact HO5.out
    refine ⟨N + 1, .slice (some ⟨g5, 0, none⟩) (N + 1) c5, rfl, ?_, ?_⟩
    · rw [HADD.out]
      obtain ⟨n1, n2, n3, n4, n5, n6⟩ := HNE.out
      refine ⟨(HR1.out.touch HT5.out (fun e => (hn _ e).2.2.1 rfl)).touch t6 (fun e => HB3.out.1 e.symm), (HR2.out.touch HT5.out (fun e => (hn _ e).2.2.2.1 rfl)).touch t6 (fun e => HB3.out.2 e.symm), HR35.out.set 0 _, (HM41.out.touch HT5.out (fun e => (hn _ e).1 rfl)).touch t6 n3, (HM4.out.touch HT5.out (fun e => (hn _ e).2.1 rfl)).touch t6 n6, own_touch hO5 t6 (fun g hg e => own_ne hO5 HR35.out (by decide) hg rfl e), by rw [List.length_append, H.out.len]; rfl, H.out.ne⟩
    · refine ((HT4.out.mono (fun i _ h => ?_)).trans (HT5.out.mono (fun i _ h => .inr h))).trans (t6.mono (fun i _ h => .inl (.inl h)))
      exact .inl (h.elim (fun e => .inr (.inl e)) (fun e => .inr (.inr e)))
end
end Go.Proofs.YtbmidhlilafgeaaGreatDoor
end

section
namespace Go.Proofs.YtbmidhlilafgeaaGreatDoor
open Go.RowKit Word

/-- What an object that went looks like (copied_at). -/
def CopiedAt (u ub : Vm) (O : List Int) (t n : Nat) (p : Int) : Prop :=
  ∃ q : Nat, wentC u O t p = q ∧ t ≤ q ∧ (q : Int) + u.osz p ≤ n ∧ ub.rdE q = 0 ∧ ub.rdH q = u.rdH p ∧
    ∀ m : Nat, ((m + 1 : Nat) : Int) < u.osz p → ub.ldV ((q : Int) + 1 + m) = if (m : Int) < (u.rdH p).p then (wentC u O t (u.ldV (p + 1 + m) : Nat)).toNat else u.ldV (p + 1 + m)
section
variable {w : World} {A1 A2 A3 A4 : Option Addr} {c1 c2 c3 c4 n t k : Nat} {u ub : Vm} {rs O out : List Int} {L : List Ob}
theorem prM_nil (F : Int → Int) (y : Int) : (if y = 0 then some (Value.int .i64 0) else none) = prM F [] y := by unfold prM; simp
theorem bkM_nil (F : Int → Int) (y : Int) : (if y = 0 then some (Value.int .i64 0) else none) = bkM F [] y := by unfold bkM; simp
set_option maxRecDepth 100000 in
set_option maxHeartbeats 12800000 in
theorem alike25 (hu : FullN n u) (hub : FullN n ub) (hW1 : Wrds w A1 c1 n u) (hW2 : Wrds w A2 c2 n ub) (h3 : IntsAt w A3 rs) (h4 : IntsAt w A4 out) (hout : out = rs.map (fun a => wentC u O t a)) (hlen : rs.length ≤ 64) (hM : Marks u rs n L) (hn : n ≤ 1100) (hOe : O = ordC u rs k) (hk : k = O.length) (hrow : RowO u rs O) (ht : 0 < t) (hcp : ∀ p ∈ O, CopiedAt u ub O t n p) :
    Calls Tryz.prog 18 #[.slice A1 n c1, .slice A2 n c2, .slice A3 rs.length c3, .slice A4 rs.length c4] w fun e w' => e = .returned (.bool true) ∧ Gr w w' := by
  have HU := hid hu
  have HUB := hid hub
  have HW1 := hid hW1
  have HW2 := hid hW2
  have H3 := hid h3
  have H4 := hid h4
  have HO := hid hout
  have HM := hid hM
  have HOE := hid (And.intro hOe hk)
  have HROW := hid hrow
  have HCP := hid hcp
  have HINJ : Hid (Inj (fun a => wentC u O t a) O) := ⟨⟨fun a ha => by
    obtain ⟨q, hq, htq, -⟩ := hcp a ha
    show wentC u O t a ≠ 0
    rw [hq]; omega, fun a ha b hb e => went_inj hrow.nd (fun a ha => (osz_pos (hM.sound.rd a (hrow.rc a ha))).2.1) t ha hb e⟩⟩
  obtain ⟨R, hR⟩ : ∃ R, R = rs.length := ⟨_, rfl⟩
  have HR := hid hR
  rw [← hR] at hlen ⊢
  clear hu hub hW1 hW2 h3 h4 hout hM hOe hk hrow hcp hR
  obtain ⟨w2, hr2, hm2, ht2⟩ := (MapI.made (P := Tryz.prog) (K := 3) w).put keyed_int (t := 104) Tryz.underlying104 Tryz.underlying3 (by decide) 0 (.int .i64 0) (by decide)
  obtain ⟨w3, hr3, hm3, ht3⟩ := (MapI.made (P := Tryz.prog) (K := 3) w2).put keyed_int (t := 104) Tryz.underlying104 Tryz.underlying3 (by decide) 0 (.int .i64 0) (by decide)
  have HM1 := hid (hm2.congr (prM_nil (fun a => wentC u O t a)))
  have HM2 := hid (hm3.congr (bkM_nil (fun a => wentC u O t a)))
  have HT2 := hid ht2
  have HT3 := hid ht3
  clear hm2 hm3 ht2 ht3
  have hmk := @run_makeMap Tryz.prog
  have hmf : ∀ (fn : Fn) (first cap : Array Value) (w : World), (Instr.makeFunc fn first cap).run Tryz.prog w = .ok (.func fn first cap) w := fun _ _ _ _ => rfl
  go_enter Tryz.func18, Tryz.ntmps18
  go_upto_region 4 with (fail)
  have r1 := (Rec.new w3 104 [.map (some w.heap.size)]).gr (((Gr.refl _).alloc (.cells #[.map (some w2.heap.size)] 104)).alloc (.cells #[.slice none 0 0] 30))
  have r2 := (new2 w3 (.cells #[.map (some w.heap.size)] 104) 104 [.map (some w2.heap.size)]).gr ((Gr.refl _).alloc (.cells #[.slice none 0 0] 30))
  have r3 := new2 (w3.alloc (.cells #[.map (some w.heap.size)] 104)) (.cells #[.map (some w2.heap.size)] 104) 30 [.slice none 0 0]
  rw [World.size_alloc] at r3
  have g3 : Gr w3 (((w3.alloc (.cells #[.map (some w.heap.size)] 104)).alloc (.cells #[.map (some w2.heap.size)] 104)).alloc (.cells #[.slice none 0 0] 30)) := (((Gr.refl w3).alloc _).alloc _).alloc _
  obtain ⟨W0, hW0⟩ : ∃ W0, W0 = (((w3.alloc (.cells #[.map (some w.heap.size)] 104)).alloc (.cells #[.map (some w2.heap.size)] 104)).alloc (.cells #[.slice none 0 0] 30)) := ⟨_, rfl⟩
  have hs2 : w.heap.size < w2.heap.size := by have := HT2.out.size; rw [World.size_alloc] at this; omega
  have hs3 : w2.heap.size < w3.heap.size := by have := HT3.out.size; rw [World.size_alloc] at this; omega
  have hT0 : Touch (fun b => w.heap.size ≤ b) w W0 := by
    rw [hW0]
    exact (((((Gr.refl w).alloc _).touch _).trans (HT2.out.mono (fun i _ h => by omega))).trans ((((Gr.refl w2).alloc _).touch _).trans (HT3.out.mono (fun i _ h => by omega)))).trans (g3.touch _)
  have hMT : MtAt W0 w.heap.size w3.heap.size (w3.heap.size + 1) (w3.heap.size + 1 + 1) w.heap.size w2.heap.size (fun a => wentC u O t a) [] 0 (.slice none 0 0) := by
    rw [hW0]
    exact ⟨r1, r2, r3, ((HM1.out.gr ((Gr.refl w2).alloc _)).touch HT3.out (by omega)).gr g3, HM2.out.gr g3, own_nil _ _ _ _, rfl, by omega⟩
  obtain ⟨b1, hb1⟩ : ∃ b, b = w3.heap.size := ⟨_, rfl⟩
  obtain ⟨M2, hM2⟩ : ∃ b, b = w2.heap.size := ⟨_, rfl⟩
  rw [← hb1, ← hM2] at hMT
  have HMT := hid hMT
  have HB1 : Hid (w.heap.size ≤ b1 ∧ w.heap.size ≤ M2) := ⟨by omega⟩
  have HT0 := hid hT0
  have HF0 : Hid (wentC u O t 0 = 0) := ⟨wentC_none u _ (fun h => by have := (osz_pos (HM.out.sound.rd 0 (HROW.out.rc 0 h))).1; omega)⟩
  have HBD : Hid (∀ a, a = 0 ∨ a ∈ O → (0 ≤ a ∧ a ≤ 1100) ∧ (0 ≤ wentC u O t a ∧ wentC u O t a ≤ 1100)) := ⟨fun a ha => by
    rcases ha with rfl | ha
    · rw [HF0.out]; omega
    · obtain ⟨q, hq, htq, hqn, -⟩ := HCP.out a ha
      have h1 := osz_pos (HM.out.sound.rd a (HROW.out.rc a ha))
      have h2 := HM.out.sound.rm a (HROW.out.rc a ha)
      rw [hq]
      omega⟩
  have HNL : Hid (O.length ≤ 1100) := ⟨Nat.le_trans (HROW.out.len HM.out) hn⟩
  clear r1 r2 r3 g3 hs2 hs3 hT0 hMT hr2 hr3 HM1 HM2
  go_upto_region 5 with (fail)
  rw [← hW0]
  rw [← hb1, ← hM2]
  clear hW0 hb1 hM2
  go_wp2_with (fail)
  clear hmk hmf
  go_loopw [36] (fun s36 wr => ∃ (i N : Nat) (T : List Int) (vL : Value), i ≤ R ∧ Hid (MtAt wr w.heap.size b1 (b1 + 1) (b1 + 1 + 1) w.heap.size M2 (fun a => wentC u O t a) T N vL) ∧ Hid (T = addsC [] (rs.take i) ∧ ∀ a ∈ T, a ∈ O) ∧ Hid (Touch (fun b => w.heap.size ≤ b) w wr) ∧ s36 = .int .i64 i) (fun s36 _ => R - (intOf s36).toNat)
  case atStart => exact ⟨0, 0, [], _, Nat.zero_le _, HMT, ⟨⟨rfl, fun a h => by cases h⟩⟩, HT0, rfl⟩
  case round =>
    obtain ⟨i, N, T, vL, hi, HMx, HTx, HTT, rfl⟩ := hrel
    clear HMT HT0
    by_cases hlt : i < R
    · have hil : i < rs.length := by have := HR.out; omega
      obtain ⟨bb, oo, rfl, hbb, e00⟩ := H3.out i hil
      have hio : i < out.length := by rw [HO.out, List.length_map]; exact hil
      obtain ⟨bo, oq, rfl, hbo, f00⟩ := H4.out i hio
      have e0 := (HTT.out.cell hbb (by omega) _).trans e00
      have f0 := (HTT.out.cell hbo (by omega) _).trans f00
      clear e00 f00
      have hoe : out[i] = wentC u O t rs[i] := by
        have e : out[i]? = some (wentC u O t rs[i]) := by rw [HO.out, List.getElem?_map, List.getElem?_eq_getElem hil]; rfl
        exact Option.some.inj ((List.getElem?_eq_getElem hio).symm.trans e)
      have hmem : rs[i] = 0 ∨ rs[i] ∈ O := by
        by_cases h0 : rs[i] = 0
        · exact .inl h0
        · right; rw [HOE.out.1]; exact ordC_roots u rs k _ (List.getElem_mem hil) h0
      have hNl : N ≤ 2000 := by
        have h1 := HMx.out.len
        have h2 : RowO u rs T := ⟨by rw [HTx.out.1]; exact addsC_nodup List.nodup_nil _, fun a ha => HROW.out.rc a (HTx.out.2 a ha)⟩
        have := h2.len HM.out
        omega
      obtain ⟨⟨p1, p2⟩, p3, p4⟩ := HBD.out _ hmem
      have HCALL := hid (alike_meet (HMx.out.gr (Gr.refl wr).drew) HINJ.out HTx.out.2 (p := rs[i]) (q := wentC u O t rs[i]) (by
        rcases hmem with h | h
        · left; rw [h]; exact ⟨rfl, HF0.out⟩
        · by_cases h0 : rs[i] = 0
          · left; rw [h0]; exact ⟨rfl, HF0.out⟩
          · exact .inr ⟨h, h0, rfl⟩) ⟨p1, by omega⟩ ⟨p3, by omega⟩ hNl (by have := HTT.out.size; exact this))
      unfold MtEnd at HCALL
      have HNX : Hid (addC T rs[i] = addsC [] (rs.take (i + 1)) ∧ ∀ a ∈ addC T rs[i], a ∈ O) := ⟨by rw [take_snoc hil, addsC_snoc, ← HTx.out.1], fun a ha => by
        rcases mem_addC.1 ha with h | ⟨h, h0⟩
        · exact HTx.out.2 a h
        · rw [h]; exact hmem.resolve_left h0⟩
      have HBLK : Hid (∀ b, ((b = b1 + 1 + 1 ∨ b = w.heap.size ∨ b = M2) ∨ vL.ownBlock = some b) → w.heap.size ≤ b) := ⟨fun b h => by
        have := HB1.out
        rcases h with (h | h | h) | h
        · omega
        · omega
        · omega
        · exact (own_lt HMx.out.own h).1⟩
      rw [hoe] at f0
      obtain ⟨a, ha⟩ : ∃ a, a = rs[i] := ⟨_, rfl⟩
      obtain ⟨q, hq⟩ : ∃ q, q = wentC u O t rs[i] := ⟨_, rfl⟩
      rw [← ha] at e0 HCALL HNX
      rw [← hq] at f0
      rw [← ha] at hq
      rw [← hq] at HCALL
      have hiI : (i : Int) < (R : Int) := by omega
      have HLT := hid hlt
      have hbl1 := Nat.lt_of_lt_of_le hbb HTT.out.size
      have hbl2 := Nat.lt_of_lt_of_le hbo HTT.out.size
      have HBB := hid (And.intro hbb hbo)
      have KE := hid (And.intro (((Gr.refl wr).drew.cell hbl1 (oo + i)).trans e0) (((Gr.refl wr).drew.cell hbl2 (oq + i)).trans f0))
      clear hoe hmem p1 p2 p3 p4 ha hq hil hio hlt hbb hbo
      go_upto_region 9 with (fail)
      obtain ⟨Sx, hSx⟩ : ∃ Sx : World → Prop, Sx = fun W' => W'.cell? ⟨bb, oo + i, none⟩ = some (.int .i64 a) ∧ W'.cell? ⟨bo, oq + i, none⟩ = some (.int .i64 q) := ⟨_, rfl⟩
      have x1 : ∀ p : Held Sx, p.w.cell? ⟨bb, oo + i, none⟩ = some (.int .i64 a) := fun p => (Held.get hSx p).1
      have x2 : ∀ p : Held Sx, p.w.cell? ⟨bo, oq + i, none⟩ = some (.int .i64 q) := fun p => (Held.get hSx p).2
      have hS0 : Sx wr.drew := by rw [hSx]; exact ⟨e0, f0⟩
      have inst : Inhabited (Held Sx) := ⟨⟨_, hS0⟩⟩
      have HSX := hid hSx
      clear hSx
      refine wp_region_mixS Sx 11 [([0, 1, 2, 3, 4, 5, 6, 7, 8], 9)] [10] (by kernel_rfl) (by kernel_rfl) hS0 ?_
      refine segs_step ?_
      simp only [opsAt, List.getElem?_cons_zero, List.getElem?_cons_succ]
      repeat (go_big_quiet_step (fail))
      refine wpQuiet_nil ?_
      go_wp2_with (go_at_call 73; refine HCALL.out.mono ?_; rintro e w5 ⟨N', vL', rfl, hm5, ht5⟩; have HM5 := hid hm5; have HT5 := hid ht5; clear hm5 ht5)
      have hS5 : Sx w5 := by
        have hz := (Gr.refl wr).drew.size
        have h1 := HBB.out
        rw [HSX.out]
        exact ⟨(HT5.out.cell (by omega) (fun h => by have := HBLK.out _ h; omega) _).trans KE.out.1, (HT5.out.cell (by omega) (fun h => by have := HBLK.out _ h; omega) _).trans KE.out.2⟩
      refine ⟨.inr (Held.of hS5), ?_⟩
      refine segs_end ?_
      simp only [opsAt, List.getElem?_cons_zero, List.getElem?_cons_succ]
      repeat (go_big_quiet_step (fail))
      refine wpQuiet_nil ?_
      refine NoPanic.normal ?_
      clear x1 x2 hS0 hS5 inst
      clear HSX Sx
      go_wp2
      go_round
      case rel => exact ⟨i + 1, N', _, vL', HLT.out, HM5, HNX, ⟨(HTT.out.trans ((Gr.refl wr).drew.touch _)).trans (HT5.out.mono (fun b _ h => HBLK.out b h))⟩, by go_num⟩
      case measure => have := HLT.out; simp [intOf]; omega
    · have hiI : ¬ (i : Int) < (R : Int) := by omega
      have hiR : i = R := by omega
      have HS : Hid (T = ordC u rs 0 ∧ ∀ a ∈ T, a ∈ O) := ⟨by have := HTx.out.1; rwa [hiR, HR.out, List.take_length] at this, HTx.out.2⟩
      clear hlt hiR HTx
      have y3 := HMx.out.r3.cell (j := 0) rfl
      go_wp2_with (fail)
      clear y3
      go_loopw [14] (fun s14 wx => ∃ (j N : Nat) (T : List Int) (vL : Value), j ≤ N ∧ Hid (MtAt wx w.heap.size b1 (b1 + 1) (b1 + 1 + 1) w.heap.size M2 (fun a => wentC u O t a) T N vL) ∧ Hid (T = ordC u rs j ∧ ∀ a ∈ T, a ∈ O) ∧ Hid (Touch (fun b => w.heap.size ≤ b) w wx) ∧ s14 = .int .i64 j) (fun s14 _ => 1101 - (intOf s14).toNat)
      case atStart => exact ⟨0, N, T, vL, Nat.zero_le _, HMx, HS, HTT, rfl⟩
      case round =>
        clear HMx HS HTT
        obtain ⟨j, N, T, vL, hj, HMx, HTx, HTT, rfl⟩ := hrel
        have y3 := HMx.out.r3.cell (j := 0) rfl
        obtain ⟨TA, tc, rfl, hc1, hc2⟩ := own_shape HMx.out.own
        have hNl : N ≤ 1100 := by
          have h1 := HMx.out.len
          have h2 : RowO u rs T := ⟨by rw [HTx.out.1]; exact ordC_nodup u rs j, fun a ha => HROW.out.rc a (HTx.out.2 a ha)⟩
          have := h2.len HM.out
          omega
        by_cases hlt : j < N
        · have hjI : (j : Int) < (N : Int) := by omega
          have hjT : j < T.length := by have := HMx.out.len; omega
          obtain ⟨gb, tc9, ea, -, -, -, hgb⟩ := own_form HMx.out.own (by omega)
          simp only [Value.slice.injEq] at ea
          obtain ⟨rfl, -, rfl⟩ := ea
          have k0 := own_cell HMx.out.own (zs_at hjT)
          have hmO := HTx.out.2 _ (List.getElem_mem hjT)
          have hra := HROW.out.rc _ hmO
          obtain ⟨a, p, f, kk, hae, hE, hh, hs, hin, hap, hoz, hpts⟩ := rch_obj HM.out.sound hra
          obtain ⟨q, hq, htq, hqn, hqE, hqH, hqV⟩ := HCP.out _ hmO
          have hpr : prM (fun a => wentC u O t a) T T[j] = some (.int .i64 q) := by
            unfold prM
            rw [if_neg (by rw [hae]; omega), if_pos (List.getElem_mem hjT)]
            show some (Value.int .i64 (wentC u O t T[j])) = _
            rw [hq]
          have HGD : Hid (j < (ordC u rs j).length ∧ (ordC u rs j).getD j 0 = (a : Int)) := ⟨by
            rw [← HTx.out.1]
            exact ⟨hjT, by rw [List.getD_eq_getElem?_getD, List.getElem?_eq_getElem hjT, hae]; rfl⟩⟩
          rw [hae] at k0 hE hh hoz hpts hq hqn hqH hqV hpr hmO hra
          have hlk : ∀ W', Gr wr W' → (Instr.lookup 104 (.map (some w.heap.size)) (.int .i64 a) false).run Tryz.prog W' = .ok (.int .i64 q) W' := fun W' g => by
            rw [(HMx.out.m1.gr g).look keyed_int Tryz.underlying104 Tryz.underlying3 (zero_int W') (WalkArith.wf_i64 (by omega)), hpr]
            rfl
          have HB2 := hid (And.intro hap (And.intro hin hs))
          have HB3 := hid (And.intro htq hqn)
          rw [hoz] at HB3
          have HQV := hid hqV
          rw [hh, hoz] at HQV
          have HMO := hid hmO
          have HPT := hid hpts
          have HNXT : Hid (∀ b ∈ ptsC u (a : Int), b ≠ 0 → b ∈ O) := ⟨by
            obtain ⟨j', hj', e⟩ := List.getElem_of_mem hmO
            have h1 := ordC_closed u rs k j' (by rw [HOE.out.2]; exact hj') (by rw [← HOE.out.1]; exact hj')
            simp only [← HOE.out.1, e] at h1
            exact h1⟩
          have HPL : Hid ((ptsC u (a : Int)).length = p) := ⟨by rw [ptsC_len, hh]; exact Int.toNat_natCast p⟩
          have HRD1 := hid (fun (W : World) (g : Touch (fun b => w.heap.size ≤ b) w W) => ref15n_read HU.out (own_touch HW1.out g (fun gg hg h => by have := (own_lt HW1.out hg).2; omega)) (a : Int))
          have HRD2 := hid (fun (W : World) (g : Touch (fun b => w.heap.size ≤ b) w W) => ref15n_read HUB.out (own_touch HW2.out g (fun gg hg h => by have := (own_lt HW2.out hg).2; omega)) (q : Int))
          rw [hh, hE] at HRD1
          rw [hqH, hqE, hh] at HRD2
          unfold hdrV at HRD1 HRD2
          have HHH := hid hh
          have HLT := hid hlt
          have HJT := hid hjT
          have hRec := hid (fun W => Rec.new W 90 [.int .i64 p, .int .i64 f, .int .i64 kk])
          simp only [List.toArray] at hRec
          clear hE hh hoz hpts hq hqn hqH hqV hpr hmO hra htq hap hin hs hae hlt hjT
          go_upto_region 15 with (fail)
          clear y3
          obtain ⟨Sx, hSx⟩ : ∃ Sx : World → Prop, Sx = fun W' => Gr wr W' := ⟨_, rfl⟩
          have x1 : ∀ p : Held Sx, p.w.cell? ⟨b1 + 1 + 1, 0, none⟩ = some (.slice (some ⟨gb, 0, none⟩) N tc) := fun p => by have h := Held.get hSx p; exact (HMx.out.r3.gr h).cell (j := 0) rfl
          have x2 : ∀ p : Held Sx, p.w.cell? ⟨gb, j, none⟩ = some (.int .i64 a) := fun p => by have h := Held.get hSx p; exact (h.cell hgb j).trans k0
          have x3 : ∀ p : Held Sx, p.w.cell? ⟨b1, 0, none⟩ = some (.map (some w.heap.size)) := fun p => by have h := Held.get hSx p; exact (HMx.out.r1.gr h).cell (j := 0) rfl
          have x4 : ∀ p : Held Sx, (Instr.lookup 104 (.map (some w.heap.size)) (.int .i64 a) false).run Tryz.prog p.w = .ok (.int .i64 q) p.w := fun p => by have h := Held.get hSx p; exact hlk _ h
          have HS : Hid (∀ W', Gr wr W' → Sx W') := ⟨fun W' h => by rw [hSx]; exact h⟩
          have hS0 := HS.out _ ((Gr.refl wr).drew)
          have inst : Inhabited (Held Sx) := ⟨⟨_, hS0⟩⟩
          clear hSx
          refine wp_region_mixS Sx 12 [] [0, 1, 2, 3, 4, 5, 6, 7, 8, 9, 10, 11] (by kernel_rfl) (by kernel_rfl) hS0 ?_
          refine segs_end ?_
          try simp only [opsAt, List.getElem?_cons_zero, List.getElem?_cons_succ]
          repeat (go_big_quiet_step (fail))
          refine wpQuiet_nil ?_
          refine NoPanic.normal ?_
          clear x1 x2 x3 x4 hS0 inst
          clear HS Sx
          clear k0 hlk
          have HTD := hid (HTT.out.trans ((Gr.refl wr).drew.touch _))
          go_upto_region 17 with (go_at_call 74; refine (HRD1.out _ HTD.out).mono ?_; rintro e w1 ⟨rfl, hg1⟩; have HG1 := hid ((Gr.refl wr).drew.trans hg1); clear hg1)
          obtain ⟨w4, hw4⟩ : ∃ w4, w4 = w1.alloc (.cells #[.int .i64 p, .int .i64 f, .int .i64 kk] 90) := ⟨_, rfl⟩
          have R4 := hRec.out w1
          obtain ⟨h1, hh1⟩ : ∃ h1, h1 = w1.heap.size := ⟨_, rfl⟩
          have HH1 : Hid (wr.heap.size ≤ h1) := ⟨by rw [hh1]; exact HG1.out.size⟩
          have hg4 : Gr wr w4 := by rw [hw4]; exact HG1.out.alloc _
          rw [← hh1] at R4 ⊢
          rw [← hw4] at R4 ⊢
          have HTD4 := hid (HTT.out.trans (hg4.touch _))
          have HR4 := hid R4
          have HG4 := hid hg4
          clear hw4 HG1 R4 hg4 hh1
          go_upto_region 18 with (go_at_call 74; refine (HRD2.out _ HTD4.out).mono ?_; rintro e w5 ⟨rfl, hg5⟩; have HG5 := hid hg5; clear hg5)
          obtain ⟨w6, hw6⟩ : ∃ w6, w6 = w5.alloc (.cells #[.int .i64 p, .int .i64 f, .int .i64 kk] 90) := ⟨_, rfl⟩
          have R6 := hRec.out w5
          obtain ⟨h2, hh2⟩ : ∃ h2, h2 = w5.heap.size := ⟨_, rfl⟩
          have hg6 : Gr w4 w6 := by rw [hw6]; exact HG5.out.alloc _
          rw [← hh2] at R6 ⊢
          rw [← hw6] at R6 ⊢
          have y0 := (HR4.out.gr hg6).cell (j := 0) rfl
          have y1 := (HR4.out.gr hg6).cell (j := 1) rfl
          have y2 := (HR4.out.gr hg6).cell (j := 2) rfl
          have z0 := R6.cell (j := 0) rfl
          have z1 := R6.cell (j := 1) rfl
          have z2 := R6.cell (j := 2) rfl
          have HR6 := hid (HR4.out.gr hg6)
          have HM6 := hid (HMx.out.gr (HG4.out.trans hg6))
          have HT6 := hid (HTD4.out.trans (hg6.touch _))
          have HZ6 : Hid (wr.heap.size ≤ h1 ∧ h1 < w6.heap.size ∧ w.heap.size ≤ h1) := ⟨HH1.out, HR6.out.lt, Nat.le_trans HTT.out.size HH1.out⟩
          have HU0 : Hid (T = addsC T ((ptsC u (a : Int)).take (min 0 p)) ∧ ∀ b ∈ T, b ∈ O) := ⟨⟨by rw [Nat.zero_min]; rfl, HTx.out.2⟩⟩
          have HML : Hid (w.heap.size < wr.heap.size ∧ b1 + 1 + 1 < wr.heap.size ∧ M2 < wr.heap.size) := ⟨⟨HMx.out.m1.lt, HMx.out.r3.lt, HMx.out.m2.lt⟩⟩
          clear hw6 hh2 HG5 R6 hg6 HR4 HTD4 HRD1 HRD2 hRec
          go_upto_region 20 with (fail)
          clear z0 z1 z2
          have hb22 := HB2.out.2.2
          go_wp2_with (fail)
          go_loopw [98] (fun s98 wy => ∃ (m N' : Nat) (U : List Int) (vL : Value), m ≤ p + f + kk ∧ Hid (MtAt wy w.heap.size b1 (b1 + 1) (b1 + 1 + 1) w.heap.size M2 (fun a => wentC u O t a) U N' vL) ∧ Hid (U = addsC T ((ptsC u (a : Int)).take (min m p)) ∧ ∀ b ∈ U, b ∈ O) ∧ Hid (Rec wy h1 90 [.int .i64 p, .int .i64 f, .int .i64 kk]) ∧ Hid (Touch (fun b => w.heap.size ≤ b) w wy) ∧ s98 = .int .i64 m) (fun s98 _ => p + f + kk - (intOf s98).toNat)
          case atStart => exact ⟨0, N, T, _, Nat.zero_le _, HM6, HU0, HR6, HT6, rfl⟩
          case round =>
            clear y0 y1 y2 HM6 HU0 HR6 HT6
            obtain ⟨m, N', U, vL', hm, HMy, HUy, HRy, HTy, rfl⟩ := hrel
            obtain ⟨b20, b21, b22⟩ := HB2.out
            obtain ⟨b30, b31⟩ := HB3.out
            by_cases hlt : m < p + f + kk
            · have hmI : (m : Int) < (p : Int) + (f : Int) + (kk : Int) := by omega
              have HLT2 := hid hlt
              have hW1y := own_touch HW1.out HTy.out (fun gg hg h => by have := (own_lt HW1.out hg).2; omega)
              have hW2y := own_touch HW2.out HTy.out (fun gg hg h => by have := (own_lt HW2.out hg).2; omega)
              have hi1 : a + 1 + m < n := by omega
              have hi2 : q + 1 + m < n := by omega
              obtain ⟨gw, cw, ew, -, -, -, hgw⟩ := own_form hW1y (by omega)
              simp only [Value.slice.injEq] at ew
              obtain ⟨rfl, -, rfl⟩ := ew
              obtain ⟨gv, cv, ev, -, -, -, hgv⟩ := own_form hW2y (by omega)
              simp only [Value.slice.injEq] at ev
              obtain ⟨rfl, -, rfl⟩ := ev
              have k5 := own_cell hW1y (wrds_at u hi1)
              have k6 := own_cell hW2y (wrds_at ub hi2)
              have hqv := HQV.out m (by push_cast; omega)
              rw [show (q : Int) + 1 + (m : Int) = ((q + 1 + m : Nat) : Int) by omega, show (a : Int) + 1 + (m : Int) = ((a + 1 + m : Nat) : Int) by omega] at hqv
              have y0 := HRy.out.cell (j := 0) rfl
              have haI : (a : Int) + 1 + (m : Int) < (n : Int) := by omega
              have ha0 : (0 : Int) ≤ (a : Int) + 1 + (m : Int) := by omega
              have haN : ((a : Int) + 1 + (m : Int)).toNat = a + 1 + m := by omega
              have hqI : (q : Int) + 1 + (m : Int) < (n : Int) := by omega
              have hq0 : (0 : Int) ≤ (q : Int) + 1 + (m : Int) := by omega
              have hqN : ((q : Int) + 1 + (m : Int)).toNat = q + 1 + m := by omega
              have haI' : ¬ (n : Int) ≤ (a : Int) + 1 + (m : Int) := by omega
              have hqI' : ¬ (n : Int) ≤ (q : Int) + 1 + (m : Int) := by omega
              have HXL : Hid (u.ldV ((a + 1 + m : Nat) : Int) < 18446744073709551616 ∧ (m < p → u.ldV ((a + 1 + m : Nat) : Int) ≤ 2147483647)) := ⟨HU.out.ok.ldV_lt _, fun h => by
                have := (HPT.out m h).2.1
                rwa [show (a : Int) + 1 + (m : Int) = ((a + 1 + m : Nat) : Int) by omega] at this⟩
              have HXM : Hid (m < p → (ptsC u (a : Int)).take (m + 1) = (ptsC u (a : Int)).take m ++ [((u.ldV ((a + 1 + m : Nat) : Int) : Nat) : Int)] ∧ ((u.ldV ((a + 1 + m : Nat) : Int) : Nat) : Int) ∈ ptsC u (a : Int)) := ⟨fun h => by
                have hql : m < (ptsC u (a : Int)).length := by rw [HPL.out]; exact h
                have e : (ptsC u (a : Int))[m] = ((u.ldV ((a + 1 + m : Nat) : Int) : Nat) : Int) := by rw [ptsC_at, show (a : Int) + 1 + (m : Int) = ((a + 1 + m : Nat) : Int) by omega]
                exact ⟨by rw [List.take_succ_eq_append_getElem hql, e], by rw [← e]; exact List.getElem_mem hql⟩⟩
              have hNl' : N' ≤ 2000 := by
                have h1 := HMy.out.len
                have h2 : RowO u rs U := ⟨by rw [HUy.out.1]; exact addsC_nodup (by rw [HTx.out.1]; exact ordC_nodup u rs j) _, fun a ha => HROW.out.rc a (HUy.out.2 a ha)⟩
                have := h2.len HM.out
                omega
              obtain ⟨x, hx⟩ : ∃ x, x = u.ldV ((a + 1 + m : Nat) : Int) := ⟨_, rfl⟩
              obtain ⟨y, hy⟩ : ∃ y, y = ub.ldV ((q + 1 + m : Nat) : Int) := ⟨_, rfl⟩
              rw [← hx] at k5 HXL HXM hqv
              rw [← hy] at k6 hqv
              have HQY := hid hqv
              have HGW := hid (And.intro hgw hgv)
              clear hx hy hqv hW1y hW2y hi1 hi2 hgw hgv hlt hm
              go_upto_region 25 with (fail)
              obtain ⟨Sx, hSx⟩ : ∃ Sx : World → Prop, Sx = fun W' => W'.cell? ⟨gw, a + 1 + m, none⟩ = some (.int .u64 x) ∧ W'.cell? ⟨gv, q + 1 + m, none⟩ = some (.int .u64 y) := ⟨_, rfl⟩
              have x1 : ∀ p : Held Sx, p.w.cell? ⟨gw, a + 1 + m, none⟩ = some (.int .u64 x) := fun p => by have h := Held.get hSx p; exact h.1
              have x2 : ∀ p : Held Sx, p.w.cell? ⟨gv, q + 1 + m, none⟩ = some (.int .u64 y) := fun p => by have h := Held.get hSx p; exact h.2
              have HS : Hid (∀ W', W'.cell? ⟨gw, a + 1 + m, none⟩ = some (.int .u64 x) ∧ W'.cell? ⟨gv, q + 1 + m, none⟩ = some (.int .u64 y) → Sx W') := ⟨fun W' h => by rw [hSx]; exact h⟩
              have hS0 := HS.out (wr.drew) (⟨k5, k6⟩)
              have inst : Inhabited (Held Sx) := ⟨⟨_, hS0⟩⟩
              clear hSx
              refine wp_region_mixS Sx 16 [] [0, 1, 2, 3, 4, 5, 6, 7, 8, 9, 10, 11, 12, 13, 14, 15] (by kernel_rfl) (by kernel_rfl) hS0 ?_
              refine segs_end ?_
              try simp only [opsAt, List.getElem?_cons_zero, List.getElem?_cons_succ]
              repeat (go_big_quiet_step (fail))
              refine wpQuiet_nil ?_
              refine NoPanic.normal ?_
              clear x1 x2 hS0 inst
              clear HS Sx
              clear haI ha0 haN hqI hq0 hqN haI' hqI' k5 k6 b20 b21 b30 b31
              by_cases hp1 : m < p
              · have hx31 := HXL.out.2 hp1
                obtain ⟨htk, hmem⟩ := HXM.out hp1
                have hxO : (x : Int) = 0 ∨ (x : Int) ∈ O := by
                  by_cases h0 : (x : Int) = 0
                  · exact .inl h0
                  · exact .inr (HNXT.out _ hmem h0)
                obtain ⟨⟨p1, p2⟩, p3, p4⟩ := HBD.out _ hxO
                have hyx : (y : Int) = wentC u O t (x : Int) := by
                  have := HQY.out
                  rw [if_pos (by omega)] at this
                  omega
                have HCALL := hid (alike_meet (HMy.out.gr (Gr.refl wr).drew) HINJ.out HUy.out.2 (p := (x : Int)) (q := (y : Int)) (by
                  by_cases h0 : (x : Int) = 0
                  · left; exact ⟨h0, by rw [hyx, h0]; exact HF0.out⟩
                  · exact .inr ⟨hxO.resolve_left h0, h0, hyx⟩) ⟨by omega, by omega⟩ ⟨by omega, by omega⟩ hNl' HTy.out.size)
                unfold MtEnd at HCALL
                have HNX : Hid (addC U (x : Int) = addsC T ((ptsC u (a : Int)).take (min (m + 1) p)) ∧ ∀ b ∈ addC U (x : Int), b ∈ O) := ⟨by
                  have := HUy.out.1
                  rw [show min m p = m by omega] at this
                  rw [show min (m + 1) p = m + 1 by omega, htk, addsC_snoc, ← this], fun b hb => by
                  rcases mem_addC.1 hb with h | ⟨h, h0⟩
                  · exact HUy.out.2 b h
                  · rw [h]; exact hxO.resolve_left h0⟩
                have HBLK : Hid (∀ b, ((b = b1 + 1 + 1 ∨ b = w.heap.size ∨ b = M2) ∨ vL'.ownBlock = some b) → w.heap.size ≤ b ∧ b ≠ h1) := ⟨fun b h => by
                  have g1 := HB1.out
                  have g2 := HML.out
                  have g3 := HZ6.out
                  rcases h with (h | h | h) | h
                  · omega
                  · omega
                  · omega
                  · exact ⟨(own_lt HMy.out.own h).1, own_ne HMy.out.own HRy.out (by decide) h rfl⟩⟩
                have y0 := (HRy.out.gr (Gr.refl wr).drew).cell (j := 0) rfl
                have hmp : (m : Int) < (p : Int) := by omega
                have hmp' : ¬ (p : Int) ≤ (m : Int) := by omega
                have hx3 : (x : Int) ≤ 1100 := by omega
                have hy3 : (y : Int) ≤ 1100 := by omega
                have d4 : decide (2147483648 ≤ (x : Int)) = false := decide_eq_false (by omega)
                have d5 : decide (2147483648 ≤ (y : Int)) = false := decide_eq_false (by omega)
                have hwx : IntKind.i64.wrap (x : Int) = (x : Int) := IntWalk.i64_in _ (by omega)
                have hwy : IntKind.i64.wrap (y : Int) = (y : Int) := IntWalk.i64_in _ (by omega)
                clear hx31 htk hmem hxO p1 p2 p3 p4 hyx hp1 hNl' hx3 hy3
                go_wp2_with (go_at_call 73; refine HCALL.out.mono ?_; rintro e w5 ⟨N5, vL5, rfl, hm5, ht5⟩; have HM5 := hid hm5; have HT5 := hid ht5; clear hm5 ht5)
                go_round
                case rel => exact ⟨m + 1, N5, _, vL5, HLT2.out, HM5, HNX, ⟨(HRy.out.gr (Gr.refl wr).drew).touch HT5.out (fun h => (HBLK.out _ h).2 rfl)⟩, ⟨(HTy.out.trans ((Gr.refl wr).drew.touch _)).trans (HT5.out.mono (fun b _ h => (HBLK.out b h).1))⟩, by go_num⟩
                case measure => have := HLT2.out; simp [intOf]; omega
              · have hyx : y = x := by
                  have := HQY.out
                  rw [if_neg (by omega)] at this
                  exact this
                have HNX : Hid (U = addsC T ((ptsC u (a : Int)).take (min (m + 1) p)) ∧ ∀ b ∈ U, b ∈ O) := ⟨by
                  have := HUy.out.1
                  rw [show min m p = p by omega] at this
                  rw [show min (m + 1) p = p by omega, ← this], HUy.out.2⟩
                have y0 := (HRy.out.gr (Gr.refl wr).drew).cell (j := 0) rfl
                have hmp : ¬ (m : Int) < (p : Int) := by omega
                have hmp' : (p : Int) ≤ (m : Int) := by omega
                subst hyx
                clear hp1 hNl'
                go_wp2
                go_round
                case rel => exact ⟨m + 1, N', U, vL', HLT2.out, ⟨HMy.out.gr (Gr.refl wr).drew⟩, HNX, ⟨HRy.out.gr (Gr.refl wr).drew⟩, ⟨HTy.out.trans ((Gr.refl wr).drew.touch _)⟩, by go_num⟩
                case measure => have := HLT2.out; simp [intOf]; omega
            · have hmI : ¬ (m : Int) < (p : Int) + (f : Int) + (kk : Int) := by omega
              have hme : m = p + f + kk := by omega
              have HNX : Hid (U = ordC u rs (j + 1) ∧ ∀ b ∈ U, b ∈ O) := ⟨by
                refine ⟨?_, HUy.out.2⟩
                rw [ord_next HGD.out.1, HGD.out.2, ← HTx.out.1]
                have := HUy.out.1
                rwa [show (ptsC u (a : Int)).take (min m p) = ptsC u (a : Int) by rw [show min m p = p by omega, ← HPL.out, List.take_length]] at this⟩
              have hjN : j + 1 ≤ N' := by
                obtain ⟨X, hX⟩ := addsC_ext T ((ptsC u (a : Int)).take (min m p))
                have h1 := HMy.out.len
                have h2 := HMx.out.len
                rw [HUy.out.1, hX, List.length_append] at h1
                omega
              have HJ1 := hid hjN
              have HJN := hid (And.intro hNl hjI)
              clear hme hjN hm hlt
              go_wp2
              go_round
              case rel => exact ⟨j + 1, N', U, vL', HJ1.out, HMy, HNX, HTy, by go_num⟩
              case measure => have := HJN.out; simp [intOf]; omega
        · have hjI : ¬ (j : Int) < (N : Int) := by omega
          clear hlt
          go_wp2
          go_ret
          exact ⟨rfl, touch_old HTT.out⟩
end
end Go.Proofs.YtbmidhlilafgeaaGreatDoor
end

section
namespace Go.Proofs.YtbmidhlilafgeaaGreatDoor
open Go.RowKit Word

theorem row_ord {v : Vm} {rs : List Int} {n : Nat} {L : List Ob} (hM : Marks v rs n L) (k : Nat) : RowO v rs (ordC v rs k) := by
  refine ⟨ordC_nodup v rs k, ?_⟩
  have hpts : ∀ b, Rch v rs b → ∀ a ∈ ptsC v b, a ≠ 0 → Rch v rs a := fun b hb a ha h0 => by
    obtain ⟨i, hi, rfl⟩ := List.getElem_of_mem ha
    rw [ptsC_at] at h0 ⊢
    rw [ptsC_len] at hi
    have hrd := hM.sound.rd _ hb
    have hp := hdr_p hrd
    have hpt := hM.sound.pt _ hb i (by omega)
    have he := ptV_of hpt
    exact hb.step ⟨hrd, i, by omega, hpt, by rw [he.1]; omega, by rw [he.1]⟩
  induction k with
  | zero => exact rch_adds (fun a h => by cases h) (fun a ha h0 => Rch.root ha h0)
  | succ k ih =>
    unfold ordC
    split
    · rename_i hk
      refine rch_adds ih (hpts _ (ih _ ?_))
      rw [List.getD_eq_getElem?_getD, List.getElem?_eq_getElem hk]
      exact List.getElem_mem hk
    · exact ih
/-- The order comes to an end. -/
theorem ord_ends {v : Vm} {rs : List Int} {n : Nat} {L : List Ob} (hM : Marks v rs n L) : ∃ k, k = (ordC v rs k).length := by
  have h : ∀ m, (∃ k, k = (ordC v rs k).length) ∨ m < (ordC v rs m).length := fun m => by
    induction m with
    | zero =>
      rcases Nat.eq_zero_or_pos (ordC v rs 0).length with h | h
      · exact .inl ⟨0, h.symm⟩
      · exact .inr h
    | succ m ih =>
      rcases ih with h | h
      · exact .inl h
      · obtain ⟨X, hX⟩ := ordC_ext v rs m
        have := congrArg List.length hX
        rw [List.length_append] at this
        rcases Nat.lt_or_ge (m + 1) (ordC v rs (m + 1)).length with h' | h'
        · exact .inr h'
        · exact .inl ⟨m + 1, by omega⟩
  rcases h n with h | h
  · exact h
  · have := (row_ord hM n).len hM
    omega
section
variable {w : World}
set_option maxRecDepth 100000 in
set_option maxHeartbeats 6400000 in
theorem alike25_walk (hT : TabAt w) {A1 A2 A3 : Option Addr} {c1 c2 c3 : Nat} {x : LaidC} (hL : LaidCAt w A1 A2 A3 x) :
    Gets Tryz.prog 3 #[.agg (laidV x A1 A2 A3 c1 c2 c3).toArray] w (.bool true) := by
  have HT := hid hT
  have HGB := hid ((Gr.refl w).alloc (.cells (laidV x A1 A2 A3 c1 c2 c3).toArray 25))
  have hrb := Rec.new w 25 (laidV x A1 A2 A3 c1 c2 c3)
  obtain ⟨W1, hW1⟩ : ∃ W1, W1 = w.alloc (.cells (laidV x A1 A2 A3 c1 c2 c3).toArray 25) := ⟨_, rfl⟩
  rw [← hW1] at hrb HGB
  have HLY := hid (lay24_walk (c1 := c1) (c2 := c2) (c3 := c3) (hL.gr HGB.out) (more := 2000) (by omega))
  have HFAR := hid (fun W => far24 (.int .u8 x.pg) (.int .u8 x.bk) (.int .u8 x.st) (.int .u8 x.ah) A1 A2 A3 x.H.length x.P.length x.R.length c1 c2 c3 W)
  have HLEN : Hid (x.R.length ≤ 9223372036854775807) := ⟨hL.lr⟩
  unfold laidV at hW1 hrb HLY ⊢
  have HRB := hid hrb
  have z0 := hrb.cell (j := 0) rfl
  have z1 := hrb.cell (j := 1) rfl
  have z2 := hrb.cell (j := 2) rfl
  have z3 := hrb.cell (j := 3) rfl
  have z4 := hrb.cell (j := 4) rfl
  have z5 := hrb.cell (j := 5) rfl
  have z6 := hrb.cell (j := 6) rfl
  have zl := hrb.lt
  obtain ⟨fb, hfb⟩ : ∃ b, b = farC x.H.length x.P.length x.R.length := ⟨_, rfl⟩
  rw [← hfb] at HFAR
  have HFB := hid hfb
  clear hT hL hrb hfb
  obtain ⟨N1, hN1⟩ : ∃ N, N = x.H.length := ⟨_, rfl⟩
  obtain ⟨N2, hN2⟩ : ∃ N, N = x.P.length := ⟨_, rfl⟩
  obtain ⟨N3, hN3⟩ : ∃ N, N = x.R.length := ⟨_, rfl⟩
  have HN3 := hid hN3
  rw [← hN1, ← hN2, ← hN3] at HLY HFAR HRB
  rw [← hN1, ← hN2, ← hN3]
  rw [← hN1] at z1 hW1
  rw [← hN2] at z2 hW1
  rw [← hN3] at z3 hW1
  have HWL := hid hW1
  clear hN1 hN2 hN3
  unfold Gets
  go_enter Tryz.func3, Tryz.ntmps3
  go_upto_region 1 with (fail)
  rw [show w.alloc (.cells #[.int .u8 x.pg, .slice A1 N1 c1, .slice A2 N2 c2, .slice A3 N3 c3, .int .u8 x.bk, .int .u8 x.st, .int .u8 x.ah] 25) = W1 from hW1.symm]
  clear hW1 HWL
  go_upto_region 2 with (go_at_call 13; refine HLY.out.mono ?_; rintro e w1 ⟨hp, q, r, g, A, c, v0, SV, rfl, hg1, hrn, hz0, hvm, hrt, hrec, hwr, hsv, hs1, hs2, hs3, hs4, hs5⟩; have HG := hid (HGB.out.trans hg1); have HV := hid hvm; have HRN := hid hrn; have HRT := hid hrt; have HRC := hid hrec; have HWR := hid hwr; have HSV := hid (And.intro hsv (And.intro hs1 (And.intro hs2 (And.intro hs3 (And.intro hs4 hs5))))); have HB1 := hid (HRB.out.gr hg1); clear hg1 hrn hz0 hvm hrt hrec hwr hsv hs1 hs2 hs3 hs4 hs5)
  clear z0 z1 z2 z3 z4 z5 z6 zl
  have z0 := HB1.out.cell (j := 0) rfl
  have z1 := HB1.out.cell (j := 1) rfl
  have z2 := HB1.out.cell (j := 2) rfl
  have z3 := HB1.out.cell (j := 3) rfl
  have z4 := HB1.out.cell (j := 4) rfl
  have z5 := HB1.out.cell (j := 5) rfl
  have z6 := HB1.out.cell (j := 6) rfl
  have zl := HB1.out.lt
  cases fb with
  | true =>
    go_wp2_with (first
      | (go_at_call 14; refine (HFAR.out _).mono ?_; rintro e w2 ⟨rfl, hg2⟩; have HG := hid (HG.out.trans hg2); have HB1 := hid (HB1.out.gr hg2); have z0 := HB1.out.cell (j := 0) rfl; have z1 := HB1.out.cell (j := 1) rfl; have z2 := HB1.out.cell (j := 2) rfl; have z3 := HB1.out.cell (j := 3) rfl; have z4 := HB1.out.cell (j := 4) rfl; have z5 := HB1.out.cell (j := 5) rfl; have z6 := HB1.out.cell (j := 6) rfl; have zl := HB1.out.lt; clear hg2)
      | (go_at_call 15; refine (lives25 (HG.out.tab HT.out.lt HT.out)).mono ?_; rintro e w4 ⟨rfl, hg4⟩; have HG := hid (HG.out.trans hg4); clear hg4))
    go_ret
    exact ⟨rfl, HG.out⟩
  | false =>
    go_upto_region 4 with (go_at_call 14; refine (HFAR.out _).mono ?_; rintro e w2 ⟨rfl, hg2⟩; have HG := hid (HG.out.trans hg2); have HG12 := hid hg2; clear hg2)
    clear z0 z1 z2 z3 z4 z5 z6 zl
    have hst := Stays.layC HRN.out.ok x
    have hs := HRN.out.stays hst
    have hLI := laid_in (x := x) HRN.out.ok HRN.out.map
    obtain ⟨L, hM⟩ := hLI.ex HRN.out.map
    obtain ⟨u, hu, huv⟩ := ghost (n := x.n) (f := fun a => (layC x v0).ldV a) (by have := x.page_pos; unfold LaidC.n; omega) (by have := x.page_pos; unfold LaidC.n; omega) (fun a => hs.ok.ldV_lt _)
    have hwu : Wider (layC x v0) u := ghost_wider hu hs.n huv
    have HMU := hid (hwu.marks hM)
    have HM := hid hM
    have HU := hid hu
    have HUV := hid huv
    have hmk := hLI.marks HRN.out.map hM
    have HSZ : Hid (sizes L ≤ 512) := ⟨hmk.2.1⟩
    have hn11 : x.n ≤ 1100 := by have := x.page_pos; unfold LaidC.n; omega
    have HWR2 : Hid (Wrds w2 A c x.n u) := ⟨by have := HWR.out.gr HG12.out; unfold Wrds at this ⊢; rwa [wrds_congr huv]⟩
    have HC2 := hid (HRC.out.gr HG12.out)
    unfold heapL at HC2
    have HV2 := hid (HV.out.gr HG12.out)
    have HR2 := hid (HRT.out.gr HG12.out)
    have HALL := hid (fun (W : World) (g' : Gr w2 W) => rt_all (HR2.out.gr g'))
    have hrl : x.rs.length ≤ 64 := HRT.out.le
    have HLR := hid hrl
    have HBIG : Hid (¬ x.room + 2000 < (layC x v0).pl.used + x.pgs (sizes L)) := ⟨by
      have h1 := hs.us
      have h2 := hmk.2.1
      have h3 := x.page_pos
      have h4 : (x.top - 1) / x.page ≤ 1100 := by
        have := Nat.div_le_self (x.top - 1) x.page
        have := x.top_le
        omega
      have h5 : x.pgs (sizes L) ≤ 544 := by unfold LaidC.pgs; have := Nat.div_le_self (sizes L + x.page - 1) x.page; omega
      omega⟩
    clear hst hs hLI hM hu huv hwu hmk
    have y1 := HC2.out.cell (j := 1) rfl
    go_upto_region 5 with (go_at_call 16; refine (HALL.out _ (Gr.refl w2)).mono ?_; rintro e w3 ⟨gA, cA, rfl, hg3, hgl3, ho3⟩; have HG3 := hid hg3; have HWS := hid ho3; have HGA : Hid (w2.heap.size ≤ gA) := ⟨hgl3⟩; clear hg3 hgl3 ho3)
    clear y1
    have HC3 := hid (HC2.out.gr HG3.out)
    have HT36 : Hid (∀ W W', Gr w3 W → Touch (fun b => b = g ∨ SV b) W W' → P25 W' x u hp q r gA cA A c ∧ Gr w W') := ⟨fun W W' hW t => by
      have hp3 : P25 W x u hp q r gA cA A c := ⟨(HRC.out.gr HG12.out).gr (HG3.out.trans hW), HWR2.out.gr (HG3.out.trans hW), own_gr HWS.out hW⟩
      refine ⟨hp3.touch t (fun h => ?_) (fun b hb h => ?_) (fun h => ?_), ?_⟩
      · rcases h with h | h
        · exact own_ne HRT.out.row HRC.out (by decide) rfl rfl h.symm
        · exact HSV.out.2.1 h
      · rcases h with h | h
        · exact words_ne HWR2.out HR2.out hb h
        · exact (HSV.out.2.2.2.2.2 b hb).2 h
      · have h1 := HGA.out
        have h2 := HG12.out.size
        rcases h with h | h
        · have := HRT.out.lt.2; omega
        · have := (HSV.out.1 _ h).2; omega
      · have t1 : Touch (fun b => b = g ∨ SV b) w W' := ((HG.out.trans (HG3.out.trans hW)).touch _).trans t
        refine (t1.mono (T := fun _ => False) (fun i hi h => ?_)).gr
        have hz := HGB.out.size
        rcases h with h | h
        · have := HSV.out.2.2.2.2.1.2.2; omega
        · have := (HSV.out.1 i h).1; omega⟩
    have HRUN := hid (fun (W : World) (hW : Gr w2 W) => (cp24_run HRN.out (HV2.out.gr hW) (HR2.out.gr hW) HT.out (HG.out.trans hW) (fun i hi => by have := (HSV.out.1 i hi).1; have := HGB.out.size; omega) HSV.out.2.2.1 HSV.out.2.2.2.1).mono (fun e w' h => run25_ok HRN.out HM.out HU.out HUV.out HBIG.out h))
    unfold cfV at HRUN
    obtain ⟨Sx, hSx⟩ : ∃ Sx : World → Prop, Sx = fun W' => Rec W' hp 37 [.pointer (some ⟨q, 0, none⟩), .pointer (some ⟨r, 0, none⟩), .int .i64 x.cf.fr, .int .i64 x.cf.tp, .int .i64 x.cf.to, .int .i64 x.cf.lm, .int .i64 x.cf.bk, .int .i64 x.cf.st, .int .i64 x.cf.ah, .slice A x.n c, .int .i64 (x.page : Nat)] := ⟨_, rfl⟩
    have x0 : ∀ p : Held Sx, p.w.cell? ⟨hp, 0, none⟩ = some (.pointer (some ⟨q, 0, none⟩)) := fun p => by have h := Held.get hSx p; exact h.cell (j := 0) rfl
    have x1 : ∀ p : Held Sx, p.w.cell? ⟨hp, 1, none⟩ = some (.pointer (some ⟨r, 0, none⟩)) := fun p => by have h := Held.get hSx p; exact h.cell (j := 1) rfl
    have x2 : ∀ p : Held Sx, p.w.cell? ⟨hp, 2, none⟩ = some (.int .i64 x.cf.fr) := fun p => by have h := Held.get hSx p; exact h.cell (j := 2) rfl
    have x3 : ∀ p : Held Sx, p.w.cell? ⟨hp, 3, none⟩ = some (.int .i64 x.cf.tp) := fun p => by have h := Held.get hSx p; exact h.cell (j := 3) rfl
    have x4 : ∀ p : Held Sx, p.w.cell? ⟨hp, 4, none⟩ = some (.int .i64 x.cf.to) := fun p => by have h := Held.get hSx p; exact h.cell (j := 4) rfl
    have x5 : ∀ p : Held Sx, p.w.cell? ⟨hp, 5, none⟩ = some (.int .i64 x.cf.lm) := fun p => by have h := Held.get hSx p; exact h.cell (j := 5) rfl
    have x6 : ∀ p : Held Sx, p.w.cell? ⟨hp, 6, none⟩ = some (.int .i64 x.cf.bk) := fun p => by have h := Held.get hSx p; exact h.cell (j := 6) rfl
    have x7 : ∀ p : Held Sx, p.w.cell? ⟨hp, 7, none⟩ = some (.int .i64 x.cf.st) := fun p => by have h := Held.get hSx p; exact h.cell (j := 7) rfl
    have x8 : ∀ p : Held Sx, p.w.cell? ⟨hp, 8, none⟩ = some (.int .i64 x.cf.ah) := fun p => by have h := Held.get hSx p; exact h.cell (j := 8) rfl
    have HS : Hid (∀ W', Rec W' hp 37 [.pointer (some ⟨q, 0, none⟩), .pointer (some ⟨r, 0, none⟩), .int .i64 x.cf.fr, .int .i64 x.cf.tp, .int .i64 x.cf.to, .int .i64 x.cf.lm, .int .i64 x.cf.bk, .int .i64 x.cf.st, .int .i64 x.cf.ah, .slice A x.n c, .int .i64 (x.page : Nat)] → Sx W') := ⟨fun W' h => by rw [hSx]; exact h⟩
    have hS0 := HS.out _ (HC3.out.gr (Gr.refl w3).drew)
    have inst : Inhabited (Held Sx) := ⟨⟨_, hS0⟩⟩
    clear hSx
    refine wp_region_mixS Sx 18 [([0, 1, 2, 3, 4, 5, 6, 7, 8, 9, 10, 11], 12)] [13, 14, 15, 16, 17] (by kernel_rfl) (by kernel_rfl) hS0 ?_
    refine segs_step ?_
    try simp only [opsAt, List.getElem?_cons_zero, List.getElem?_cons_succ]
    repeat (go_big_quiet_step (fail))
    refine wpQuiet_nil ?_
    go_wp2_with (go_at_call 17; refine (HRUN.out _ HG3.out.drew).mono ?_; rintro e w6 ⟨rfl, ht6, v6, S6, out, hv6, hn6, hu6, hr6, hol, hk6⟩; have HP6 := hid (HT36.out _ _ (Gr.refl w3).drew ht6); have HV6 := hid hv6; have HN6 := hid hn6; have HR6 := hid hr6; have HOL := hid hol; have HK6 := hid hk6; clear ht6 hv6 hn6 hu6 hr6 hol hk6)
    refine ⟨.inr (Held.of (HS.out _ (HP6.out.1.hb))), ?_⟩
    refine segs_end ?_
    try simp only [opsAt, List.getElem?_cons_zero, List.getElem?_cons_succ]
    repeat (go_big_quiet_step (fail))
    refine wpQuiet_nil ?_
    refine NoPanic.normal ?_
    clear x0 x1 x2 x3 x4 x5 x6 x7 x8 hS0 inst
    clear HS Sx
    have HC6 := hid HP6.out.1.hb
    unfold heapL at HC6
    have HLD := loaded25 (HV6.out.gr (Gr.refl w6).drew) (by rw [HN6.out]; exact hn11)
    rw [HN6.out] at HLD
    have HLD := hid HLD
    have HAL6 := hid (fun (W : World) (g' : Gr w6 W) => rt_all (HR6.out.gr g'))
    rw [HOL.out] at HAL6
    obtain ⟨k', hk'⟩ := ord_ends HMU.out
    obtain ⟨hrl2, hval, hout, hrow⟩ := HK6.out k' hk'
    obtain ⟨O, hOe⟩ : ∃ O, O = ordC u x.rs k' := ⟨_, rfl⟩
    rw [← hOe] at hrl2 hval hout hrow hk'
    obtain ⟨ub, hub, hubv⟩ := ghost (n := x.n) (f := fun a => v6.ldV a) (by have := x.page_pos; unfold LaidC.n; omega) (by have := x.page_pos; unfold LaidC.n; omega) (fun a => HV6.out.ok.ldV_lt _)
    have htn : x.cf.to + sizes L ≤ x.n := by show x.page + 512 + sizes L ≤ x.page + 1024; have := HSZ.out; omega
    have ht0 : 0 < x.cf.to := by show 0 < x.page + 512; omega
    have HCPD : Hid (∀ p ∈ O, CopiedAt u ub O x.cf.to x.n p) := ⟨fun p hp => copied_at (sz := sizes L) hub hrow HMU.out (fun i hi => by rw [hubv _ (by omega)]; exact hval i hi) (by have := rowC_len u O x.cf.to O; omega) htn ht0 hp⟩
    have HALK : Hid (∀ (W : World) (B : Option Addr) (cB g8 c8 : Nat), Gr w6 W → Wrds W B cB x.n ub → IntsAt W (some ⟨g8, 0, none⟩) out → Calls Tryz.prog 18 #[.slice A x.n c, .slice B x.n cB, .slice (some ⟨gA, 0, none⟩) x.rs.length cA, .slice (some ⟨g8, 0, none⟩) x.rs.length c8] W fun e w' => e = .returned (.bool true) ∧ Gr W w') := ⟨fun W B cB g8 c8 hg hB h8 => alike25 HU.out hub (HP6.out.1.gr hg).wd hB (HP6.out.1.gr hg).ints h8 hout HLR.out HMU.out hn11 hOe hk' hrow ht0 HCPD.out⟩
    have HWB : Hid (wrds v6 x.n = wrds ub x.n) := ⟨wrds_congr (fun a ha => (hubv a ha).symm)⟩
    have HLV : Hid (∀ (W : World), Gr w6 W → Calls Tryz.prog 15 #[] W fun e w' => e = .returned (.bool true) ∧ Gr W w') := ⟨fun W hg => by
      have := HP6.out.2.trans hg
      exact lives25 (this.tab HT.out.lt HT.out)⟩
    clear hk' hrl2 hval hout hrow hOe hub hubv htn ht0 HRUN HT36 HK6
    go_upto_region 8 with (fail)
    obtain ⟨Sx, hSx⟩ : ∃ Sx : World → Prop, Sx = fun W' => Gr w6 W' := ⟨_, rfl⟩
    have x0 : ∀ p : Held Sx, p.w.cell? ⟨hp, 0, none⟩ = some (.pointer (some ⟨q, 0, none⟩)) := fun p => by have h := Held.get hSx p; exact (HC6.out.gr h).cell (j := 0) rfl
    have x1 : ∀ p : Held Sx, p.w.cell? ⟨hp, 1, none⟩ = some (.pointer (some ⟨r, 0, none⟩)) := fun p => by have h := Held.get hSx p; exact (HC6.out.gr h).cell (j := 1) rfl
    have x9 : ∀ p : Held Sx, p.w.cell? ⟨hp, 9, none⟩ = some (.slice A x.n c) := fun p => by have h := Held.get hSx p; exact (HC6.out.gr h).cell (j := 9) rfl
    have HS : Hid (∀ W', Gr w6 W' → Sx W') := ⟨fun W' h => by rw [hSx]; exact h⟩
    have hS0 := HS.out _ ((Gr.refl w6).drew)
    have inst : Inhabited (Held Sx) := ⟨⟨_, hS0⟩⟩
    clear hSx
    refine wp_region_mixS Sx 20 [([0, 1, 2, 3, 4, 5, 6, 7, 9, 10, 11, 12, 13], 8), ([], 14), ([], 15), ([16], 17)] [18, 19] (by kernel_rfl) (by kernel_rfl) hS0 ?_
    refine segs_step ?_
    try simp only [opsAt, List.getElem?_cons_zero, List.getElem?_cons_succ]
    repeat (go_big_quiet_step (fail))
    refine wpQuiet_nil ?_
    go_wp2_with (go_at_call 19; refine HLD.out.mono ?_; rintro e w7 ⟨B, cB, rfl, hg7, ho7⟩; have HG7 := hid ((Gr.refl w6).drew.trans hg7); have HB7 : Hid (Wrds w7 B cB x.n ub) := ⟨by unfold Wrds; rw [← HWB.out]; exact own_zero ho7⟩; clear hg7 ho7)
    refine ⟨.inr (Held.of (HS.out _ (HG7.out))), ?_⟩
    refine segs_step ?_
    try simp only [opsAt, List.getElem?_cons_zero, List.getElem?_cons_succ]
    repeat (go_big_quiet_step (fail))
    refine wpQuiet_nil ?_
    go_wp2_with (go_at_call 16; refine (HAL6.out _ HG7.out).mono ?_; rintro e w8 ⟨g8, c8, rfl, hg8, hgl8, ho8⟩; have HG8 := hid (HG7.out.trans hg8); have HO8 := hid (own_ints ho8 (by rw [HOL.out])); have HB8 := hid (HB7.out.gr hg8); clear hg8 hgl8 ho8)
    refine ⟨.inr (Held.of (HS.out _ (HG8.out))), ?_⟩
    refine segs_step ?_
    try simp only [opsAt, List.getElem?_cons_zero, List.getElem?_cons_succ]
    repeat (go_big_quiet_step (fail))
    refine wpQuiet_nil ?_
    go_wp2_with (go_at_call 18; refine (HALK.out _ B cB g8 c8 HG8.out HB8.out HO8.out).mono ?_; rintro e w9 ⟨rfl, hg9⟩; have HG9 := hid (HG8.out.trans hg9); clear hg9)
    refine ⟨.inr (Held.of (HS.out _ (HG9.out))), ?_⟩
    refine segs_step ?_
    try simp only [opsAt, List.getElem?_cons_zero, List.getElem?_cons_succ]
    repeat (go_big_quiet_step (fail))
    refine wpQuiet_nil ?_
    go_wp2_with (go_at_call 15; refine (HLV.out _ HG9.out).mono ?_; rintro e w10 ⟨rfl, hg10⟩; have HG10 := hid (HG9.out.trans hg10); clear hg10)
    refine ⟨.inr (Held.of (HS.out _ (HG10.out))), ?_⟩
    refine segs_end ?_
    try simp only [opsAt, List.getElem?_cons_zero, List.getElem?_cons_succ]
    repeat (go_big_quiet_step (fail))
    refine wpQuiet_nil ?_
    refine NoPanic.normal ?_
    clear x0 x1 x9 hS0 inst
    clear HS Sx
    go_wp2
    go_ret
    exact ⟨rfl, HP6.out.2.trans HG10.out⟩
end
end Go.Proofs.YtbmidhlilafgeaaGreatDoor
end
