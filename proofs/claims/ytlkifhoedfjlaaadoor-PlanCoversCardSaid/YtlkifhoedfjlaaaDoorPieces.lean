/- Layer 23: package plan's Block, run and Pieces. -/
import Derived.Test.YtlkifhoedfjlaaaDoorPlan
import Derived.Test.YtlkifhoedfjlaaaDoorPlanP
namespace Go.Proofs.YtlkifhoedfjlaaaDoor
open Go.RowKit Word

/-- The word that comes to a place. -/
def frm (L : List Ob) (base : Nat) (b : Int) : Int := fromV L base b
theorem frm_bd {n : Nat} {L : List Ob} (h : Good n L) (hn : n ≤ 1048576) (base : Nat) (b : Int) : 0 ≤ fromV L base b ∧ fromV L base b ≤ 1048576 := by
  cases hin : inF L base b with
  | false => rw [(from_no hin).1]; omega
  | true =>
    obtain ⟨j, hj, _, e2, e3, _, _⟩ := from_in h hin
    have := h.sz _ (List.getElem_mem hj)
    omega
section
variable {w : World} {F p n B base : Nat} {L : List Ob}
def blkV (L : List Ob) (base B : Nat) (b : Int) : Int := if inF L base b then (b - base) / B else 0
set_option maxRecDepth 100000 in
set_option maxHeartbeats 1600000 in
theorem pln_block (hP : Pln w F p n B base L) (hT : TabAt w) (b : Int) (hb : b ≤ 9223372036854775807) : Gets Tryd.prog 47 #[.pointer (some ⟨p, 0, none⟩), .int .i64 b] w (.tuple #[.int .i64 (blkV L base B b), .int .i64 (fromE L base b)]) := by
  obtain ⟨h1, h2, h3, f, c0, c1, hF⟩ := hP
  have hbp := blockOk_pos h3
  have hbs := hF.2.2.1
  have HF := hid hF
  have HT := hid hT
  obtain ⟨hg, hn⟩ := hF.good
  have hs := sizes_le hg
  clear hF h3 hT hg
  unfold Gets
  cases hin : inF L base b with
  | false =>
    have E := hid (from_no hin)
    have E2 : Hid (blkV L base B b = 0) := ⟨by unfold blkV; rw [hin]; rfl⟩
    rw [E.out.2.2, E2.out]
    clear hin
    go_enter Tryd.func47, Tryd.ntmps47
    go_wp2_with (go_at_call 24; refine (fwd_from HF.out HT.out b hb).mono ?_; rintro e w1 ⟨rfl, hg1⟩; rw [E.out.1, E.out.2.2])
    go_ret2
    exact ⟨rfl, hg1⟩
  | true =>
    obtain ⟨i1, i2⟩ := inF_iff.1 hin
    have E2 : Hid (blkV L base B b = (b - base) / B) := ⟨by unfold blkV; rw [hin]; rfl⟩
    have E : Hid (fromE L base b = 0) := ⟨by unfold fromE; rw [hin]; rfl⟩
    rw [E.out, E2.out]
    have w1 : IntKind.i64.wrap (b - (base : Int)) = b - (base : Int) := IntWalk.i64_in _ (by omega)
    have hb1 : (1 : Int) ≤ (B : Int) := hbp.1
    have hq0 : (0 : Int) ≤ b - (base : Int) := by omega
    have hB0 : ((B : Int) == 0) = false := beq_eq_false_iff_ne.2 (by omega)
    have hdiv : (b - (base : Int)).tdiv (B : Int) = (b - (base : Int)) / (B : Int) := Int.tdiv_eq_ediv_of_nonneg hq0
    have hdl : (b - (base : Int)) / (B : Int) ≤ b - (base : Int) := Int.ediv_le_self _ hq0
    have hd0 : 0 ≤ (b - (base : Int)) / (B : Int) := Int.ediv_nonneg hq0 (by omega)
    have w2 : IntKind.i64.wrap ((b - (base : Int)) / (B : Int)) = (b - (base : Int)) / (B : Int) := IntWalk.i64_in _ (by omega)
    clear hin
    go_enter Tryd.func47, Tryd.ntmps47
    go_wp2_with (go_at_call 24; refine (fwd_from HF.out HT.out b hb).mono ?_; rintro e w1 ⟨rfl, hg1⟩; rw [E.out])
    have HG1 := hid hg1
    clear hg1
    rename World => wz
    have z0 : ∀ xs m, (grow wz xs m).cell? ⟨p, 0, none⟩ = some (.pointer (some ⟨f, 0, none⟩)) := fun xs m => ((HG1.out.trans (grown wz xs m)).cell h1 0).trans c0
    have z1 : ∀ xs m, (grow wz xs m).cell? ⟨p, 1, none⟩ = some (.int .i64 B) := fun xs m => ((HG1.out.trans (grown wz xs m)).cell h1 1).trans c1
    refine wp_region_by (by kernel_rfl) (by kernel_rfl) ?_
    repeat (go_big_quiet_step ((go_at_call 35; have hc := fun xs m => fwd_base (HF.out.gr (HG1.out.trans (grown wz xs m))); exact Gets.grown_same (hc _ _))))
    refine wpQuiet_nil ?_
    intro _ hw'
    obtain ⟨⟨xs, nq⟩, hw''⟩ := hw'
    subst hw''
    go_wp2
    go_ret2
    exact ⟨rfl, HG1.out.trans (grown wz _ _)⟩
/-- What run hands back: so many words side by side, and no more. -/
def RunEnd (w : World) (L : List Ob) (base at_ to : Nat) (e : Ending) (w' : World) : Prop :=
  ∃ r : Nat, e = .returned (.tuple #[.int .i64 (fromV L base at_), .int .i64 r]) ∧ Gr w w' ∧ 1 ≤ r ∧ at_ + r ≤ to ∧ (∀ i, i < r → fromV L base ((at_ : Int) + i) = fromV L base at_ + i) ∧ (at_ + r < to → fromV L base at_ + r ≠ fromV L base ((at_ : Int) + r))
set_option maxRecDepth 100000 in
set_option maxHeartbeats 1600000 in
theorem pln_run (hP : Pln w F p n B base L) (hT : TabAt w) (at_ to : Nat) (ha : at_ < to) (hto : (to : Int) ≤ 4294967296) :
    Calls Tryd.prog 69 #[.pointer (some ⟨p, 0, none⟩), .int .i64 at_, .int .i64 to] w (RunEnd w L base at_ to) := by
  obtain ⟨h1, h2, h3, f, c0, c1, hF⟩ := hP
  have HF := hid hF
  have HT := hid hT
  obtain ⟨hg, hn⟩ := hF.good
  have HBD := hid (fun b => frm_bd hg hn base b)
  obtain ⟨v, hv⟩ : ∃ v, v = fromV L base at_ := ⟨_, rfl⟩
  have HV := hid hv.symm
  have hvb := HBD.out at_
  rw [← hv] at hvb
  clear hF h3 hT hg hv
  go_enter Tryd.func69, Tryd.ntmps69
  go_wp2_with (go_at_call 24; refine (fwd_from HF.out HT.out at_ (by omega)).mono ?_; rintro e w1 ⟨rfl, hg1⟩; rw [HV.out]; have HG1 := hid hg1; clear hg1)
  go_loopw [10] (fun s wr => ∃ r : Nat, Hid (1 ≤ r ∧ at_ + r ≤ to ∧ ∀ i, i < r → fromV L base ((at_ : Int) + i) = v + i) ∧ Hid (Gr w wr) ∧ s = .int .i64 r) (fun s _ => to - (intOf s).toNat)
  case atStart => exact ⟨1, ⟨Nat.le_refl _, by omega, fun i hi => by obtain rfl : i = 0 := (by omega); simpa using HV.out⟩, HG1, rfl⟩
  case round =>
    rename World => wr
    obtain ⟨r, hr, hgr, rfl⟩ := hrel
    obtain ⟨hr1, hr2, -⟩ := hr.out
    have k0 := (hgr.out.cell h1 0).trans c0
    by_cases hlt : at_ + r < to
    · obtain ⟨x, hx⟩ : ∃ x, x = fromV L base ((at_ : Int) + (r : Int)) := ⟨_, rfl⟩
      have HX := hid hx.symm
      clear hx
      by_cases hxe : x = v + r
      · have hne : (x != v + (r : Int)) = false := by simp [hxe]
        have HXE := hid hxe
        clear hxe
        go_wp2_with (go_at_call 24; refine (fwd_from (HF.out.gr hgr.out) (hgr.out.tab HT.out.lt HT.out) _ (by omega)).mono ?_; rintro e w1 ⟨rfl, hg2⟩; rw [HX.out]; have HG2 := hid (hgr.out.trans hg2); clear hg2)
        go_roundw
        case rel => exact ⟨r + 1, ⟨by omega, by omega, fun i hi => by rcases Nat.lt_or_ge i r with h | h; exact hr.out.2.2 i h; (obtain rfl : i = r := (by omega)); rw [HX.out, HXE.out]⟩, HG2, by go_num⟩
        case measure => simp [intOf]; omega
      · have hne : (x != v + (r : Int)) = true := by simp [hxe]
        have HXE := hid hxe
        clear hxe
        go_wp2_with (go_at_call 24; refine (fwd_from (HF.out.gr hgr.out) (hgr.out.tab HT.out.lt HT.out) _ (by omega)).mono ?_; rintro e w1 ⟨rfl, hg2⟩; rw [HX.out]; have HG2 := hid (hgr.out.trans hg2); clear hg2)
        go_ret2
        exact ⟨r, by rw [HV.out]; rfl, HG2.out, hr1, hr2, fun i hi => by rw [HV.out]; exact hr.out.2.2 i hi, fun _ h => HXE.out (by rw [← HX.out, ← h, HV.out])⟩
    · go_wp2
      go_ret2
      exact ⟨r, by rw [HV.out]; rfl, hgr.out, hr1, hr2, fun i hi => by rw [HV.out]; exact hr.out.2.2 i hi, fun h => by omega⟩
end
/-! A row of pieces -/
def flatP (P : List Pc) : List Value := P.flatMap fun q => [.int .i64 q.f, .int .i64 q.t, .int .i64 (q.s : Nat)]
theorem flatP_append (P Q : List Pc) : flatP (P ++ Q) = flatP P ++ flatP Q := by simp [flatP]
theorem flatP_len (P : List Pc) : (flatP P).length = P.length * 3 := by
  induction P with
  | nil => rfl
  | cons o r ih => simp [flatP] at ih ⊢; omega
theorem flatP_at {P : List Pc} {i : Nat} (h : i < P.length) : (flatP P)[i * 3]? = some (.int .i64 P[i].f) ∧ (flatP P)[i * 3 + 1]? = some (.int .i64 P[i].t) ∧ (flatP P)[i * 3 + 2]? = some (.int .i64 (P[i].s : Nat)) := by
  induction P generalizing i with
  | nil => exact absurd h (Nat.not_lt_zero _)
  | cons o r ih =>
    have e : flatP (o :: r) = .int .i64 o.f :: .int .i64 o.t :: .int .i64 (o.s : Nat) :: flatP r := rfl
    rw [e]
    cases i with
    | zero => exact ⟨rfl, rfl, rfl⟩
    | succ i =>
      have := ih (i := i) (by simpa using h)
      rw [show (i + 1) * 3 = i * 3 + 1 + 1 + 1 by omega]
      simpa using this
/-- The pieces P lie behind A, three cells each. -/
def PcsAt (w : World) (A : Option Addr) (P : List Pc) : Prop := ∀ i (h : i < P.length), ∃ g, A = some ⟨g, 0, none⟩ ∧ g < w.heap.size ∧
  w.cell? ⟨g, i * 3, none⟩ = some (.int .i64 P[i].f) ∧ w.cell? ⟨g, i * 3 + 1, none⟩ = some (.int .i64 P[i].t) ∧ w.cell? ⟨g, i * 3 + 2, none⟩ = some (.int .i64 (P[i].s : Nat))
theorem PcsAt.gr {w w' : World} {A : Option Addr} {P : List Pc} (h : PcsAt w A P) (t : Gr w w') : PcsAt w' A P := fun i hi => by
  obtain ⟨g, rfl, h1, h2, h3, h4⟩ := h i hi
  exact ⟨g, rfl, Nat.lt_of_lt_of_le h1 t.size, (t.cell h1 _).trans h2, (t.cell h1 _).trans h3, (t.cell h1 _).trans h4⟩
theorem own_pcs {w : World} {base T : Nat} {v : Value} {P : List Pc} (h : w.ownsRow base T 3 v P.length (flatP P)) : ∃ A c, v = .slice A P.length c ∧ PcsAt w A P ∧ ∀ a, A = some a → base ≤ a.block := by
  by_cases hn : P.length = 0
  · obtain ⟨_, ⟨rfl, _⟩ | ⟨g, c, cur, rfl, e2, _⟩⟩ := h
    · exact ⟨none, 0, by rw [hn], fun i hi => by omega, fun a e => by cases e⟩
    · exact ⟨some ⟨g, 0, none⟩, c, rfl, fun i hi => by omega, fun a e => by cases e; exact e2⟩
  · obtain ⟨g, c, rfl, hb, _, _, hg⟩ := own_form h hn
    refine ⟨some ⟨g, 0, none⟩, c, rfl, fun i hi => ?_, fun a e => by cases e; exact hb⟩
    obtain ⟨f1, f2, f3⟩ := flatP_at hi
    exact ⟨g, rfl, hg, own_cell h f1, own_cell h f2, own_cell h f3⟩
theorem own_push {w : World} {base T : Nat} {v : Value} {P : List Pc} {q : Pc} (h : w.ownsRow base T 3 v (P.length + 1) (flatP P ++ [.int .i64 q.f, .int .i64 q.t, .int .i64 (q.s : Nat)])) : w.ownsRow base T 3 v (P ++ [q]).length (flatP (P ++ [q])) := by
  rw [flatP_append, List.length_append]; exact h
theorem infoPc : (Tryd.prog.info? 69).map (fun i => (i.zero, i.size, i.bytes)) = some (some (.agg #[.int .i64 0, .int .i64 0, .int .i64 0]), 3, 24) := by kernel_rfl
/-- The pieces of a block. -/
def pcsOf (L : List Ob) (B base : Nat) (k : Int) : List Pc := pcs (fromV L base) (rngA L B base k) (rngZ L B base k - rngA L B base k).toNat
theorem pcsOf_no {L : List Ob} {B base : Nat} {k : Int} (h : rngIn L B k = false) : pcsOf L B base k = [] := by
  unfold pcsOf; rw [(rng_no h).1, (rng_no h).2.1]; rfl
/-- A block's range, in natural numbers. -/
theorem rng_nat {n : Nat} {L : List Ob} (hg : Good n L) (hn : n ≤ 1048576) {B base : Nat} (hB : 1 ≤ B) (hb : base < 2147483648) {k : Int} (h : rngIn L B k = true) :
    ∃ a z : Nat, rngA L B base k = a ∧ rngZ L B base k = z ∧ a < z ∧ z ≤ 2148532224 ∧ z ≤ a + B ∧ base ≤ a ∧ z ≤ base + sizes L := by
  have hk0 : 0 ≤ k := by unfold rngIn at h; simp at h; exact h.1
  obtain ⟨j, rfl⟩ : ∃ j : Nat, k = j := ⟨k.toNat, by omega⟩
  have hlt := rng_lt hB h
  have hs := sizes_le hg
  obtain ⟨e1, e2, -⟩ := rng_yes (base := base) h
  refine ⟨base + j * B, base + min (j * B + B) (sizes L), by rw [e1]; push_cast; rfl, by rw [e2, show (j : Int) * (B : Int) = ((j * B : Nat) : Int) by push_cast; rfl]; omega, by omega, by omega, by omega, by omega, by omega⟩
theorem pcsOf_len {n : Nat} {L : List Ob} (hg : Good n L) (hn : n ≤ 1048576) {B base : Nat} (hB : 1 ≤ B) (hb : base < 2147483648) (k : Int) : (pcsOf L B base k).length ≤ B := by
  cases hin : rngIn L B k with
  | false => rw [pcsOf_no hin]; simp
  | true =>
    obtain ⟨a, z, ea, ez, _, _, hz, _, _⟩ := rng_nat hg hn hB hb hin
    unfold pcsOf
    have := pcs_len (fromV L base) (rngA L B base k) (rngZ L B base k - rngA L B base k).toNat
    omega
section
variable {w : World} {F p n B base : Nat} {L : List Ob}
def PcsEnd (w : World) (P : List Pc) (c : Int) (e : Ending) (w' : World) : Prop :=
  ∃ A cap, e = .returned (.tuple #[.slice A P.length cap, .int .i64 c]) ∧ Gr w w' ∧ PcsAt w' A P
set_option maxRecDepth 100000 in
set_option maxHeartbeats 1600000 in
theorem pln_pieces (hP : Pln w F p n B base L) (hT : TabAt w) (k : Int) :
    Calls Tryd.prog 43 #[.pointer (some ⟨p, 0, none⟩), .int .i64 k] w (PcsEnd w (pcsOf L B base k) (rngE L B k)) := by
  have HP := hid hP
  have HT := hid hT
  obtain ⟨h1, h2, h3, f, c0, c1, hF⟩ := hP
  obtain ⟨hg, hn⟩ := hF.good
  have hbp := blockOk_pos h3
  have hbs := hF.2.2.1
  cases hin : rngIn L B k with
  | false =>
    have E := hid (rng_no (base := base) hin)
    have E2 := hid (pcsOf_no (base := base) hin)
    rw [E2.out, E.out.2.2]
    clear hF h3 hg hin hT
    go_enter Tryd.func43, Tryd.ntmps43
    go_wp2_with (go_at_call 42; refine (pln_range HP.out k).mono ?_; rintro e w1 ⟨rfl, hg1⟩; rw [E.out.1, E.out.2.1, E.out.2.2])
    go_ret2
    exact ⟨none, 0, rfl, hg1, fun i hi => absurd hi (by simp)⟩
  | true =>
    obtain ⟨a0, z, ea, ez, hlt, hz, hzB, -, -⟩ := rng_nat hg hn (by omega) hbs hin
    have E := hid (And.intro ea (And.intro ez (rng_yes (base := base) hin).2.2))
    have E2 : Hid (pcsOf L B base k = pcs (fromV L base) a0 (z - a0)) := ⟨by unfold pcsOf; rw [ea, ez]; congr 1; omega⟩
    rw [E2.out, E.out.2.2]
    obtain ⟨i0, hi, hi0, hi1, hi2⟩ := info_parts infoPc
    obtain ⟨g, hgf⟩ : ∃ g, g = fromV L base := ⟨_, rfl⟩
    rw [← hgf]
    have HGF := hid hgf
    clear hF h3 hg hin hT ea ez hgf
    go_enter Tryd.func43, Tryd.ntmps43
    go_wp2_with (go_at_call 42; refine (pln_range HP.out k).mono ?_; rintro e w1 ⟨rfl, hg1⟩; rw [E.out.1, E.out.2.1, E.out.2.2]; have HG1 := hid hg1; clear hg1)
    go_loopw [6, 9] (fun s6 s9 wr => ∃ (at' m : Nat) (P : List Pc), Hid (at' = a0 + m) ∧ at' ≤ z ∧ a0 ≤ at' ∧ Hid (pcs g a0 m = P) ∧ P.length ≤ at' ∧ Hid (at' < z → ∀ q, P.getLast? = some q → q.f + q.s ≠ g at') ∧ Hid (wr.ownsRow w1.heap.size 69 3 s9 P.length (flatP P)) ∧ Hid (Touch (fun i => w1.heap.size ≤ i) w1 wr) ∧ s6 = .int .i64 at') (fun s6 _ _ => z - (intOf s6).toNat)
    case atStart => exact ⟨a0, 0, [], ⟨rfl⟩, by omega, Nat.le_refl _, ⟨rfl⟩, by simp, ⟨fun _ q h => by simp at h⟩, ⟨own_nil _ _ _ _⟩, ⟨Touch.refl _ _⟩, rfl⟩
    case round =>
      obtain ⟨at', m, P, hat, hle, hge, hp, hpl, hlast, hown, ht, rfl⟩ := hrel
      have HG := hid ((HG1.out.touch (fun _ => False)).trans' ht.out (fun i hi h => by have := HG1.out.size; omega)).gr
      have hwl := ht.out.size
      by_cases hz' : at' < z
      · go_wp2_with (first
          | (go_at_call 69; refine (pln_run (HP.out.gr HG.out) (HG.out.tab HT.out.lt HT.out) at' z hz' (by omega)).mono ?_; rintro e w3 ⟨r, rfl, hg3, hr1, hr2, hr3, hr4⟩; rw [← HGF.out] at hr3 hr4 ⊢; have HR := hid (And.intro hr3 hr4); have HG3 := hid hg3; have HO3 := hid (own_gr hown.out hg3); have hz3 := hg3.size; (obtain ⟨fv, hfv⟩ : ∃ fv, fv = g at' := ⟨_, rfl⟩); have HFV := hid hfv.symm; rw [← hfv]; clear hr3 hr4 hg3 hfv)
          | (at_builtin; refine wpList_append_own _ rfl _ _ 65 rfl w1.heap.size 69 i0 _ 3 24 Tryd.underlying65 hi hi0 hi1 hi2 rfl (by decide) u9 P.length (flatP P) rfl (own_gr HO3.out ((Gr.refl _).alloc _)) ⟨w3.heap.size, 0, none⟩ 1 1 [.int .i64 fv, .int .i64 at', .int .i64 r] rfl rfl (World.news_of_block (cs := #[.int .i64 fv, .int .i64 at', .int .i64 r]) (t := 69) (fr := (0, 0)) (heap_alloc_new w3 _)) (by simp [Value.oneCell']) (by unfold maxLen; omega) (by omega) (by simp only [World.size_alloc]; omega) ?_; intro v4 w4 hown4 hgrow4 _; have HO4 := hid (own_push (q := ⟨fv, at', r⟩) hown4); have HT4 := hid ((((Gr.refl w3).alloc (.cells #[.int .i64 fv, .int .i64 at', .int .i64 r] 69)).touch (fun k => w1.heap.size ≤ k)).trans (grown_touch hgrow4 _ (fun _ e _ => (own_lt HO3.out e).1))); clear hown4 hgrow4))
        go_roundw
        case rel =>
          refine ⟨at' + r, m + r, P ++ [⟨fv, at', r⟩], ⟨by rw [hat.out]; omega⟩, by omega, by omega, ⟨?_⟩, by simp; omega, ⟨fun hzz q hq => ?_⟩, HO4, ⟨(ht.out.trans (HG3.out.touch _)).trans HT4.out⟩, by go_num⟩
          · have e1 := hat.out
            have ee : (a0 : Int) + (m : Int) = (at' : Int) := by omega
            have hh := pcs_run (g := g) (a := a0) (k := m) hp.out (by rw [ee]; exact hlast.out hz') hr1 (by rw [ee]; exact HR.out.1)
            rw [hh, ee, HFV.out]
          · simp at hq; subst hq
            have := HR.out.2 hzz
            rw [HFV.out] at this
            push_cast
            exact this
        case measure => simp [intOf]; omega
      · obtain rfl : at' = z := by omega
        go_wp2
        go_ret2
        obtain ⟨A, c, hA, hA2, -⟩ := own_pcs hown.out
        have e1 := hp.out
        have e2 : m = at' - a0 := by have := hat.out; omega
        subst e2
        rw [e1]
        exact ⟨A, c, by rw [← hA]; rfl, HG.out, hA2⟩
end
end Go.Proofs.YtlkifhoedfjlaaaDoor
