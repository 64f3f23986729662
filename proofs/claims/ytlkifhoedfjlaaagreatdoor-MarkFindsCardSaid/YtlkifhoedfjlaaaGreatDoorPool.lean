/- Package frames: a pool of frames. -/
import Derived.Test.YtlkifhoedfjlaaaGreatDoorRec
import Derived.Test.YtlkifhoedfjlaaaGreatDoorZeros
namespace Go.Proofs.YtlkifhoedfjlaaaGreatDoor
open Go.RowKit Word

/-- A pool: a page's size, how many frames there may be, which are taken, those that were given back, all words. -/
structure Pl where
  pg : Nat
  rm : Nat
  tk : List Bool
  bk : List Nat
  wd : List Nat
def Pl.used (p : Pl) : Nat := cnt (at_ p.tk) p.tk.length
structure PlOk (p : Pl) : Prop where
  pg : blockOk p.pg = true
  pg2 : p.pg ≤ 256
  rm : 1 ≤ p.rm ∧ p.rm ≤ 4096
  wl : p.wd.length = p.tk.length * p.pg
  w64 : ∀ x ∈ p.wd, x < 18446744073709551616
  nd : p.bk.Nodup
  bl : ∀ f ∈ p.bk, f < p.tk.length ∧ at_ p.tk f = false
  us : p.used + p.bk.length = p.tk.length
  le : p.tk.length ≤ p.rm
def u64s (l : List Nat) : List Value := l.map fun x => .int .u64 (x : Nat)
def i64s (l : List Nat) : List Value := l.map fun x => .int .i64 (x : Nat)
/-- What lies in memory of a pool. -/
def PoolRow (w : World) (S : Nat → Prop) (q : Nat) (p : Pl) : Prop :=
  ∃ vw vt vb hi ts, Rec w q 134 [vw, vt, vb, .int .i64 p.rm, .int .i64 p.pg, .int .i64 p.used, .int .i64 hi, .int .i64 ts] ∧
    w.ownsRow 0 33 1 vw p.wd.length (u64s p.wd) ∧ w.ownsRow 0 4 1 vt p.tk.length (p.tk.map Value.bool) ∧ w.ownsRow 0 3 1 vb p.bk.length (i64s p.bk) ∧
    (∀ g, vw.ownBlock = some g → S g) ∧ (∀ g, vt.ownBlock = some g → S g) ∧ (∀ g, vb.ownBlock = some g → S g)
/-- S, and all blocks that are new since w. -/
def plus (S : Nat → Prop) (w : World) (k : Nat) : Prop := S k ∨ w.heap.size ≤ k
/-- A pool q lies in w, all of it in blocks of S. -/
structure PoolAt (w : World) (S : Nat → Prop) (q : Nat) (p : Pl) : Prop where
  ok : PlOk p
  sq : S q
  row : PoolRow w S q p
theorem PoolAt.touch {S T : Nat → Prop} {w w' : World} {q : Nat} {p : Pl} (h : PoolAt w S q p) (t : Touch T w w') (hS : ∀ k, S k → k < w.heap.size → ¬ T k) : PoolAt w' S q p := by
  obtain ⟨h1, h2, vw, vt, vb, hi, ts, hr, o1, o2, o3, s1, s2, s3⟩ := h
  exact ⟨h1, h2, vw, vt, vb, hi, ts, hr.touch t (hS _ h2 hr.lt), own_touch o1 t (fun g hg => hS g (s1 g hg) (own_lt o1 hg).2), own_touch o2 t (fun g hg => hS g (s2 g hg) (own_lt o2 hg).2), own_touch o3 t (fun g hg => hS g (s3 g hg) (own_lt o3 hg).2), s1, s2, s3⟩
theorem PoolAt.gr {S : Nat → Prop} {w w' : World} {q : Nat} {p : Pl} (h : PoolAt w S q p) (t : Gr w w') : PoolAt w' S q p := h.touch (t.touch (fun _ => False)) (fun _ _ _ h => h)
theorem PoolAt.mono {S T : Nat → Prop} {w : World} {q : Nat} {p : Pl} (h : PoolAt w S q p) (hT : ∀ k, S k → T k) : PoolAt w T q p := by
  obtain ⟨h1, h2, vw, vt, vb, hi, ts, hr, o1, o2, o3, s1, s2, s3⟩ := h
  exact ⟨h1, hT _ h2, vw, vt, vb, hi, ts, hr, o1, o2, o3, fun g hg => hT _ (s1 g hg), fun g hg => hT _ (s2 g hg), fun g hg => hT _ (s3 g hg)⟩
theorem u64s_at {l : List Nat} {i : Nat} (h : i < l.length) : (u64s l)[i]? = some (.int .u64 (l[i] : Nat)) := by simp [u64s, h]
theorem i64s_at {l : List Nat} {i : Nat} (h : i < l.length) : (i64s l)[i]? = some (.int .i64 (l[i] : Nat)) := by simp [i64s, h]
theorem bools_at {l : List Bool} {i : Nat} (h : i < l.length) : (l.map Value.bool)[i]? = some (.bool (at_ l i)) := by simp [at_, h]
section
variable {w : World} {S : Nat → Prop} {q : Nat} {p : Pl}
theorem pool_page (hP : PoolAt w S q p) : Calls Tryz.prog 43 #[.pointer (some ⟨q, 0, none⟩)] w fun e w' => e = .returned (.int .i64 p.pg) ∧ w = w' := by
  obtain ⟨vw, vt, vb, hi, ts, hr, -⟩ := hP.row
  have c4 := hr.cell (j := 4) rfl
  clear hr hP
  go_enter Tryz.func43, Tryz.ntmps43
  go_wp2
  go_ret
  exact ⟨rfl, rfl⟩
/-- Whether a frame is taken. -/
def chkE (p : Pl) (f : Int) : Int := if decide (0 ≤ f) && at_ p.tk f.toNat then 0 else 6
set_option maxHeartbeats 800000 in
theorem pool_check (hP : PoolAt w S q p) (f : Int) : Calls Tryz.prog 96 #[.pointer (some ⟨q, 0, none⟩), .int .i64 f] w fun e w' => e = .returned (.int .i64 (chkE p f)) ∧ w = w' := by
  obtain ⟨vw, vt, vb, hi, ts, hr, -, ot, -⟩ := hP.row
  have c1 := hr.cell (j := 1) rfl
  obtain ⟨A, c, rfl, hc1, hc2⟩ := own_shape ot
  unfold maxLen at hc2
  have hlr := hP.ok.le
  have hrm := hP.ok.rm.2
  by_cases h0 : f < 0
  · have E : chkE p f = 6 := by unfold chkE; rw [decide_eq_false (by omega)]; rfl
    rw [E]
    have d0 : decide (f < 0) = true := decide_eq_true h0
    clear hr hP ot E
    go_enter Tryz.func96, Tryz.ntmps96
    go_wp2
    go_ret
    exact ⟨rfl, rfl⟩
  · obtain ⟨j, rfl⟩ : ∃ j : Nat, f = j := ⟨f.toNat, by omega⟩
    have d0 : decide ((j : Int) < 0) = false := decide_eq_false h0
    by_cases h1 : p.tk.length ≤ j
    · have E : chkE p j = 6 := by unfold chkE; rw [Int.toNat_natCast, at_out h1, Bool.and_false]; rfl
      rw [E]
      have d1 : decide (p.tk.length ≤ j) = true := decide_eq_true h1
      clear hr hP ot E
      go_enter Tryz.func96, Tryz.ntmps96
      go_wp2
      go_ret
      exact ⟨rfl, rfl⟩
    · have d1 : decide (p.tk.length ≤ j) = false := decide_eq_false h1
      obtain ⟨g, c', e1, -, -, -, -⟩ := own_form ot (by omega)
      simp only [Value.slice.injEq, true_and] at e1
      obtain ⟨rfl, rfl⟩ := e1
      have k := own_cell ot (bools_at (i := j) (by omega))
      have hj : (j : Int) < (p.tk.length : Int) := by omega
      cases hb : at_ p.tk j with
      | true =>
        have E : chkE p j = 0 := by unfold chkE; rw [Int.toNat_natCast, hb, decide_eq_true (by omega)]; rfl
        rw [E]
        rw [hb] at k
        clear hr hP ot E hb
        go_enter Tryz.func96, Tryz.ntmps96
        go_wp2
        go_ret
        exact ⟨rfl, rfl⟩
      | false =>
        have E : chkE p j = 6 := by unfold chkE; rw [Int.toNat_natCast, hb, Bool.and_false]; rfl
        rw [E]
        rw [hb] at k
        clear hr hP ot E hb
        go_enter Tryz.func96, Tryz.ntmps96
        go_wp2
        go_ret
        exact ⟨rfl, rfl⟩
/-- Where the words of a frame lie. -/
theorem frame_in (hP : PoolAt w S q p) {f : Nat} (hf : f < p.tk.length) : f * p.pg + p.pg ≤ p.wd.length ∧ p.wd.length ≤ 1048576 := by
  have h1 := hP.ok.wl
  have h2 := hP.ok.le
  have h3 := hP.ok.rm.2
  have h4 := hP.ok.pg2
  constructor
  · rw [h1, ← Nat.succ_mul]; exact Nat.mul_le_mul_right _ hf
  · rw [h1]; exact Nat.le_trans (Nat.mul_le_mul (Nat.le_trans h2 h3) h4) (by decide)
theorem pool_words (hP : PoolAt w S q p) {f : Nat} (hf : f < p.tk.length) : ∃ g c hi ts vt vb, Rec w q 134 [.slice (some ⟨g, 0, none⟩) p.wd.length c, vt, vb, .int .i64 p.rm, .int .i64 p.pg, .int .i64 p.used, .int .i64 hi, .int .i64 ts] ∧
    w.ownsRow 0 33 1 (.slice (some ⟨g, 0, none⟩) p.wd.length c) p.wd.length (u64s p.wd) ∧ w.ownsRow 0 4 1 vt p.tk.length (p.tk.map Value.bool) ∧ w.ownsRow 0 3 1 vb p.bk.length (i64s p.bk) ∧
    S g ∧ (∀ g, vt.ownBlock = some g → S g) ∧ (∀ g, vb.ownBlock = some g → S g) ∧ p.wd.length ≤ c ∧ c ≤ 9223372036854775807 := by
  obtain ⟨h1, h2, vw, vt, vb, hi, ts, hr, o1, o2, o3, s1, s2, s3⟩ := hP
  have hpg := blockOk_pos h1.pg
  have hne : p.wd.length ≠ 0 := by
    rw [h1.wl]
    have : 1 ≤ p.tk.length * p.pg := Nat.mul_pos (by omega) (by omega)
    omega
  obtain ⟨g, c, rfl, -, h3, h4, -⟩ := own_form o1 hne
  unfold maxLen at h4
  exact ⟨g, c, hi, ts, vt, vb, hr, o1, o2, o3, s1 g rfl, s2, s3, h3, by omega⟩
set_option maxHeartbeats 800000 in
theorem pool_frame {g c n pg : Nat} {vt vb v3 v5 v6 v7 : Value} (hr : Rec w q 134 [.slice (some ⟨g, 0, none⟩) n c, vt, vb, v3, .int .i64 pg, v5, v6, v7]) (hc : n ≤ c) (hc2 : c ≤ 9223372036854775807)
    {f : Nat} (hp : 1 ≤ pg) (h1 : f * pg + pg ≤ n) (h2 : n ≤ 1048576) : Calls Tryz.prog 100 #[.pointer (some ⟨q, 0, none⟩), .int .i64 f] w fun e w' => e = .returned (.slice (some ⟨g, f * pg, none⟩) pg pg) ∧ w = w' := by
  have c0 := hr.cell (j := 0) rfl
  have c4 := hr.cell (j := 4) rfl
  obtain ⟨t, ht⟩ : ∃ t, t = f * pg := ⟨_, rfl⟩
  rw [← ht] at h1 ⊢
  have hmul : (f : Int) * (pg : Int) = (t : Int) := by rw [ht]; push_cast; rfl
  have hw : IntKind.i64.wrap ((f : Int) * (pg : Int)) = (t : Int) := by rw [hmul]; exact IntWalk.i64_in _ (by omega)
  have b1 : (t : Int) + (pg : Int) ≤ (c : Int) := by omega
  have n0 : ¬ pg = 0 := by omega
  have n1 : ¬ t + pg = t := by omega
  clear hr ht
  go_enter Tryz.func100, Tryz.ntmps100
  go_wp2
  go_ret
  refine ⟨?_, rfl⟩
  show Ending.returned (.slice (some ⟨g, t, none⟩) (t + pg - t) (t + pg - t)) = _
  rw [Nat.add_sub_cancel_left]
/-- Whether a word may be: of a frame that is taken, within its page. -/
def wrdE (p : Pl) (f a : Int) : Int := if chkE p f = 0 then (if 0 ≤ a ∧ a < p.pg then 0 else 11) else 6
theorem chk_in {p : Pl} {f : Int} (h : chkE p f = 0) : ∃ j : Nat, f = j ∧ j < p.tk.length ∧ at_ p.tk j = true := by
  unfold chkE at h
  cases hb : (decide (0 ≤ f) && at_ p.tk f.toNat) with
  | false => rw [hb] at h; cases h
  | true =>
    simp at hb
    exact ⟨f.toNat, by omega, at_lt hb.2, hb.2⟩
theorem chk_or (p : Pl) (f : Int) : chkE p f = 0 ∨ chkE p f = 6 := by unfold chkE; split <;> simp
def WordEnd (w : World) (S : Nat → Prop) (q : Nat) (p : Pl) (f a : Int) (e : Ending) (w' : World) : Prop := w = w' ∧
  ((wrdE p f a ≠ 0 ∧ e = .returned (.tuple #[.pointer none, .int .i64 (wrdE p f a)])) ∨
   (wrdE p f a = 0 ∧ ∃ g : Nat, S g ∧ e = .returned (.tuple #[.pointer (some ⟨g, f.toNat * p.pg + a.toNat, none⟩), .int .i64 0]) ∧ w.cell? ⟨g, f.toNat * p.pg + a.toNat, none⟩ = some (.int .u64 (p.wd.getD (f.toNat * p.pg + a.toNat) 0 : Nat)) ∧ w.frozen? ⟨g, f.toNat * p.pg + a.toNat, none⟩ = false ∧
     ∀ x : Nat, x < 18446744073709551616 → PoolAt (w.setCell ⟨g, f.toNat * p.pg + a.toNat, none⟩ (.int .u64 x)) S q { p with wd := p.wd.set (f.toNat * p.pg + a.toNat) x }))
theorem u64s_set (l : List Nat) (i x : Nat) : (u64s l).set i (.int .u64 (x : Nat)) = u64s (l.set i x) := by unfold u64s; rw [List.map_set]
theorem plOk_store {p : Pl} (h : PlOk p) (i x : Nat) (hx : x < 18446744073709551616) : PlOk { p with wd := p.wd.set i x } :=
  ⟨h.pg, h.pg2, h.rm, by simp [h.wl], fun y hy => by rcases List.mem_or_eq_of_mem_set hy with h1 | h1; exact h.w64 y h1; exact h1 ▸ hx, h.nd, h.bl, h.us, h.le⟩
set_option maxRecDepth 100000 in
set_option maxHeartbeats 800000 in
theorem pool_word (hP : PoolAt w S q p) (f a : Int) : Calls Tryz.prog 79 #[.pointer (some ⟨q, 0, none⟩), .int .i64 f, .int .i64 a] w (WordEnd w S q p f a) := by
  have HP := hid hP
  rcases chk_or p f with hc | hc
  · obtain ⟨j, rfl, hj, hat⟩ := chk_in hc
    obtain ⟨g, c, hi, ts, vt, vb, hr, o1, o2, o3, sg, s2, s3, hc1, hc2⟩ := pool_words hP hj
    obtain ⟨hf1, hf2⟩ := frame_in hP hj
    have c4 := hr.cell (j := 4) rfl
    have hpg := blockOk_pos hP.ok.pg
    have HR := hid hr
    have HC := hid hc
    have HO1 := hid o1
    have HS := hid (And.intro sg (And.intro s2 s3))
    have HO2 := hid o2
    have HO3 := hid o3
    have hp2 := hP.ok.pg2
    clear hr o1 o2 o3 sg s2 s3 hP
    by_cases ha0 : a < 0
    · have E : wrdE p j a = 11 := by unfold wrdE; rw [if_pos hc, if_neg (by omega)]
      have HE := hid E
      have d0 : decide (a < 0) = true := decide_eq_true ha0
      clear hc E
      go_enter Tryz.func79, Tryz.ntmps79
      go_wp2_with (go_at_call 96; refine (pool_check HP.out j).mono ?_; rintro e w1 ⟨rfl, rfl⟩; rw [HC.out])
      go_ret2
      exact ⟨rfl, .inl ⟨by rw [HE.out]; decide, by rw [HE.out]; rfl⟩⟩
    · obtain ⟨b, rfl⟩ : ∃ b : Nat, a = b := ⟨a.toNat, by omega⟩
      have d0 : decide ((b : Int) < 0) = false := decide_eq_false ha0
      by_cases ha1 : p.pg ≤ b
      · have E : wrdE p j b = 11 := by unfold wrdE; rw [if_pos hc, if_neg (by omega)]
        have HE := hid E
        have d1 : decide (p.pg ≤ b) = true := decide_eq_true ha1
        clear hc E
        go_enter Tryz.func79, Tryz.ntmps79
        go_wp2_with (go_at_call 96; refine (pool_check HP.out j).mono ?_; rintro e w1 ⟨rfl, rfl⟩; rw [HC.out])
        go_ret2
        exact ⟨rfl, .inl ⟨by rw [HE.out]; decide, by rw [HE.out]; rfl⟩⟩
      · have E : wrdE p j b = 0 := by unfold wrdE; rw [if_pos hc, if_pos (by omega)]
        have HE := hid E
        have d1 : decide (p.pg ≤ b) = false := decide_eq_false ha1
        have hlt : (b : Int) < (p.pg : Int) := by omega
        clear hc E
        go_enter Tryz.func79, Tryz.ntmps79
        go_wp2_with (first
          | (go_at_call 96; refine (pool_check HP.out j).mono ?_; rintro e w1 ⟨rfl, rfl⟩; rw [HC.out])
          | (go_at_call 100; refine (pool_frame HR.out hc1 hc2 (by omega) hf1 hf2).mono ?_; rintro e w1 ⟨rfl, rfl⟩))
        go_ret2
        obtain ⟨i, hi'⟩ : ∃ i, i = j * p.pg + b := ⟨_, rfl⟩
        have hil : i < p.wd.length := by omega
        have k := own_cell HO1.out (u64s_at hil)
        refine ⟨rfl, .inr ⟨HE.out, g, HS.out.1, by rw [Int.toNat_natCast, Int.toNat_natCast]; rfl, ?_, own_free HO1.out _, fun x hx => ?_⟩⟩
        · rw [Int.toNat_natCast, Int.toNat_natCast, ← hi', k, List.getD_eq_getElem?_getD, List.getElem?_eq_getElem hil]; rfl
        · rw [Int.toNat_natCast, Int.toNat_natCast, ← hi']
          have hst := (World.ownsRow.stored HO1.out i (.int .u64 (x : Nat))).1
          rw [u64s_set] at hst
          refine ⟨plOk_store HP.out.ok i x hx, HP.out.sq, _, vt, vb, hi, ts, own_set_other HR.out _ (fun g' hg' => ?_), by simpa using hst, own_set_other HO2.out _ (fun g' hg' => ?_), own_set_other HO3.out _ (fun g' hg' => ?_), fun g' hg' => by cases hg'; exact HS.out.1, HS.out.2.1, HS.out.2.2⟩
          · exact own_ne HR.out HO1.out (by decide) hg' rfl
          · exact own_ne HO2.out HO1.out (by decide) hg' rfl
          · exact own_ne HO3.out HO1.out (by decide) hg' rfl
  · have E : wrdE p f a = 6 := by unfold wrdE; rw [if_neg (by omega)]
    have HE := hid E
    have HC := hid hc
    clear hP hc E
    go_enter Tryz.func79, Tryz.ntmps79
    go_wp2_with (go_at_call 96; refine (pool_check HP.out f).mono ?_; rintro e w1 ⟨rfl, rfl⟩; rw [HC.out])
    go_ret2
    exact ⟨rfl, .inl ⟨by rw [HE.out]; decide, by rw [HE.out]; rfl⟩⟩
/-- The word of a frame. -/
def wrdV (p : Pl) (f a : Int) : Nat := if wrdE p f a = 0 then p.wd.getD (f.toNat * p.pg + a.toNat) 0 else 0
def wrdSet (p : Pl) (f a : Int) (x : Nat) : Pl := if wrdE p f a = 0 then { p with wd := p.wd.set (f.toNat * p.pg + a.toNat) x } else p
theorem pool_load (hP : PoolAt w S q p) (f a : Int) : Calls Tryz.prog 51 #[.pointer (some ⟨q, 0, none⟩), .int .i64 f, .int .i64 a] w fun e w' => e = .returned (.tuple #[.int .u64 (wrdV p f a : Nat), .int .i64 (wrdE p f a)]) ∧ w = w' := by
  have HP := hid hP
  clear hP
  by_cases hc : wrdE p f a = 0
  · have HC := hid hc
    have HV : Hid (wrdV p f a = p.wd.getD (f.toNat * p.pg + a.toNat) 0) := ⟨by unfold wrdV; rw [if_pos hc]⟩
    clear hc
    go_enter Tryz.func51, Tryz.ntmps51
    go_wp2_with (go_at_call 79; refine (pool_word HP.out f a).mono ?_; rintro e w1 ⟨rfl, ⟨h, -⟩ | ⟨-, g, -, rfl, k, -, -⟩⟩; (exact absurd HC.out h))
    go_ret2
    exact ⟨ret2 (by rw [HV.out, List.getD_eq_getElem?_getD]; rfl) (vint HC.out.symm), rfl⟩
  · have HC := hid hc
    obtain ⟨c, hce⟩ : ∃ c, c = wrdE p f a := ⟨_, rfl⟩
    have hc0 : (c != 0) = true := by rw [hce]; simpa using hc
    have HCE := hid hce.symm
    have HV : Hid (wrdV p f a = 0) := ⟨by unfold wrdV; rw [if_neg hc]⟩
    clear hc hce
    go_enter Tryz.func51, Tryz.ntmps51
    go_wp2_with (go_at_call 79; refine (pool_word HP.out f a).mono ?_; rintro e w1 ⟨rfl, ⟨-, rfl⟩ | ⟨h, -⟩⟩; rotate_left; (exact absurd h HC.out); rw [HCE.out])
    go_ret2
    exact ⟨ret2 (by rw [HV.out]; rfl) (vint HCE.out.symm), rfl⟩
def StoreEnd (w : World) (S : Nat → Prop) (q : Nat) (p : Pl) (f a : Int) (x : Nat) (e : Ending) (w' : World) : Prop := e = .returned (.int .i64 (wrdE p f a)) ∧ Touch S w w' ∧ PoolAt w' S q (wrdSet p f a x)
theorem pool_store (hP : PoolAt w S q p) (f a : Int) (x : Nat) (hx : x < 18446744073709551616) : Calls Tryz.prog 50 #[.pointer (some ⟨q, 0, none⟩), .int .i64 f, .int .i64 a, .int .u64 x] w (StoreEnd w S q p f a x) := by
  have HP := hid hP
  clear hP
  by_cases hc : wrdE p f a = 0
  · have HC := hid hc
    have HV : Hid (wrdSet p f a x = { p with wd := p.wd.set (f.toNat * p.pg + a.toNat) x }) := ⟨by unfold wrdSet; rw [if_pos hc]⟩
    clear hc
    go_enter Tryz.func50, Tryz.ntmps50
    go_wp2_with (go_at_call 79; refine (pool_word HP.out f a).mono ?_; rintro e w1 ⟨rfl, ⟨h, -⟩ | ⟨-, g, sg, rfl, k, kf, hs⟩⟩; (exact absurd HC.out h); have HSG := hid (And.intro sg hs); clear sg hs)
    go_ret
    exact ⟨ret_int HC.out.symm, (Touch.refl S w).setCell (fun _ => HSG.out.1) _, by rw [HV.out]; exact HSG.out.2 x hx⟩
  · have HC := hid hc
    obtain ⟨c, hce⟩ : ∃ c, c = wrdE p f a := ⟨_, rfl⟩
    have hc0 : (c == 0) = false := by rw [hce]; simpa using hc
    have HCE := hid hce.symm
    have HV : Hid (wrdSet p f a x = p) := ⟨by unfold wrdSet; rw [if_neg hc]⟩
    clear hc hce
    go_enter Tryz.func50, Tryz.ntmps50
    go_wp2_with (go_at_call 79; refine (pool_word HP.out f a).mono ?_; rintro e w1 ⟨rfl, ⟨-, rfl⟩ | ⟨h, -⟩⟩; rotate_left; (exact absurd h HC.out); rw [HCE.out])
    go_ret
    exact ⟨ret_int HCE.out.symm, Touch.refl S w, by rw [HV.out]; exact HP.out⟩
end
end Go.Proofs.YtlkifhoedfjlaaaGreatDoor
