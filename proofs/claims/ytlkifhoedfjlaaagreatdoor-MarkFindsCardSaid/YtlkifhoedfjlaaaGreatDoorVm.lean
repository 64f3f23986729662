/- Package vmem: a paged memory (none, find, Load, Store). -/
import Derived.Test.YtlkifhoedfjlaaaGreatDoorPagesD
namespace Go.Proofs.YtlkifhoedfjlaaaGreatDoor
open Go.RowKit Word

/-- A paged memory: how many words, the pool, each page's frame and 1. -/
structure Vm where
  n : Nat
  pl : Pl
  pt : List Nat
structure VmOk (v : Vm) : Prop where
  pl : PlOk v.pl
  pt : PtOk v.pt
  n2 : v.n ≤ 524288
  np : v.n = v.pt.length * v.pl.pg
  fr : ∀ p, p < v.pt.length → v.pt.getD p 0 ≠ 0 → at_ v.pl.tk (v.pt.getD p 0 - 1) = true
  inj : ∀ p p', p < v.pt.length → p' < v.pt.length → v.pt.getD p 0 ≠ 0 → v.pt.getD p 0 = v.pt.getD p' 0 → p = p'
  us : v.pl.used = nz v.pt
/-- A paged memory q lies in w, all of it in blocks of S. -/
structure VmAt (w : World) (S : Nat → Prop) (q : Nat) (v : Vm) : Prop where
  ok : VmOk v
  sq : S q
  row : ∃ S1 S2 b1 b2, Rec w q 99 [.pointer (some ⟨b1, 0, none⟩), .pointer (some ⟨b2, 0, none⟩), .int .i64 v.n] ∧ PoolAt w S1 b1 v.pl ∧ PgAt w S2 b2 v.pt ∧
    (∀ k, S1 k → S k) ∧ (∀ k, S2 k → S k) ∧ (∀ k, S1 k → ¬ S2 k) ∧ ¬ S1 q ∧ ¬ S2 q
theorem VmAt.touch {S T : Nat → Prop} {w w' : World} {q : Nat} {v : Vm} (h : VmAt w S q v) (t : Touch T w w') (hS : ∀ k, S k → k < w.heap.size → ¬ T k) : VmAt w' S q v := by
  obtain ⟨h1, h2, S1, S2, b1, b2, hr, hp, hg, s1, s2, s3, s4, s5⟩ := h
  exact ⟨h1, h2, S1, S2, b1, b2, hr.touch t (hS _ h2 hr.lt), hp.touch t (fun k hk => hS k (s1 k hk)), hg.touch t (fun k hk => hS k (s2 k hk)), s1, s2, s3, s4, s5⟩
theorem VmAt.gr {S : Nat → Prop} {w w' : World} {q : Nat} {v : Vm} (h : VmAt w S q v) (t : Gr w w') : VmAt w' S q v := h.touch (t.touch (fun _ => False)) (fun _ _ _ h => h)
theorem VmAt.mono {S T : Nat → Prop} {w : World} {q : Nat} {v : Vm} (h : VmAt w S q v) (hT : ∀ k, S k → T k) : VmAt w T q v := by
  obtain ⟨h1, h2, S1, S2, b1, b2, hr, hp, hg, s1, s2, s3, s4, s5⟩ := h
  exact ⟨h1, hT _ h2, S1, S2, b1, b2, hr, hp, hg, fun k hk => hT k (s1 k hk), fun k hk => hT k (s2 k hk), s3, s4, s5⟩
/-- S, without what is not there. -/
def cutS (S : Nat → Prop) (w : World) (k : Nat) : Prop := S k ∧ k < w.heap.size
theorem PoolAt.cut {w : World} {S : Nat → Prop} {q : Nat} {p : Pl} (h : PoolAt w S q p) : PoolAt w (cutS S w) q p := by
  obtain ⟨h1, h2, vw, vt, vb, hi, ts, hr, o1, o2, o3, s1, s2, s3⟩ := h
  exact ⟨h1, ⟨h2, hr.lt⟩, vw, vt, vb, hi, ts, hr, o1, o2, o3, fun g hg => ⟨s1 g hg, (own_lt o1 hg).2⟩, fun g hg => ⟨s2 g hg, (own_lt o2 hg).2⟩, fun g hg => ⟨s3 g hg, (own_lt o3 hg).2⟩⟩
theorem PgAt.cut {w : World} {S : Nat → Prop} {q : Nat} {pt : List Nat} (h : PgAt w S q pt) : PgAt w (cutS S w) q pt := by
  obtain ⟨ok, sq, g, c, L, hr, h1, h2, sg, ho, ht, hd⟩ := h
  refine ⟨ok, ⟨sq, hr.lt⟩, g, c, L, hr, h1, h2, ⟨sg, (own_lt ho rfl).2⟩, ho, fun k hk => ?_, hd⟩
  have := ht k hk
  cases hl : L.getD k none with
  | none => rw [hl] at this; exact this
  | some b => rw [hl] at this; exact ⟨⟨this.1, this.2.lt⟩, this.2⟩
theorem VmAt.cut {w : World} {S : Nat → Prop} {q : Nat} {v : Vm} (h : VmAt w S q v) : VmAt w (cutS S w) q v := by
  obtain ⟨h1, h2, S1, S2, b1, b2, hr, hp, hg, s1, s2, s3, s4, s5⟩ := h
  exact ⟨h1, ⟨h2, hr.lt⟩, cutS S1 w, cutS S2 w, b1, b2, hr, hp.cut, hg.cut, fun k hk => ⟨s1 k hk.1, hk.2⟩, fun k hk => ⟨s2 k hk.1, hk.2⟩, fun k hk hk2 => s3 k hk.1 hk2.1, fun h => s4 h.1, fun h => s5 h.1⟩
theorem ret3v {a b c a' b' c' : Value} (h1 : a = a') (h2 : b = b') (h3 : c = c') : Ending.returned (.tuple #[a, b, c]) = .returned (.tuple #[a', b', c']) := by rw [h1, h2, h3]
/-- Whether there is a word at an address, and where. -/
def Vm.ldE (v : Vm) (a : Int) : Int := if 0 ≤ a ∧ a < v.n then frE v.pt (a / v.pl.pg) else 11
def Vm.at (v : Vm) (a : Int) : Nat := (v.pt.getD (a / v.pl.pg).toNat 0 - 1) * v.pl.pg + (a % v.pl.pg).toNat
def Vm.ldV (v : Vm) (a : Int) : Nat := if v.ldE a = 0 then v.pl.wd.getD (v.at a) 0 else 0
def Vm.st (v : Vm) (a : Int) (x : Nat) : Vm := if v.ldE a = 0 then { v with pl := { v.pl with wd := v.pl.wd.set (v.at a) x } } else v
theorem VmOk.page {v : Vm} (h : VmOk v) : 1 ≤ v.pl.pg ∧ v.pl.pg ≤ 256 := ⟨by have := blockOk_pos h.pl.pg; omega, h.pl.pg2⟩
/-- An address's page and place. -/
theorem VmOk.split {v : Vm} (h : VmOk v) {a : Nat} (ha : a < v.n) : a / v.pl.pg < v.pt.length ∧ a % v.pl.pg < v.pl.pg := by
  have hp := h.page
  refine ⟨(Nat.div_lt_iff_lt_mul hp.1).2 (by rw [← h.np]; exact ha), Nat.mod_lt _ hp.1⟩
theorem VmOk.hit {v : Vm} {a : Int} (h0 : v.ldE a = 0) : ∃ j : Nat, a = j ∧ j < v.n ∧ v.pt.getD (j / v.pl.pg) 0 ≠ 0 := by
  unfold Vm.ldE at h0
  split at h0
  · rename_i hr
    obtain ⟨j, rfl⟩ : ∃ j : Nat, a = j := ⟨a.toNat, by omega⟩
    obtain ⟨p, hp1, hp2, hp3⟩ := frE_zero h0
    have hpj : p = j / v.pl.pg := by omega
    exact ⟨j, rfl, by omega, by rw [← hpj]; exact hp3⟩
  · cases h0
section
variable {w : World} {S : Nat → Prop} {q : Nat} {v : Vm}
theorem vm_none (hV : VmAt w S q v) : Calls Tryz.prog 40 #[.pointer (some ⟨q, 0, none⟩)] w fun e w' => e = .returned (.bool false) ∧ w = w' := by
  obtain ⟨S1, S2, b1, b2, hr, -⟩ := hV.row
  have c0 := hr.cell (j := 0) rfl
  clear hr
  go_enter Tryz.func40, Tryz.ntmps40
  go_wp2
  go_ret
  exact ⟨rfl, rfl⟩
theorem vm_none_nil (w : World) : Calls Tryz.prog 40 #[.pointer none] w fun e w' => e = .returned (.bool true) ∧ w = w' := by
  go_enter Tryz.func40, Tryz.ntmps40
  go_wp2
  go_ret
  exact ⟨rfl, rfl⟩
def FindEnd (w : World) (v : Vm) (a : Int) (e : Ending) (w' : World) : Prop :=
  Gr w w' ∧ ∃ x y : Int, e = .returned (.tuple #[.int .i64 x, .int .i64 y, .int .i64 (v.ldE a)]) ∧ (v.ldE a = 0 → x = (v.pt.getD (a / v.pl.pg).toNat 0 : Nat) - 1 ∧ y = a % v.pl.pg)
set_option maxRecDepth 100000 in
set_option maxHeartbeats 1600000 in
theorem vm_find (hV : VmAt w S q v) (a : Int) : Calls Tryz.prog 49 #[.pointer (some ⟨q, 0, none⟩), .int .i64 a] w (FindEnd w v a) := by
  have HV := hid hV
  obtain ⟨S1, S2, b1, b2, hr, hp, hg, -⟩ := hV.row
  have c0 := hr.cell (j := 0) rfl
  have c1 := hr.cell (j := 1) rfl
  have c2 := hr.cell (j := 2) rfl
  have hql := hr.lt
  have HP := hid hp
  have HG := hid hg
  have hpg := hV.ok.page
  have hn := hV.ok.n2
  by_cases hin : 0 ≤ a ∧ a < v.n
  · obtain ⟨j, rfl⟩ : ∃ j : Nat, a = j := ⟨a.toNat, by omega⟩
    have HE : Hid (v.ldE j = frE v.pt ((j / v.pl.pg : Nat) : Int)) := ⟨by unfold Vm.ldE; rw [if_pos hin, Int.natCast_ediv]⟩
    have HA : Hid (((j : Int) / (v.pl.pg : Int)).toNat = j / v.pl.pg ∧ ((j % v.pl.pg : Nat) : Int) = (j : Int) % (v.pl.pg : Int)) := ⟨⟨by rw [← Int.natCast_ediv, Int.toNat_natCast], Int.natCast_emod ..⟩⟩
    obtain ⟨p, hpp⟩ : ∃ p, p = j / v.pl.pg := ⟨_, rfl⟩
    obtain ⟨o, hoo⟩ : ∃ o, o = j % v.pl.pg := ⟨_, rfl⟩
    have q1 : ((j : Int).tdiv (v.pl.pg : Int)) = (p : Int) := by rw [hpp]; rfl
    have q2 : ((j : Int) / (v.pl.pg : Int)) = (p : Int) := by rw [hpp]; rfl
    have q3 : ((j : Int).tmod (v.pl.pg : Int)) = (o : Int) := by rw [hoo]; rfl
    have q4 : ((j : Int) % (v.pl.pg : Int)) = (o : Int) := by rw [hoo]; rfl
    have hBp : (v.pl.pg : Int) ≠ 0 := by omega
    rw [← hpp] at HE
    rw [← hpp, ← hoo] at HA
    have hp2 : p ≤ 524288 := by have := Nat.div_le_self j v.pl.pg; omega
    have ho2 : o ≤ 524288 := by have := Nat.mod_le j v.pl.pg; omega
    have hjI : (j : Int) < (v.n : Int) := by omega
    obtain ⟨B, hB⟩ : ∃ B, B = v.pl.pg := ⟨_, rfl⟩
    have HB := hid hB
    rw [← hB] at q1 q2 q3 q4 hBp hpg
    have d0 : decide ((j : Int) < 0) = false := decide_eq_false (by omega)
    have d1 : decide ((v.n : Int) ≤ (j : Int)) = false := decide_eq_false (by omega)
    clear hr hp hg hV hin hpp hoo hB
    go_enter Tryz.func49, Tryz.ntmps49
    go_wp2_with (first
      | (go_at_call 40; refine (vm_none HV.out).mono ?_; rintro e w1 ⟨rfl, rfl⟩)
      | (go_at_call 43; refine (pool_page HP.out).mono ?_; rintro e w1 ⟨rfl, rfl⟩; rw [← HB.out]))
    have z1 : ∀ xs m, (grow w xs m).cell? ⟨q, 1, none⟩ = some (.pointer (some ⟨b2, 0, none⟩)) := fun xs m => ((grown w xs m).cell hql 1).trans c1
    refine wp_region_by (by kernel_rfl) (by kernel_rfl) ?_
    repeat (go_big_quiet_step ((go_at_call 74; have hc := fun xs m => pg_frame (HG.out.gr (grown w xs m)) (p : Int); exact Gets.grown (hc _ _))))
    refine wpQuiet_nil ?_
    intro _ hw'
    obtain ⟨⟨xs, nq⟩, hw''⟩ := hw'
    subst hw''
    go_wp2
    go_quiet (fail)
    go_wp2
    go_ret3
    refine ⟨(grown w _ _).drewN _, _, _, ret3v rfl rfl (vint HE.out.symm), fun h0 => ?_⟩
    rw [HE.out] at h0
    rw [HA.out.1, ← HA.out.2]
    refine ⟨?_, rfl⟩
    unfold frV
    rw [if_pos h0, Int.toNat_natCast]
  · have E : v.ldE a = 11 := by unfold Vm.ldE; rw [if_neg hin]
    have HE := hid E
    rcases (by omega : a < 0 ∨ (0 ≤ a ∧ (v.n : Int) ≤ a)) with h | h
    · have d0 : decide (a < 0) = true := decide_eq_true h
      clear hr hp hg hV hin E h
      go_enter Tryz.func49, Tryz.ntmps49
      go_wp2_with (go_at_call 40; refine (vm_none HV.out).mono ?_; rintro e w1 ⟨rfl, rfl⟩)
      go_ret3
      exact ⟨Gr.refl w, _, _, ret3v rfl rfl (vint HE.out.symm), fun h0 => by rw [HE.out] at h0; exact absurd h0 (by decide)⟩
    · have d0 : decide (a < 0) = false := decide_eq_false (by omega)
      have d1 : decide ((v.n : Int) ≤ a) = true := decide_eq_true h.2
      clear hr hp hg hV hin E h
      go_enter Tryz.func49, Tryz.ntmps49
      go_wp2_with (go_at_call 40; refine (vm_none HV.out).mono ?_; rintro e w1 ⟨rfl, rfl⟩)
      go_ret3
      exact ⟨Gr.refl w, _, _, ret3v rfl rfl (vint HE.out.symm), fun h0 => by rw [HE.out] at h0; exact absurd h0 (by decide)⟩
/-- What a found place is to the pool. -/
theorem find_wrd (hok : VmOk v) {a x y : Int} (h0 : v.ldE a = 0) (hx : x = (v.pt.getD (a / v.pl.pg).toNat 0 : Nat) - 1) (hy : y = a % v.pl.pg) : wrdE v.pl x y = 0 ∧ x.toNat * v.pl.pg + y.toNat = v.at a := by
  obtain ⟨j, rfl, hj, hne⟩ := VmOk.hit h0
  obtain ⟨h1, h2⟩ := hok.split hj
  have hf := hok.fr _ h1 hne
  have e1 : ((j : Int) / (v.pl.pg : Int)).toNat = j / v.pl.pg := by rw [← Int.natCast_ediv, Int.toNat_natCast]
  have e2 : (j : Int) % (v.pl.pg : Int) = ((j % v.pl.pg : Nat) : Int) := (Int.natCast_emod ..).symm
  rw [e1] at hx
  rw [e2] at hy
  have hx1 : 0 ≤ x := by omega
  have hx2 : x.toNat = v.pt.getD (j / v.pl.pg) 0 - 1 := by omega
  have hc : chkE v.pl x = 0 := by unfold chkE; rw [decide_eq_true hx1, hx2, hf]; rfl
  refine ⟨?_, ?_⟩
  · unfold wrdE
    rw [if_pos hc, if_pos ⟨by omega, by omega⟩]
  · unfold Vm.at
    rw [e1, e2, hx2, hy]
set_option maxRecDepth 100000 in
set_option maxHeartbeats 800000 in
theorem vm_load (hV : VmAt w S q v) (a : Int) : Calls Tryz.prog 20 #[.pointer (some ⟨q, 0, none⟩), .int .i64 a] w fun e w' => e = .returned (.tuple #[.int .u64 (v.ldV a : Nat), .int .i64 (v.ldE a)]) ∧ Gr w w' := by
  have HV := hid hV
  obtain ⟨S1, S2, b1, b2, hr, hp, hg, -⟩ := hV.row
  have hql := hr.lt
  have c0 := hr.cell (j := 0) rfl
  have HP := hid hp
  by_cases h0 : v.ldE a = 0
  · have HE := hid h0
    have HW : Hid (∀ x y : Int, x = (v.pt.getD (a / v.pl.pg).toNat 0 : Nat) - 1 → y = a % v.pl.pg → wrdE v.pl x y = 0 ∧ wrdV v.pl x y = v.ldV a) := ⟨fun x y hx hy => by
      obtain ⟨h1, h2⟩ := find_wrd hV.ok h0 hx hy
      refine ⟨h1, ?_⟩
      unfold wrdV Vm.ldV
      rw [if_pos h1, if_pos h0, h2]⟩
    clear hr hp hg hV h0
    go_enter Tryz.func20, Tryz.ntmps20
    go_wp2_with (first
      | (go_at_call 49; refine (vm_find HV.out a).mono ?_; rintro e w1 ⟨hg1, x, y, rfl, hxy⟩; have HXY := hid (HW.out x y (hxy HE.out).1 (hxy HE.out).2); rw [HE.out]; have k0 := (hg1.cell hql 0).trans c0; have HG1 := hid hg1; clear hg1 hxy)
      | (go_at_call 51; refine (pool_load (HP.out.gr HG1.out) x y).mono ?_; rintro e w2 ⟨rfl, rfl⟩))
    go_ret2
    exact ⟨ret2 (congrArg (fun n : Nat => Value.int .u64 (n : Int)) HXY.out.2) (vint (by rw [HXY.out.1, HE.out])), HG1.out⟩
  · have HV0 : Hid (v.ldV a = 0) := ⟨by unfold Vm.ldV; rw [if_neg h0]⟩
    obtain ⟨x, hx⟩ : ∃ x, x = v.ldE a := ⟨_, rfl⟩
    have HX := hid hx
    have d0 : (x == 0) = false := by rw [hx]; simpa using h0
    clear hr hp hg hV h0 hx
    go_enter Tryz.func20, Tryz.ntmps20
    go_wp2_with (go_at_call 49; refine (vm_find HV.out a).mono ?_; rintro e w1 ⟨hg1, x1, y1, rfl, -⟩; rw [← HX.out]; have HG1 := hid hg1; clear hg1)
    go_ret2
    exact ⟨ret2 (by rw [HV0.out]; rfl) (vint (by rw [HX.out])), HG1.out⟩
theorem plus_refl (S : Nat → Prop) (w : World) (k : Nat) (h : S k) : plus S w k := .inl h
def StEnd (w : World) (S : Nat → Prop) (q : Nat) (v : Vm) (a : Int) (x : Nat) (w' : World) : Prop := Touch S w w' ∧ VmAt w' S q (v.st a x)
theorem VmOk.st (h : VmOk v) (a : Int) {x : Nat} (hx : x < 18446744073709551616) : VmOk (v.st a x) := by
  unfold Vm.st
  split
  · exact ⟨plOk_store h.pl _ _ hx, h.pt, h.n2, h.np, h.fr, h.inj, h.us⟩
  · exact h
set_option maxRecDepth 100000 in
set_option maxHeartbeats 800000 in
theorem vm_store (hV : VmAt w S q v) (a : Int) {x : Nat} (hx : x < 18446744073709551616) : Calls Tryz.prog 19 #[.pointer (some ⟨q, 0, none⟩), .int .i64 a, .int .u64 x] w fun e w' => e = .returned (.int .i64 (v.ldE a)) ∧ StEnd w S q v a x w' := by
  have HV := hid hV
  obtain ⟨S1, S2, b1, b2, hr, hp, hg, s1, s2, s3, s4, s5⟩ := hV.row
  have hql := hr.lt
  have c0 := hr.cell (j := 0) rfl
  have HP := hid hp
  have hok := hid (hV.ok.st a hx)
  have hX := hid hx
  by_cases h0 : v.ldE a = 0
  · have HE := hid h0
    have HS : Hid (v.st a x = { v with pl := { v.pl with wd := v.pl.wd.set (v.at a) x } }) := ⟨by unfold Vm.st; rw [if_pos h0]⟩
    have HW : Hid (∀ y z : Int, y = (v.pt.getD (a / v.pl.pg).toNat 0 : Nat) - 1 → z = a % v.pl.pg → wrdE v.pl y z = 0 ∧ wrdSet v.pl y z x = { v.pl with wd := v.pl.wd.set (v.at a) x }) := ⟨fun y z hy hz => by
      obtain ⟨h1, h2⟩ := find_wrd hV.ok h0 hy hz
      refine ⟨h1, ?_⟩
      unfold wrdSet
      rw [if_pos h1, h2]⟩
    have HK : Hid (∀ (w1 : World), Gr w w1 → ∀ w2, Touch S1 w1 w2 → PoolAt w2 S1 b1 { v.pl with wd := v.pl.wd.set (v.at a) x } → StEnd w S q v a x w2) := ⟨fun w1 g1 w2 t2 p2 => by
      have T : Touch S1 w w2 := (g1.touch S1).trans t2
      refine ⟨T.mono (fun k _ hk => s1 k hk), hok.out, hV.sq, S1, S2, b1, b2, ?_, ?_, ?_, s1, s2, s3, s4, s5⟩
      · rw [HS.out]; exact hr.touch T s4
      · rw [HS.out]; exact p2
      · rw [HS.out]; exact hg.touch T (fun k hk _ hk2 => s3 k hk2 hk)⟩
    clear hr hp hg hV h0 hx s1 s2 s3 s4 s5
    go_enter Tryz.func19, Tryz.ntmps19
    go_wp2_with (first
      | (go_at_call 49; refine (vm_find HV.out a).mono ?_; rintro e w1 ⟨hg1, y, z, rfl, hxy⟩; have HXY := hid (HW.out y z (hxy HE.out).1 (hxy HE.out).2); rw [HE.out]; have k0 := (hg1.cell hql 0).trans c0; have HG1 := hid hg1; clear hg1 hxy)
      | (go_at_call 50; refine (pool_store (HP.out.gr HG1.out) y z x hX.out).mono ?_; rintro e w2 ⟨rfl, ht2, hp2⟩; have HT2 := hid ht2; have HP2 := hid hp2; clear ht2 hp2))
    go_ret
    refine ⟨ret_int (by rw [HXY.out.1, HE.out]), HK.out _ HG1.out _ HT2.out ?_⟩
    rw [← HXY.out.2]; exact HP2.out
  · have HS : Hid (v.st a x = v) := ⟨by unfold Vm.st; rw [if_neg h0]⟩
    obtain ⟨y, hy⟩ : ∃ y, y = v.ldE a := ⟨_, rfl⟩
    have HX := hid hy
    have d0 : (y == 0) = false := by rw [hy]; simpa using h0
    clear hr hp hg hV h0 hx hy
    go_enter Tryz.func19, Tryz.ntmps19
    go_wp2_with (go_at_call 49; refine (vm_find HV.out a).mono ?_; rintro e w1 ⟨hg1, x1, y1, rfl, -⟩; rw [← HX.out]; have HG1 := hid hg1; clear hg1)
    go_ret
    exact ⟨ret_int (by rw [HX.out]), HG1.out.touch S, by rw [HS.out]; exact HV.out.gr HG1.out⟩
end
end Go.Proofs.YtlkifhoedfjlaaaGreatDoor
