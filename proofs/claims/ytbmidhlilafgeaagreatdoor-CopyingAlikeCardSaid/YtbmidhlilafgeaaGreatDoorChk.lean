/- Package slide: Check, where a configuration may be. -/
import Derived.Test.YtbmidhlilafgeaaGreatDoorKM3
import Derived.Test.YtbmidhlilafgeaaGreatDoorUp
namespace Go.Proofs.YtbmidhlilafgeaaGreatDoor
open Go.RowKit Word

structure Cf where
  fr : Nat
  tp : Nat
  to : Nat
  lm : Nat
  bk : Nat
  st : Nat
  ah : Nat
def cfV (c : Cf) : Value := .agg #[.int .i64 c.fr, .int .i64 c.tp, .int .i64 c.to, .int .i64 c.lm, .int .i64 c.bk, .int .i64 c.st, .int .i64 c.ah]
def upN (n B : Nat) : Nat := (n + B - 1) / B * B
structure CfOk (pg n : Nat) (c : Cf) : Prop where
  bk : blockOk c.bk = true
  st : 1 ≤ c.st ∧ c.st ≤ 4096
  ah : c.ah ≤ 16
  fr : pg ≤ c.fr
  tp : c.fr ≤ c.tp
  tn : c.tp ≤ n
  to : pg ≤ c.to
  lm : c.to ≤ c.lm
  ln : c.lm ≤ n
  af : c.fr % pg = 0
  at_ : c.to % pg = 0
  al : c.lm % pg = 0
  ap : ¬ (c.fr < upN c.tp pg ∧ c.to < c.lm ∧ c.fr < c.lm ∧ c.to < upN c.tp pg)
section
variable {w : World} {S : Nat → Prop} {q : Nat} {v : Vm}
set_option maxRecDepth 100000 in
set_option maxHeartbeats 1600000 in
theorem within_ok {b cp : Nat} {lo md hi : Nat → Nat} (hb : b < w.heap.size)
    (hc : ∀ j, j < 7 → w.cell? ⟨b, j * 3, none⟩ = some (.int .i64 (lo j)) ∧ w.cell? ⟨b, j * 3 + 1, none⟩ = some (.int .i64 (md j)) ∧ w.cell? ⟨b, j * 3 + 2, none⟩ = some (.int .i64 (hi j)))
    (ho : ∀ j, j < 7 → lo j ≤ md j ∧ md j ≤ hi j) : Gets Tryz.prog 115 #[.slice (some ⟨b, 0, none⟩) 7 cp] w (.bool true) := by
  have HC := hid hc
  have HO := hid ho
  clear hc ho
  unfold Gets
  go_enter Tryz.func115, Tryz.ntmps115
  go_wp2
  go_loopw [7] (fun s7 wr => ∃ j : Nat, j ≤ 7 ∧ Hid (Gr w wr) ∧ s7 = .int .i64 j) (fun s7 _ => 7 - (intOf s7).toNat)
  case atStart => exact ⟨0, by omega, ⟨Gr.refl w⟩, rfl⟩
  case round =>
    obtain ⟨j, hj, HG, rfl⟩ := hrel
    by_cases hlast : j = 7
    · subst hlast
      go_wp2
      go_ret
      exact ⟨rfl, HG.out⟩
    · obtain ⟨k0, k1, k2⟩ := HC.out j (by omega)
      obtain ⟨o1, o2⟩ := HO.out j (by omega)
      have c0 := (HG.out.cell hb _).trans k0
      have c1 := (HG.out.cell hb _).trans k1
      have c2 := (HG.out.cell hb _).trans k2
      have hjI : (j : Int) < 7 := by omega
      have d0 : decide ((md j : Int) < (lo j : Int)) = false := decide_eq_false (by omega)
      have d1 : decide ((hi j : Int) < (md j : Int)) = false := decide_eq_false (by omega)
      have HL := hid hlast
      clear hlast k0 k1 k2
      generalize lo j = x at *
      generalize md j = y at *
      generalize hi j = z at *
      go_wp2
      go_round
      case rel => exact ⟨j + 1, by have := HL.out; omega, ⟨HG.out.alloc _⟩, by go_num⟩
      case measure => have := HL.out; simp [intOf]; omega
theorem check_ap {a b c d : Prop} (h : ¬ (a ∧ b ∧ c ∧ d)) : ¬ a ∨ (a ∧ ¬ b) ∨ (a ∧ b ∧ ¬ c) ∨ (a ∧ b ∧ c ∧ ¬ d) := by
  by_cases ha : a
  · by_cases hb : b
    · by_cases hc : c
      · exact .inr (.inr (.inr ⟨ha, hb, hc, fun hd => h ⟨ha, hb, hc, hd⟩⟩))
      · exact .inr (.inr (.inl ⟨ha, hb, hc⟩))
    · exact .inr (.inl ⟨ha, hb⟩)
  · exact .inl ha
set_option maxRecDepth 100000 in
set_option maxHeartbeats 1600000 in
theorem slide_check (hV : VmAt w S q v) {c : Cf} (hc : CfOk v.pl.pg v.n c) : Calls Tryz.prog 53 #[.pointer (some ⟨q, 0, none⟩), cfV c] w fun e w' => e = .returned (.int .i64 0) ∧ Gr w w' := by
  have hpg := hV.ok.page
  have hn2 := hV.ok.n2
  have hpB := hV.ok.pl.pg
  obtain ⟨fr, tp, to, lm, bk, st, ah⟩ := c
  obtain ⟨h1, h2, h3, h4, h5, h6, h7, h8, h9, h10, h11, h12, h13⟩ := hc
  dsimp only at h1 h2 h3 h4 h5 h6 h7 h8 h9 h10 h11 h12 h13
  have hbp := blockOk_pos h1
  have hpow : powB bk = true := by
    have := blockOk_eq bk
    rw [h1] at this
    exact (Bool.and_eq_true_iff.1 this.symm).1
  have HPW := hid (fun W => power_any (bk : Int) (by omega) W)
  rw [hpow] at HPW
  have HPG := hid (fun (W : World) (g : Gr w W) => vm_page (hV.gr g))
  have HWD := hid (fun (W : World) (g : Gr w W) => vm_words (hV.gr g))
  have HUP := hid (fun W => up_block tp v.pl.pg (by omega) hpB W)
  obtain ⟨pg, hpge⟩ : ∃ pg, pg = v.pl.pg := ⟨_, rfl⟩
  obtain ⟨n, hne⟩ : ∃ n, n = v.n := ⟨_, rfl⟩
  rw [← hpge] at HPG HUP hpg h4 h7 h10 h11 h12 h13
  rw [← hne] at HWD hn2 h6 h9
  have HWI := hid (fun (W : World) (b : Nat) (cp : Nat) (R : Rec W b 157 [.int .i64 1, .int .i64 bk, .int .i64 1024, .int .i64 1, .int .i64 st, .int .i64 4096, .int .i64 0, .int .i64 ah, .int .i64 16, .int .i64 pg, .int .i64 fr, .int .i64 n, .int .i64 fr, .int .i64 tp, .int .i64 n, .int .i64 pg, .int .i64 to, .int .i64 n, .int .i64 to, .int .i64 lm, .int .i64 n]) =>
    within_ok (w := W) (b := b) (cp := cp) (lo := fun j => [1, 1, 0, pg, fr, pg, to].getD j 0) (md := fun j => [bk, st, ah, fr, tp, to, lm].getD j 0) (hi := fun j => [1024, 4096, 16, n, n, n, n].getD j 0) R.lt
      (fun j hj => by
        rcases (by omega : j = 0 ∨ j = 1 ∨ j = 2 ∨ j = 3 ∨ j = 4 ∨ j = 5 ∨ j = 6) with rfl | rfl | rfl | rfl | rfl | rfl | rfl <;> exact ⟨R.cell rfl, R.cell rfl, R.cell rfl⟩)
      (fun j hj => by
        rcases (by omega : j = 0 ∨ j = 1 ∨ j = 2 ∨ j = 3 ∨ j = 4 ∨ j = 5 ∨ j = 6) with rfl | rfl | rfl | rfl | rfl | rfl | rfl <;> (refine ⟨?_, ?_⟩ <;> simp <;> omega)))
  have m1 : ((fr : Int)).tmod (pg : Int) = 0 := by rw [← Int.ofNat_tmod, h10]; rfl
  have m2 : ((to : Int)).tmod (pg : Int) = 0 := by rw [← Int.ofNat_tmod, h11]; rfl
  have m3 : ((lm : Int)).tmod (pg : Int) = 0 := by rw [← Int.ofNat_tmod, h12]; rfl
  have R0 := Rec.new w 34 [.int .i64 fr, .int .i64 tp, .int .i64 to, .int .i64 lm, .int .i64 bk, .int .i64 st, .int .i64 ah]
  have HAP := hid (check_ap h13)
  have hup : upN tp pg ≤ 1048576 := by
    unfold upN
    have := Nat.div_mul_le_self (tp + pg - 1) pg
    omega
  obtain ⟨up, hupe⟩ : ∃ up, up = upN tp pg := ⟨_, rfl⟩
  rw [← hupe] at HAP hup
  rw [show (tp + pg - 1) / pg * pg = up from hupe.symm] at HUP
  have b0 : ((pg : Int) == 0) = false := by simp; omega
  have b1 : (pg : Int) ≠ 0 := by omega
  unfold cfV
  have HR0 := hid R0
  have z0 := R0.cell (j := 0) rfl
  have z1 := R0.cell (j := 1) rfl
  have z2 := R0.cell (j := 2) rfl
  have z3 := R0.cell (j := 3) rfl
  have z4 := R0.cell (j := 4) rfl
  have z5 := R0.cell (j := 5) rfl
  have z6 := R0.cell (j := 6) rfl
  have zl := R0.lt
  obtain ⟨W1, hW1⟩ : ∃ W1, W1 = w.alloc (.cells #[.int .i64 fr, .int .i64 tp, .int .i64 to, .int .i64 lm, .int .i64 bk, .int .i64 st, .int .i64 ah] 34) := ⟨_, rfl⟩
  have HGW : Hid (Gr w W1) := ⟨by rw [hW1]; exact (Gr.refl w).alloc _⟩
  clear hpge hne hupe R0 hV h13 hpow hpB h1 h10 h11 h12
  go_enter Tryz.func53, Tryz.ntmps53
  go_upto_region 1 with (fail)
  rw [← hW1] at z0 z1 z2 z3 z4 z5 z6 zl HR0 ⊢
  clear hW1
  go_upto_region 6 with (first
    | (go_at_call 71; refine (HPG.out _ HGW.out).mono ?_; rintro e w1 ⟨rfl, rfl⟩)
    | (go_at_call 33; refine (HWD.out _ HGW.out).mono ?_; rintro e w1 ⟨rfl, rfl⟩)
    | (go_at_call 114; refine (HPW.out _).mono ?_; rintro e w1 ⟨rfl, rfl⟩)
    | (go_at_call 115; refine (HWI.out _ _ _ (Rec.new _ _ _)).mono ?_; rintro e w2 ⟨rfl, hg2⟩; have HG2 := hid (((Gr.refl _).alloc _).trans hg2); have HR2 := hid (HR0.out.gr HG2.out); have y0 := HR2.out.cell (j := 0) rfl; have y1 := HR2.out.cell (j := 1) rfl; have y2 := HR2.out.cell (j := 2) rfl; have y3 := HR2.out.cell (j := 3) rfl; have yl := HR2.out.lt; clear hg2))
  go_quiet (fail)
  go_upto_region 9 with (go_at_call 116; refine (HUP.out _).mono ?_; rintro e w1 ⟨rfl, rfl⟩)
  have hG := HGW.out.trans HG2.out
  rcases HAP.out with h | ⟨h, h'⟩ | ⟨h, h', h''⟩ | ⟨h, h', h'', h3⟩
  · have e0 : decide ((fr : Int) < (up : Int)) = false := decide_eq_false (by omega)
    have f0 : decide (fr < up) = false := decide_eq_false h
    go_wp2
    go_ret
    exact ⟨rfl, hG.drewN _⟩
  · have e0 : decide ((fr : Int) < (up : Int)) = true := decide_eq_true (by omega)
    have e1 : decide ((to : Int) < (lm : Int)) = false := decide_eq_false (by omega)
    have f0 : decide (fr < up) = true := decide_eq_true h
    have f1 : decide (to < lm) = false := decide_eq_false h'
    go_wp2
    go_ret
    exact ⟨rfl, hG.drewN _⟩
  · have e0 : decide ((fr : Int) < (up : Int)) = true := decide_eq_true (by omega)
    have e1 : decide ((to : Int) < (lm : Int)) = true := decide_eq_true (by omega)
    have e2 : decide ((fr : Int) < (lm : Int)) = false := decide_eq_false (by omega)
    have f0 : decide (fr < up) = true := decide_eq_true h
    have f1 : decide (to < lm) = true := decide_eq_true h'
    have f2 : decide (fr < lm) = false := decide_eq_false h''
    go_wp2
    go_ret
    exact ⟨rfl, hG.drewN _⟩
  · have e0 : decide ((fr : Int) < (up : Int)) = true := decide_eq_true (by omega)
    have e1 : decide ((to : Int) < (lm : Int)) = true := decide_eq_true (by omega)
    have e2 : decide ((fr : Int) < (lm : Int)) = true := decide_eq_true (by omega)
    have e3 : decide ((to : Int) < (up : Int)) = false := decide_eq_false (by omega)
    have f0 : decide (fr < up) = true := decide_eq_true h
    have f1 : decide (to < lm) = true := decide_eq_true h'
    have f2 : decide (fr < lm) = true := decide_eq_true h''
    have f3 : decide (to < up) = false := decide_eq_false h3
    go_wp2
    go_ret
    exact ⟨rfl, hG.drewN _⟩
end
end Go.Proofs.YtbmidhlilafgeaaGreatDoor
