/- Package vmem: Need. -/
import Derived.Test.YtlkifhoedfjlaaaGreatDoorVmG
namespace Go.Proofs.YtlkifhoedfjlaaaGreatDoor
open Go.RowKit Word

section
variable {w : World} {S : Nat → Prop} {q : Nat} {v : Vm}
/-- A memory with some pages mapped lies in w. -/
def GrownAt (w : World) (S : Nat → Prop) (q : Nat) (v : Vm) (F : List Nat) : Prop := ∃ v', Grown v v' F ∧ VmAt w S q v'
set_option maxRecDepth 100000 in
set_option maxHeartbeats 1600000 in
theorem vm_undo {bs bm : Nat} {F : List Nat} {vF : Value} (hv : VmOk v) (hG : GrownAt w S q v F) (hF : w.ownsRow 0 3 1 vF F.length (i64s F)) (hs : ∀ g, vF.ownBlock = some g → ¬ S g)
    (cs : w.cell? ⟨bs, 0, none⟩ = some vF) (cm : w.cell? ⟨bm, 0, none⟩ = some (.pointer (some ⟨q, 0, none⟩))) (ls : bs < w.heap.size) (lm : bm < w.heap.size) (ns : ¬ S bs) (nm : ¬ S bm) :
    Calls Tryz.prog 41 #[.pointer (some ⟨bs, 0, none⟩), .pointer (some ⟨bm, 0, none⟩)] w fun e w' => e = .returned (.tuple #[]) ∧ Touch S w w' ∧ GrownAt w' (plus S w) q v [] := by
  obtain ⟨A, c, rfl, hc1, hc2⟩ := own_shape hF
  unfold maxLen at hc2
  have hlen : F.length ≤ 524288 := by
    obtain ⟨v', hg, -⟩ := hG
    have h1 := hg.us
    have h2 := hg.ok.us
    have h3 := nz_le v'.pt
    have h4 := hg.ok.pt.n2
    omega
  have HF := hid hF
  have HG := hid hG
  have HV := hid hv
  have HS := hid hs
  obtain ⟨N, hN⟩ : ∃ N, N = F.length := ⟨_, rfl⟩
  rw [← hN] at cs hc1 hlen
  have HN := hid hN
  clear hF hG hv hs hN
  go_enter Tryz.func41, Tryz.ntmps41
  go_wp2
  go_loopw [2] (fun i wr => ∃ k : Nat, k ≤ N ∧ Hid (Touch S w wr) ∧ Hid (GrownAt wr (plus S w) q v (F.take k)) ∧ i = .int .i64 ((k : Int) - 1)) (fun i _ => (intOf i + 1).toNat)
  case atStart => exact ⟨N, Nat.le_refl _, ⟨Touch.refl S w⟩, ⟨by obtain ⟨v', hg, ha⟩ := HG.out; exact ⟨v', by rw [HN.out, List.take_length]; exact hg, ha.mono (fun k hk => .inl hk)⟩⟩, by go_num⟩
  case round =>
    obtain ⟨k, hk, HT, HK, rfl⟩ := hrel
    by_cases hk0 : k = 0
    · subst hk0
      go_wp2
      go_end0
      exact ⟨rfl, HT.out, HK.out⟩
    · obtain ⟨j, rfl⟩ : ∃ j, k = j + 1 := ⟨k - 1, by omega⟩
      have hjF : j < F.length := by have := HN.out; omega
      obtain ⟨g, c', e1, -, -, -, -⟩ := own_form HF.out (by omega)
      simp only [Value.slice.injEq] at e1
      obtain ⟨rfl, -, rfl⟩ := e1
      have hgl := (own_lt HF.out (g := g) rfl).2
      have ng := HS.out g rfl
      have kb := own_cell HF.out (i64s_at hjF)
      obtain ⟨p, hp⟩ : ∃ p, p = F[j] := ⟨_, rfl⟩
      rw [← hp] at kb
      have HP : Hid (F.take (j + 1) = F.take j ++ [p]) := ⟨by rw [hp, List.take_add_one, List.getElem?_eq_getElem hjF]; rfl⟩
      have KS : Hid (∀ W', Gr wr W' → W'.cell? ⟨bs, 0, none⟩ = some (.slice (some ⟨g, 0, none⟩) N c) ∧ W'.cell? ⟨bm, 0, none⟩ = some (.pointer (some ⟨q, 0, none⟩)) ∧ W'.cell? ⟨g, j, none⟩ = some (.int .i64 (p : Nat))) :=
        ⟨fun W' h => ⟨(h.cell (Nat.lt_of_lt_of_le ls HT.out.size) 0).trans ((HT.out.cell ls ns 0).trans cs), (h.cell (Nat.lt_of_lt_of_le lm HT.out.size) 0).trans ((HT.out.cell lm nm 0).trans cm), (h.cell (Nat.lt_of_lt_of_le hgl HT.out.size) j).trans ((HT.out.cell hgl ng j).trans kb)⟩⟩
      have hjN : (j : Int) < (N : Int) := by omega
      clear hjF hgl ng kb hp cs cm
      go_upto_region 3 with (fail)
      obtain ⟨Sx, hSx⟩ : ∃ Sx : World → Prop, Sx = fun W' => Gr wr W' := ⟨_, rfl⟩
      have x1 : ∀ p : Held Sx, p.w.cell? ⟨bs, 0, none⟩ = some (.slice (some ⟨g, 0, none⟩) N c) := fun p => (KS.out _ (Held.get hSx p)).1
      have x2 : ∀ p : Held Sx, p.w.cell? ⟨bm, 0, none⟩ = some (.pointer (some ⟨q, 0, none⟩)) := fun p => (KS.out _ (Held.get hSx p)).2.1
      have x3 : ∀ r : Held Sx, r.w.cell? ⟨g, j, none⟩ = some (.int .i64 (p : Nat)) := fun p => (KS.out _ (Held.get hSx p)).2.2
      have hS0 : Sx wr.drew := by rw [hSx]; exact (Gr.refl wr).drew
      have inst : Inhabited (Held Sx) := ⟨⟨_, hS0⟩⟩
      clear hSx
      refine wp_region_mixS Sx 5 [([0, 1, 2, 3, 4], 5)] [] (by kernel_rfl) (by kernel_rfl) hS0 ?_
      refine segs_step ?_
      simp only [opsAt, List.getElem?_cons_zero, List.getElem?_cons_succ]
      repeat (go_big_quiet_step (fail))
      refine wpQuiet_nil ?_
      obtain ⟨vk, hgk, hvk⟩ := HK.out
      rw [HP.out] at hgk
      have HUM := hid (hgk.um HV.out)
      have HVK := hid (hvk.gr (Gr.refl wr).drew)
      clear hgk hvk
      go_wp2_with (go_at_call 42; refine (vm_unmap HVK.out (p : Int)).mono ?_; rintro e w1 ⟨rfl, ht1, hv1⟩; have HT1 := hid ht1; have HV1 := hid hv1; clear ht1 hv1)
      refine ⟨.inl trivial, ?_⟩
      refine segs_end ?_
      refine wpQuiet_nil ?_
      refine NoPanic.normal ?_
      clear x1 x2 x3 hS0 inst
      clear Sx
      go_wp2
      have hsz := HT.out.size
      have h1 : Touch (plus S w) wr w1 := ((Gr.refl wr).drew.touch _).trans HT1.out
      go_round
      case rel =>
        refine ⟨j, by omega, ⟨HT.out.trans' h1 (fun i hi hp => hp.resolve_right (by omega))⟩, ⟨_, HUM.out.2, HV1.out.mono (fun k hk => ?_)⟩, by go_num⟩
        rcases hk with h | h
        · exact h
        · exact .inr (Nat.le_trans hsz h)
      case measure => simp [intOf]
/-- The pages, of k from p0 on, that are not mapped. -/
def unmL (v : Vm) (p0 k : Nat) : List Nat := (List.range' p0 k).filter fun p => v.pt.getD p 0 == 0
theorem unmL_succ (v : Vm) (p0 k : Nat) : unmL v p0 (k + 1) = if v.pt.getD (p0 + k) 0 = 0 then unmL v p0 k ++ [p0 + k] else unmL v p0 k := by
  unfold unmL
  rw [List.range'_concat, List.filter_append]
  by_cases h : v.pt.getD (p0 + k) 0 = 0
  · rw [if_pos h, List.filter_cons_of_pos (by rw [Nat.one_mul]; exact beq_iff_eq.2 h), Nat.one_mul]; rfl
  · rw [if_neg h, List.filter_cons_of_neg (by rw [Nat.one_mul]; simpa using h)]; simp
theorem unmL_mem {v : Vm} {p0 k p : Nat} : p ∈ unmL v p0 k ↔ (p0 ≤ p ∧ p < p0 + k) ∧ v.pt.getD p 0 = 0 := by
  unfold unmL
  rw [List.mem_filter, List.mem_range'_1]
  simp
theorem unmL_le (v : Vm) (p0 : Nat) {k m : Nat} (h : k ≤ m) : (unmL v p0 k).length ≤ (unmL v p0 m).length := by
  induction m with
  | zero => rw [Nat.le_zero.1 h]; exact Nat.le_refl _
  | succ m ih =>
    rcases Nat.lt_or_ge m k with h' | h'
    · rw [show k = m + 1 by omega]; exact Nat.le_refl _
    · refine Nat.le_trans (ih h') ?_
      rw [unmL_succ]
      split
      · simp
      · exact Nat.le_refl _
/-- How many pages a range has. -/
def pgsN (v : Vm) (f t : Int) : Nat := ((t - 1) / v.pl.pg - f / v.pl.pg + 1).toNat
def needE (v : Vm) (f t : Int) : Int := if f < 0 ∨ (v.n : Int) < t then 11 else if t ≤ f then 0 else if v.pl.used + (unmL v (f / v.pl.pg).toNat (pgsN v f t)).length ≤ v.pl.rm then 0 else 14
def needF (v : Vm) (f t : Int) : List Nat := if needE v f t = 0 ∧ f < t then unmL v (f / v.pl.pg).toNat (pgsN v f t) else []
structure NeedInv (w wr : World) (S S' : Nat → Prop) (q : Nat) (v : Vm) (p0 k bs bm : Nat) (vF : Value) : Prop where
  t : Touch S w wr
  g : GrownAt wr S' q v (unmL v p0 k)
  own : wr.ownsRow 0 3 1 vF (unmL v p0 k).length (i64s (unmL v p0 k))
  rs : Rec wr bs 23 [vF]
  rm : Rec wr bm 29 [.pointer (some ⟨q, 0, none⟩)]
  sub : ∀ k, S' k → plus S w k
  ns : ¬ S' bs
  nm : ¬ S' bm
  ng : ∀ g, vF.ownBlock = some g → ¬ S' g
  ls : w.heap.size ≤ bs
  lg : ∀ g, vF.ownBlock = some g → w.heap.size ≤ g
/-- Behind a call of Map. -/
theorem NeedInv.map {w wr w1 : World} {S S' : Nat → Prop} {q : Nat} {v : Vm} {p0 k bs bm : Nat} {vF : Value} (h : NeedInv w wr S S' q v p0 k bs bm vF) (t : Touch S' wr w1) :
    Touch S w w1 ∧ w1.ownsRow 0 3 1 vF (unmL v p0 k).length (i64s (unmL v p0 k)) ∧ Rec w1 bs 23 [vF] ∧ Rec w1 bm 29 [.pointer (some ⟨q, 0, none⟩)] ∧
      (∀ k, plus S' wr k → plus S w k) ∧ ¬ plus S' wr bs ∧ ¬ plus S' wr bm ∧ (∀ g, vF.ownBlock = some g → ¬ plus S' wr g) := by
  have hz := h.t.size
  refine ⟨h.t.trans' t (fun i hi hs => (h.sub i hs).resolve_right (by omega)), own_touch h.own t h.ng, h.rs.touch t h.ns, h.rm.touch t h.nm, fun k hk => ?_, fun hk => ?_, fun hk => ?_, fun g hg hk => ?_⟩
  · rcases hk with hk | hk
    · exact h.sub k hk
    · exact .inr (by omega)
  · have := h.rs.lt
    exact hk.elim h.ns (by omega)
  · have := h.rm.lt
    exact hk.elim h.nm (by omega)
  · have := (own_lt h.own hg).2
    exact hk.elim (h.ng g hg) (by omega)
set_option maxRecDepth 100000 in
set_option maxHeartbeats 1600000 in
theorem vm_need (hV : VmAt w S q v) (f t : Nat) (ht : t ≤ v.n) (hft : f < t) : Calls Tryz.prog 16 #[.pointer (some ⟨q, 0, none⟩), .int .i64 f, .int .i64 t] w fun e w' => e = .returned (.int .i64 (needE v f t)) ∧ Touch S w w' ∧ GrownAt w' (plus S w) q v (needF v f t) := by
  have HV := hid hV
  have hn := hV.ok.n2
  obtain ⟨S1, S2, b1, b2, hr, hp, -⟩ := hV.row
  have hql := hr.lt
  have c0 := hr.cell (j := 0) rfl
  have c2 := hr.cell (j := 2) rfl
  have hpg := hV.ok.page
  have HP := hid hp
  obtain ⟨p0, hp0⟩ : ∃ p0, p0 = f / v.pl.pg := ⟨_, rfl⟩
  obtain ⟨p1, hp1⟩ : ∃ p1, p1 = (t - 1) / v.pl.pg := ⟨_, rfl⟩
  have h01 : p0 ≤ p1 := by rw [hp0, hp1]; exact Nat.div_le_div_right (by omega)
  have h1l : p1 < v.pt.length := by rw [hp1]; exact (hV.ok.split (by omega)).1
  have ht1 : (t : Int) - 1 = ((t - 1 : Nat) : Int) := by omega
  have HNE : Hid (pgsN v f t = p1 + 1 - p0 ∧ ((f : Int) / (v.pl.pg : Int)).toNat = p0) := ⟨by
    unfold pgsN
    rw [ht1, ← Int.natCast_ediv, ← Int.natCast_ediv, ← hp0, ← hp1]
    exact ⟨by omega, Int.toNat_natCast _⟩⟩
  have HE : Hid (needE v f t = if v.pl.used + (unmL v p0 (p1 + 1 - p0)).length ≤ v.pl.rm then 0 else 14) := ⟨by
    unfold needE
    rw [if_neg (by omega), if_neg (by omega), HNE.out.1, HNE.out.2]⟩
  have HF : Hid (needF v f t = if v.pl.used + (unmL v p0 (p1 + 1 - p0)).length ≤ v.pl.rm then unmL v p0 (p1 + 1 - p0) else []) := ⟨by
    unfold needF
    rw [HE.out, HNE.out.1, HNE.out.2]
    split
    · rw [if_pos ⟨rfl, by omega⟩]
    · rw [if_neg (fun h => absurd h.1 (by decide))]⟩
  obtain ⟨B, hB⟩ : ∃ B, B = v.pl.pg := ⟨_, rfl⟩
  have HB := hid hB
  rw [← hB] at hp0 hp1 hpg
  have q1 : ((f : Int).tdiv (B : Int)) = (p0 : Int) := by rw [hp0]; rfl
  have q2 : ((f : Int) / (B : Int)) = (p0 : Int) := by rw [hp0]; rfl
  have q3 : (((t : Int) - 1).tdiv (B : Int)) = (p1 : Int) := by rw [ht1, hp1]; rfl
  have q4 : (((t : Int) - 1) / (B : Int)) = (p1 : Int) := by rw [ht1, hp1]; rfl
  have hBp : (B : Int) ≠ 0 := by omega
  have d0 : decide ((f : Int) < 0) = false := decide_eq_false (by omega)
  have d1 : decide ((v.n : Int) < (t : Int)) = false := decide_eq_false (by omega)
  have d2 : decide ((t : Int) ≤ (f : Int)) = false := decide_eq_false (by omega)
  have hpt := hV.ok.pt.n2
  clear hV hr hp hB hp0 hp1 ht1
  go_enter Tryz.func16, Tryz.ntmps16
  go_wp2_with (first
    | (go_at_call 40; refine (vm_none (HV.out.gr ((Gr.refl w).alloc _))).mono ?_; rintro e w1 ⟨rfl, rfl⟩)
    | (go_at_call 43; refine (pool_page (HP.out.gr (((Gr.refl w).alloc _).alloc _))).mono ?_; rintro e w1 ⟨rfl, rfl⟩; rw [← HB.out]))
  obtain ⟨bm, hbm⟩ : ∃ bm, bm = w.heap.size := ⟨_, rfl⟩
  rw [← hbm]
  have HI0 := hid (show NeedInv w ((w.alloc (Obj.cells #[.pointer (some ⟨q, 0, none⟩)] 29)).alloc (Obj.cells #[.slice none 0 0] 23)) S (cutS S w) q v p0 0 (bm + 1) bm (.slice none 0 0) from
    ⟨((Touch.refl S w).alloc _).alloc _, ⟨v, Grown.refl HV.out.ok, HV.out.cut.gr (((Gr.refl w).alloc _).alloc _)⟩, own_nil _ _ _ _, by
      have := Rec.new (w.alloc (Obj.cells #[.pointer (some ⟨q, 0, none⟩)] 29)) 23 [.slice none 0 0]
      rw [World.size_alloc, ← hbm] at this
      exact this, by
      have := Rec.gr (Rec.new w 29 [.pointer (some ⟨q, 0, none⟩)]) ((Gr.refl _).alloc (Obj.cells #[.slice none 0 0] 23))
      rw [← hbm] at this
      exact this, fun k hk => .inl hk.1, fun h => by have := h.2; omega, fun h => by have := h.2; omega, (fun g h => by cases h), by omega, (fun g h => by cases h)⟩)
  go_loopw [10] (fun p wr => ∃ (k : Nat) (S' : Nat → Prop) (vF : Value), k ≤ p1 + 1 - p0 ∧ Hid (NeedInv w wr S S' q v p0 k (bm + 1) bm vF) ∧ p = .int .i64 ((p0 + k : Nat) : Int)) (fun p _ => p1 + 1 - (intOf p).toNat)
  case atStart => exact ⟨0, cutS S w, .slice none 0 0, by omega, HI0, by go_num⟩
  case round =>
    obtain ⟨k, S', vF, hk, HI, rfl⟩ := hrel
    have HBM := hid hbm
    clear HI0 c0 c2 hbm
    obtain ⟨r, hr⟩ : ∃ r, r = p0 + k := ⟨_, rfl⟩
    rw [← hr]
    by_cases hlast : k = p1 + 1 - p0
    · have d3 : decide (r ≤ p1) = false := decide_eq_false (by omega)
      have HR := hid hr
      have HL := hid hlast
      clear hr hlast
      go_wp2
      go_ret
      obtain ⟨v', hg, hv'⟩ := HI.out.g
      have hus := hg.us
      have hle := used_le hg.ok.pl
      rw [hg.rm, hus] at hle
      rw [HL.out] at hg hle
      refine ⟨ret_int (by rw [HE.out, if_pos hle]), HI.out.t, v', ?_, hv'.mono HI.out.sub⟩
      rw [HF.out, if_pos hle]
      exact hg
    · have d3 : decide (r ≤ p1) = true := decide_eq_true (by omega)
      obtain ⟨v', hg, hv'⟩ := HI.out.g
      obtain ⟨A, c, rfl, hc1, hc2⟩ := own_shape HI.out.own
      unfold maxLen at hc2
      have hS := unmL_succ v p0 k
      rw [← hr] at hS
      have hrl : r < v.pt.length := by omega
      have hma := hg.ma r hrl
      have hFr : r ∉ unmL v p0 k := fun h => by have := (unmL_mem.1 h).1; omega
      have hl' := hg.len HV.out.ok
      have hpE : pgE v'.pt r = 0 := by unfold pgE; rw [if_pos ⟨by omega, by omega⟩]
      have km := HI.out.rm.cell (j := 0) rfl
      have hr2 : r ≤ 524288 := by omega
      have lbm := HI.out.rm.lt
      have lbs := HI.out.rs.lt
      have HVK := hid hv'
      have HGK := hid hg
      have HK := hid hk
      have HR := hid hr
      have HLA := hid hlast
      by_cases h0 : v.pt.getD r 0 = 0
      · rw [if_pos h0] at hS
        have h0' : v'.pt.getD r 0 = 0 := Decidable.not_not.1 (fun hn => (hma.1 hn).elim (fun h => h h0) hFr)
        by_cases hroom : v'.pl.used = v'.pl.rm
        · have HM : Hid (v'.mpE r = 14) := ⟨by
            unfold Vm.mpE
            rw [if_neg (by rw [hpE]; decide), Int.toNat_natCast, if_neg (by rw [h0']; decide), if_pos hroom]⟩
          have HE0 : Hid (¬ v.pl.used + (unmL v p0 (p1 + 1 - p0)).length ≤ v.pl.rm) := ⟨by
            have h1 := unmL_le v p0 (show k + 1 ≤ p1 + 1 - p0 by omega)
            rw [hS, List.length_append, List.length_singleton] at h1
            have h2 := hg.us
            have h3 := hg.rm
            omega⟩
          clear hS h0 h0' hroom hma hFr hl' hpE hg hv' hk hr hlast hrl
          go_wp2_with (first
            | (go_at_call 44; refine (vm_map HVK.out r).mono ?_; rintro e w1 ⟨rfl, ht1, hv1⟩; rw [HM.out]; have HT1 := hid ht1; have HV1 := hid hv1; clear ht1 hv1)
            | (go_at_call 41; have hv1 := HV1.out; rw [mp_none (by rw [HM.out]; decide)] at hv1; obtain ⟨-, i2, i3, i4, -, i6, i7, i8⟩ := HI.out.map HT1.out; refine (vm_undo HV.out.ok ⟨_, HGK.out, hv1⟩ i2 i8 (i3.cell (j := 0) rfl) (i4.cell (j := 0) rfl) i3.lt i4.lt i6 i7).mono ?_; rintro e w2 ⟨rfl, ht2, hg2⟩; have HT2 := hid ht2; have HG2 := hid hg2; clear ht2 hg2 hv1 i2 i3 i4 i6 i7 i8))
          go_ret
          obtain ⟨i1, i2, i3, i4, i5, i6, i7, i8⟩ := HI.out.map HT1.out
          have hz := HI.out.t.size
          have hz1 := HT1.out.size
          refine ⟨ret_int (by rw [HE.out, if_neg HE0.out]), i1.trans' HT2.out (fun i hi hs => (i5 i hs).resolve_right (by omega)), ?_⟩
          rw [HF.out, if_neg HE0.out]
          obtain ⟨v2, hg2, hv2⟩ := HG2.out
          refine ⟨v2, hg2, hv2.mono (fun k hk => ?_)⟩
          rcases hk with hk | hk
          · exact i5 k hk
          · exact .inr (by omega)
        · have HM : Hid (v'.mpE r = 0) := ⟨by
            unfold Vm.mpE
            rw [if_neg (by rw [hpE]; decide), Int.toNat_natCast, if_neg (by rw [h0']; decide), if_neg hroom]⟩
          have HGN := hid (hg.mp HV.out.ok HM.out)
          have HSU := hid hS
          have hFl : (unmL v p0 k).length ≤ 524288 := by
            have h1 := hg.us
            have h2 := hg.ok.us
            have h3 := nz_le v'.pt
            have h4 := hg.ok.pt.n2
            omega
          obtain ⟨N, hN⟩ : ∃ N, N = (unmL v p0 k).length := ⟨_, rfl⟩
          have HN := hid hN
          rw [← hN] at hc1 hFl
          clear hS h0 h0' hroom hma hFr hl' hpE hg hv' hk hr hlast hrl
          rw [← hN] at HI
          clear hN
          obtain ⟨ii, hii, hi0, hi1, hi2⟩ := info_parts infoInt'
          go_wp2_with (first
            | (go_at_call 44; refine (vm_map HVK.out r).mono ?_; rintro e w1 ⟨rfl, ht1, hv1⟩; rw [HM.out]; have HRS1 := hid (HI.out.rs.touch ht1 HI.out.ns); have ks := HRS1.out.cell (j := 0) rfl; have HT1 := hid ht1; have HV1 := hid hv1; have HO1 := hid (HI.out.map ht1).2.1; rw [← HN.out] at HO1; clear ht1 hv1)
            | (at_builtin; refine wpList_append_lies _ rfl _ _ 23 rfl 0 3 ii _ 1 8 Tryz.underlying23 hii hi0 hi1 hi2 rfl (by decide) (.slice A N c) N (i64s (unmL v p0 k)) rfl (HO1.out.alloc _) ⟨w1.heap.size, 0, none⟩ 1 1 [.int .i64 (r : Nat)] rfl rfl (World.news_of_block (cs := #[.int .i64 (r : Nat)]) (t := 3) (fr := (0, 0)) (heap_alloc_new w1 (.cells #[.int .i64 (r : Nat)] 3))) (by simp [Value.oneCell']) (by omega) (by unfold maxLen; omega) (by omega) (Nat.zero_le _) (w1.heap.size + 1) (by simp) ?_; intro g2 c2' w2 hown2 hgrow2 hat2 hlt2; have t2 : Touch (fun k => (Value.slice A N c).ownBlock = some k) w1 w2 := (((Gr.refl _).alloc _).touch _).trans (grown_touch hgrow2 _ (fun k e _ => e)); have HRS2 := hid (HRS1.out.touch t2 (fun e => own_ne HO1.out HRS1.out (by decide) e rfl rfl)); have ks2 := HRS2.out.cell (j := 0) rfl; have kf2 := HRS2.out.free 0; have HT2 := hid t2; have HO2 := hid hown2; have HA2 := hid (And.intro hat2 hlt2); clear hown2 hgrow2 hat2 hlt2 t2))
          have hI := HI.out
          have hN := HN.out
          obtain ⟨i1, i2, i3, i4, i5, i6, i7, i8⟩ := HI.out.map HT1.out
          have hz := HI.out.t.size
          have hz1 := HT1.out.size
          have hz2 := HT2.out.size
          have hat2 := HA2.out
          have hT12 : Touch S w w2 := i1.trans' HT2.out (fun i hi hs => by have := HI.out.lg i hs; omega)
          go_round
          case rel =>
            refine ⟨k + 1, cutS (plus S' wr) w1, .slice (some ⟨g2, 0, none⟩) (N + 1) c2', by have := HK.out; have := HLA.out; omega, ⟨?_⟩, by rw [HR.out]; go_num⟩
            refine ⟨hT12.setCell (a := ⟨bm + 1, 0, none⟩) (fun h => by have := HBM.out; have h : bm + 1 < w.heap.size := h; omega) _, ?_, ?_, ?_, ?_, fun i hi => i5 i hi.1, fun h => i6 h.1, fun h => i7 h.1, fun g hg => ?_, by have := HBM.out; omega, fun g hg => ?_⟩
            · refine ⟨_, by rw [HSU.out]; exact HGN.out, ((HV1.out.cut.touch HT2.out (fun i hi _ e => i8 i e hi.1)).touch ((Touch.refl (fun i => i = bm + 1) w2).setCell (a := ⟨bm + 1, 0, none⟩) (fun _ => rfl) _) (fun i hi _ e => by subst e; exact i6 hi.1))⟩
            · rw [HSU.out, List.length_append, List.length_singleton, ← HN.out, show i64s (unmL v p0 k ++ [r]) = i64s (unmL v p0 k) ++ [.int .i64 (r : Nat)] by unfold i64s; rw [List.map_append]; rfl]
              exact own_set_other HO2.out _ (fun g hg => own_ne HO2.out HRS2.out (by decide) hg rfl)
            · exact Rec.set HRS2.out 0 _
            · exact own_set_other (i4.touch HT2.out (fun e => own_ne HO1.out i4 (by decide) e rfl rfl)) _ (fun g hg => by cases hg; show bm ≠ bm + 1; omega)
            · intro hc
              cases hg
              rcases hat2.1 with h | h
              · exact i8 _ h hc.1
              · have : g2 < w1.heap.size := hc.2
                omega
            · cases hg
              rcases hat2.1 with h | h
              · exact HI.out.lg _ h
              · show w.heap.size ≤ g2
                omega
          case measure => have := HK.out; have := HLA.out; have := HR.out; simp [intOf]; omega
      · rw [if_neg h0] at hS
        have h0' : v'.pt.getD r 0 ≠ 0 := hma.2 (.inl h0)
        have HM : Hid (v'.mpE r = 13) := ⟨by
          unfold Vm.mpE
          rw [if_neg (by rw [hpE]; decide), Int.toNat_natCast, if_pos h0']⟩
        have HSU := hid hS
        clear hS h0 h0' hma hFr hl' hpE hg hv' hk hr hlast hrl
        go_wp2_with (go_at_call 44; refine (vm_map HVK.out r).mono ?_; rintro e w1 ⟨rfl, ht1, hv1⟩; rw [HM.out]; have HT1 := hid ht1; have HV1 := hid hv1; clear ht1 hv1)
        obtain ⟨i1, i2, i3, i4, i5, i6, i7, i8⟩ := HI.out.map HT1.out
        have hv1 := HV1.out
        rw [mp_none (by rw [HM.out]; decide)] at hv1
        go_round
        case rel =>
          refine ⟨k + 1, plus S' wr, _, by have := HK.out; have := HLA.out; omega, ⟨i1, ?_, ?_, i3, i4, i5, i6, i7, i8, HI.out.ls, HI.out.lg⟩, by rw [HR.out]; go_num⟩
          · rw [HSU.out]; exact ⟨_, HGK.out, hv1⟩
          · rw [HSU.out]; exact i2
        case measure => have := HK.out; have := HLA.out; have := HR.out; simp [intOf]; omega
end
end Go.Proofs.YtlkifhoedfjlaaaGreatDoor
