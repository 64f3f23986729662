/- Package copying: Run. -/
import Derived.Test.YtbmidhlilafgeaaGreatDoorCpRunP
import Derived.Test.YtbmidhlilafgeaaGreatDoorKM3
namespace Go.Proofs.YtbmidhlilafgeaaGreatDoor
open Go.RowKit Word

/-- While roots are turned. -/
def CpJ (w3 : World) (S3 : Nat → Prop) (K M q g : Nat) (v : Vm) (rs : List Int) (L : List Ob) (to : Nat) (i : Nat) (W : World) (out : List Int) : Prop :=
  ∃ O v' Si, (∀ b, Si b → plus S3 w3 b) ∧ CpyAt W Si K M q v to O v' ∧ CpS v rs L to O 0 0 v' ∧ O = addsC [] (rs.take i) ∧ out = (rs.take i).map (fun a => wentC v O to a) ∧ Touch (fun b => b = g ∨ (b = K ∨ b = M) ∨ S3 b) w3 W
structure CpL (w3 wr : World) (S3 Si : Nat → Prop) (K M q r g : Nat) (v : Vm) (rs out : List Int) (L : List Ob) (to k : Nat) (v' : Vm) : Prop where
  sub : ∀ b, Si b → plus S3 w3 b
  cat : CpyAt wr Si K M q v to (ordC v rs k) v'
  st : CpS v rs L to (ordC v rs k) k 0 v'
  oe : out = rs.map (fun a => wentC v (ordC v rs k) to a)
  t : Touch (fun b => b = g ∨ (b = K ∨ b = M) ∨ S3 b) w3 wr
  rt : RtAt wr r g out
def CpEnd (w : World) (S : Nat → Prop) (q r g : Nat) (v : Vm) (rs : List Int) (c : Cf) (e : Ending) (w' : World) : Prop :=
  ∃ L, Marks v rs v.n L ∧ Touch (fun b => b = g ∨ S b) w w' ∧
    ((needE v c.to ((c.to + sizes L : Nat) : Int) ≠ 0 ∧ e = .returned (.tuple #[.int .i64 0, .int .i64 (needE v c.to ((c.to + sizes L : Nat) : Int))]) ∧ GrownAt w' (plus S w) q v [] ∧ RtAt w' r g rs) ∨
     (needE v c.to ((c.to + sizes L : Nat) : Int) = 0 ∧ e = .returned (.tuple #[.int .i64 ((c.to + sizes L : Nat) : Int), .int .i64 0]) ∧
      ∃ v1 v2 k kq, CpDone v rs c L v1 v2 k kq ∧ VmAt w' (plus S w) q (umN v2 (c.fr / v.pl.pg) kq) ∧ RtAt w' r g (rs.map (fun a => wentC v1 (ordC v1 rs k) c.to a))))
theorem CpyAt.touch {S T : Nat → Prop} {w w' : World} {K M q : Nat} {v v' : Vm} {to : Nat} {O : List Int} (h : CpyAt w S K M q v to O v') (t : Touch T w w') (hK : ¬ T K) (hM : ¬ T M) (hS : ∀ b, S b → b < w.heap.size → ¬ T b) : CpyAt w' S K M q v to O v' :=
  ⟨h.rc.touch t hK, h.mp.touch t hM, h.vm.touch t hS, h.nK, h.nM⟩
/-- Copying's own blocks, told apart from the roots'. -/
structure CpSep (w3 : World) (S3 : Nat → Prop) (K M r g : Nat) : Prop where
  r3 : r < w3.heap.size
  g3 : g < w3.heap.size
  rK : r ≠ K
  rM : r ≠ M
  gK : g ≠ K
  gM : g ≠ M
  rS : ¬ S3 r
  gS : ¬ S3 g
/-- While pages are let go. -/
structure UmI (w3 wx : World) (S3 : Nat → Prop) (K M q r g : Nat) (v : Vm) (out : List Int) (tt q0 j pg tp : Nat) : Prop where
  t : Touch (fun b => b = g ∨ (b = K ∨ b = M) ∨ S3 b) w3 wx
  vm : ∃ Sj, (∀ b, Sj b → plus S3 w3 b) ∧ VmAt wx Sj q (umN v q0 j) ∧ ¬ Sj K
  rc : Rec wx K 106 [.pointer (some ⟨q, 0, none⟩), .map (some M), .int .i64 tt]
  rt : RtAt wx r g out
  q1 : ∀ i, i < j → (q0 + i) * pg < tp
theorem UmI.gr {w3 wx w' : World} {S3 : Nat → Prop} {K M q r g : Nat} {v : Vm} {out : List Int} {tt q0 j pg tp : Nat} (h : UmI w3 wx S3 K M q r g v out tt q0 j pg tp) (g' : Gr wx w') : UmI w3 w' S3 K M q r g v out tt q0 j pg tp := by
  obtain ⟨h1, ⟨Sj, h2, h3, h4⟩, h5, h6, h7⟩ := h
  exact ⟨h1.trans (g'.touch _), ⟨Sj, h2, h3.gr g', h4⟩, h5.gr g', h6.gr g', h7⟩
section
variable {w3 : World} {S3 : Nat → Prop} {K M q r g to : Nat} {v1 : Vm} {rs : List Int} {L : List Ob}
/-- The roots, turned. -/
theorem cp_turns (hcat : CpyAt w3 S3 K M q v1 to [] v1) (cx : CopyCtx v1 rs L to) (fo : FullOb v1 L) (hR : RtAt w3 r g rs) (hrs : ∀ a ∈ rs, 0 ≤ a ∧ a ≤ 2147483647) (sp : CpSep w3 S3 K M r g) :
    Calls Tryz.prog 68 #[.pointer (some ⟨r, 0, none⟩), .func (.func 69) #[.pointer (some ⟨K, 0, none⟩)] #[]] w3 fun e w' => e = .returned (.tuple #[]) ∧ ∃ out v' Si, CpL w3 w' S3 Si K M q r g v1 rs out L to 0 v' := by
  have h0 : CpJ w3 S3 K M q g v1 rs L to 0 w3 [] := ⟨[], v1, S3, fun b h => .inl h, hcat, ⟨List.nodup_nil, (fun _ h => by cases h), Cpd.nil cx.ok to, (fun j hj => absurd hj (Nat.not_lt_zero _)), .inr ⟨rfl, rfl⟩⟩, rfl, rfl, Touch.refl _ _⟩
  refine (rt_turn (F := 69) (pre := #[.pointer (some ⟨K, 0, none⟩)]) (caps := #[]) (CpJ w3 S3 K M q g v1 rs L to) (fun _ _ => by kernel_rfl) hR h0 ?_ ?_).mono ?_
  · rintro i hi W out ho ⟨O, v', Si, h1, h2, h3, h4, h5, h6⟩ hz
    refine ⟨O, v', Si, h1, h2, h3, ?_, ?_, h6⟩
    · rw [take_snoc hi, addsC_snoc, ← h4, hz]; exact (if_pos (.inl rfl)).symm
    · rw [take_snoc hi, List.map_append, ← h5, hz]
      show out ++ [0] = out ++ [wentC v1 O to 0]
      rw [wentC_none v1 _ (h3.zero cx)]
  · rintro i hi W out ho ⟨O, v', Si, h1, h2, h3, h4, h5, h6⟩ hrt hne W0 hg0
    obtain ⟨q1, q2⟩ := hrs _ (List.getElem_mem hi)
    obtain ⟨a, ha⟩ : ∃ a : Nat, (a : Int) = rs[i] := ⟨rs[i].toNat, by omega⟩
    have hr : Rch v1 rs a := by rw [ha]; exact Rch.root (List.getElem_mem hi) hne
    have hcall := cpy_take (h2.gr hg0) cx fo h3 (a := a) (.inr hr) (by omega)
    rw [ha] at hcall
    refine hcall.mono ?_
    rintro e W' ⟨v'', rfl, ht, hc', hs'⟩
    have hzW := h6.size
    have hz0 := hg0.size
    have hz' := ht.size
    have hno : ∀ b, b < w3.heap.size → ¬ S3 b → ¬ Si b := fun b hb hn h => (h1 b h).elim hn (fun h => by omega)
    have ham : (a : Int) ∈ addC O a := mem_addC.2 (.inr ⟨rfl, by omega⟩)
    have hb0 : 0 ≤ wentC v1 (addC O (a : Int)) to a := by have := (wentC_in v1 (to : Int) ham).1; omega
    rw [← ha] at hs' hc' ⊢
    refine ⟨_, rfl, (hrt.gr hg0).touch ht (fun h => ?_) (fun h => ?_), fun W'' t'' => ⟨addC O a, v'', plus Si W0, fun b hb => ?_, hc'.touch t'' (Ne.symm sp.gK) (Ne.symm sp.gM) (fun b hb _ e => ?_), hs', ?_, ?_, ?_⟩⟩
    · rcases h with (h | h) | h
      · exact sp.rK h
      · exact sp.rM h
      · exact hno _ sp.r3 sp.rS h
    · rcases h with (h | h) | h
      · exact sp.gK h
      · exact sp.gM h
      · exact hno _ sp.g3 sp.gS h
    · rcases hb with h | h
      · exact h1 b h
      · right; omega
    · subst e
      rcases hb with h | h
      · exact hno _ sp.g3 sp.gS h
      · have := sp.g3; omega
    · rw [take_snoc hi, addsC_snoc, ← h4, ← ha]
    · obtain ⟨X, hX⟩ := addC_ext O (a : Int)
      rw [take_snoc hi, List.map_append, ← ha, Int.max_eq_left hb0]
      show out ++ [_] = _ ++ [_]
      congr 1
      rw [h5]
      have hl : ∀ b ∈ rs.take i, b = 0 ∨ b ∈ O := fun b hb => by
        by_cases h0 : b = 0
        · exact .inl h0
        · right; rw [h4]; exact mem_addsC.2 (.inr ⟨hb, h0⟩)
      rw [hX]
      exact (wentC_all cx (by rw [← hX]; exact hs'.rch) hl).symm
    · refine ((h6.trans (hg0.touch _)).trans' ht (fun b hb h => ?_)).trans (t''.mono (fun b _ h => .inl h))
      rcases h with h | h
      · exact .inr (.inl h)
      · exact (h1 b h).elim (fun h => .inr (.inr h)) (fun h => by omega)
  · rintro e w' ⟨rfl, out, -, ⟨O, v', Si, h1, h2, h3, h4, h5, h6⟩, hrt⟩
    rw [List.take_length] at h4 h5
    have hO : O = ordC v1 rs 0 := h4
    subst hO
    exact ⟨rfl, out, v', Si, h1, h2, h3, h5, h6, hrt⟩
end
section
variable {w : World} {S : Nat → Prop} {q r g : Nat} {v : Vm} {rs : List Int} {c : Cf}
set_option maxRecDepth 100000 in
set_option maxHeartbeats 6400000 in
theorem cp_run (hV : VmAt w S q v) (hR : RtAt w r g rs) (hT : TabAt w) (htS : ¬ S 0) (hrS : ¬ S r) (hgS : ¬ S g) (hc : CpOk v rs c) (hm : ∀ a : Nat, c.fr ≤ a → a < c.tp → v.ldE a = 0) (hrs : ∀ a ∈ rs, 0 ≤ a ∧ a ≤ 2147483647) :
    Calls Tryz.prog 17 #[.pointer (some ⟨q, 0, none⟩), .pointer (some ⟨r, 0, none⟩), cfV c] w (CpEnd w S q r g v rs c) := by
  have HV := hid hV.cut
  have HR := hid hR
  have HT := hid hT
  have HNO := hid (And.intro htS (And.intro hrS hgS))
  have HC := hid hc
  have HM := hid hm
  have HRS := hid hrs
  have hcf := hc.cf
  have hpg := hV.ok.page
  have hok := hV.ok
  have hn2 := hV.ok.n2
  have htl := hT.lt
  have hrl := hR.lt
  have hto := hcf.to
  have hlm := hcf.ln
  have hfr := hcf.fr
  have HG1 := hid ((Gr.refl w).alloc (.cells #[.int .i64 c.fr, .int .i64 c.tp, .int .i64 c.to, .int .i64 c.lm, .int .i64 c.bk, .int .i64 c.st, .int .i64 c.ah] 34))
  have rb := Rec.new w 34 [.int .i64 c.fr, .int .i64 c.tp, .int .i64 c.to, .int .i64 c.lm, .int .i64 c.bk, .int .i64 c.st, .int .i64 c.ah]
  obtain ⟨W0, hW0⟩ : ∃ W0, W0 = w.alloc (.cells #[.int .i64 c.fr, .int .i64 c.tp, .int .i64 c.to, .int .i64 c.lm, .int .i64 c.bk, .int .i64 c.st, .int .i64 c.ah] 34) := ⟨_, rfl⟩
  have hsz0 : W0.heap.size = w.heap.size + 1 := by rw [hW0, World.size_alloc]
  rw [← hW0] at HG1
  rw [show w.alloc (.cells ([.int .i64 c.fr, .int .i64 c.tp, .int .i64 c.to, .int .i64 c.lm, .int .i64 c.bk, .int .i64 c.st, .int .i64 c.ah] : List Value).toArray 34) = W0 from hW0.symm] at rb
  have HRB := hid rb
  have HSD := hid (cp_sound (HV.out.gr HG1.out) (HR.out.gr HG1.out) (HG1.out.tab htl HT.out) (fun h => htS h.1) hc)
  have z0 := rb.cell (j := 0) rfl
  have z1 := rb.cell (j := 1) rfl
  have z2 := rb.cell (j := 2) rfl
  have z3 := rb.cell (j := 3) rfl
  have z4 := rb.cell (j := 4) rfl
  have z5 := rb.cell (j := 5) rfl
  have z6 := rb.cell (j := 6) rfl
  have zl := rb.lt
  have HCF := hid hcf
  have HOK := hid hok
  unfold cfV at HSD ⊢
  clear hV hR hT htS hrS hgS hc hm hrs rb hcf hok
  go_enter Tryz.func17, Tryz.ntmps17
  go_upto_region 1 with (fail)
  rw [← hW0]
  clear hW0
  go_upto_region 4 with (go_at_call 67; refine HSD.out.mono ?_; rintro e w1 ⟨L, hM, rfl, ht1, hv1⟩; have HMK := hid hM; have HT1 := hid ht1; have HV1 := hid hv1; have HB1 := hid (HRB.out.touch ht1 (fun h => by have := h.2; omega)); have HR1 := hid ((HR.out.gr HG1.out).touch ht1 (fun h => HNO.out.2.1 h.1) (fun h => HNO.out.2.2 h.1)); have y0 := HB1.out.cell (j := 0) rfl; have y1 := HB1.out.cell (j := 1) rfl; have y2 := HB1.out.cell (j := 2) rfl; have yl := HB1.out.lt; clear hM ht1 hv1)
  obtain ⟨hin, htot⟩ := HC.out.inn L HMK.out
  obtain ⟨nn, hnn⟩ : ∃ nn, nn = sizes L := ⟨_, rfl⟩
  have HNN := hid hnn
  rw [← hnn] at htot ⊢
  have hcast : (c.to : Int) + (nn : Int) = ((c.to + nn : Nat) : Int) := by push_cast; rfl
  have HND : Hid (Calls Tryz.prog 59 #[.pointer (some ⟨q, 0, none⟩), .int .i64 c.to, .int .i64 ((c.to : Int) + (nn : Int))] w1 fun e w' => e = .returned (.int .i64 (needE v c.to ((c.to + nn : Nat) : Int))) ∧ Touch (cutS S w) w1 w' ∧ GrownAt w' (plus (cutS S w) w1) q v (needF v c.to ((c.to + nn : Nat) : Int))) := ⟨by
    rw [hcast]
    by_cases h0 : nn = 0
    · subst h0
      have hq := need_none (v := v) (f := c.to) (by omega)
      rw [Nat.add_zero, hq.1, hq.2]
      refine (vm_need_none HV1.out c.to c.to (by omega) (Nat.le_refl _)).mono ?_
      rintro e w' ⟨rfl, hg⟩
      exact ⟨rfl, hg.touch _, v, Grown.refl HOK.out, (HV1.out.gr hg).mono (fun b hb => .inl hb.1)⟩
    · refine (vm_need HV1.out c.to (c.to + nn) (by omega) (by omega)).mono ?_
      rintro e w' ⟨rfl, ht, v', hg, hv⟩
      exact ⟨rfl, ht.mono (fun b _ hb => hb.1), v', hg, hv.mono (fun b hb => hb.imp (fun h => h.1) id)⟩⟩
  clear z0 z1 z2 z3 z4 z5 z6 zl hnn hcast
  obtain ⟨E, hE⟩ : ∃ E, E = needE v c.to ((c.to + nn : Nat) : Int) := ⟨_, rfl⟩
  have HE := hid hE
  rw [← hE] at HND
  clear hE
  by_cases hE0 : E = 0
  · subst hE0
    have hmk := @run_makeMap Tryz.prog
    have hmf : ∀ (fn : Fn) (first cap : Array Value) (w : World), (Instr.makeFunc fn first cap).run Tryz.prog w = .ok (.func fn first cap) w := fun _ _ _ _ => rfl
    go_upto_region 8 with (go_at_call 59; refine HND.out.mono ?_; rintro e w2 ⟨rfl, ht2, hg2⟩; have HT2 := hid ht2; have HG2 := hid hg2; have HB2 := hid (HB1.out.touch ht2 (fun h => by have := h.2; omega)); have HR2 := hid (HR1.out.touch ht2 (fun h => HNO.out.2.1 h.1) (fun h => HNO.out.2.2 h.1)); have x2 := HB2.out.cell (j := 2) rfl; have xl := HB2.out.lt; clear ht2 hg2)
    obtain ⟨v1, hg1, hv1⟩ := HG2.out
    rw [HNN.out] at hg1
    have hE := HE.out
    rw [HNN.out] at hE
    obtain ⟨cx, fo⟩ := cp_ctx HOK.out HC.out HMK.out hE.symm hg1 HM.out
    have hz1 := HT1.out.size
    have hz2 := HT2.out.size
    have hS3 : ∀ b, cutS (plus (cutS S w) w1) w2 b → plus S w b ∧ b < w2.heap.size := fun b hb => ⟨hb.1.elim (fun h => .inl h.1) (fun h => .inr (by omega)), hb.2⟩
    have hrec := new2 w2 (.map #[] 0) 106 [.pointer (some ⟨q, 0, none⟩), .map (some w2.heap.size), .int .i64 c.to]
    have hg3 : Gr w2 ((w2.alloc (.map #[] 0)).alloc (.cells #[.pointer (some ⟨q, 0, none⟩), .map (some w2.heap.size), .int .i64 c.to] 106)) := ((Gr.refl w2).alloc _).alloc _
    have hmap := (MapI.made (P := Tryz.prog) (K := 3) w2).gr ((Gr.refl _).alloc (.cells #[.pointer (some ⟨q, 0, none⟩), .map (some w2.heap.size), .int .i64 c.to] 106))
    obtain ⟨M, hM⟩ : ∃ M, M = w2.heap.size := ⟨_, rfl⟩
    obtain ⟨W3, hW3⟩ : ∃ W3, W3 = ((w2.alloc (.map #[] 0)).alloc (.cells #[.pointer (some ⟨q, 0, none⟩), .map (some w2.heap.size), .int .i64 c.to] 106)) := ⟨_, rfl⟩
    have hsz3 : W3.heap.size = M + 2 := by rw [hW3, World.size_alloc, World.size_alloc, hM]
    have hMw : w.heap.size < M := by rw [hM]; exact HB2.out.lt
    have hMw2 : M ≤ w2.heap.size ∧ w2.heap.size ≤ M := by omega
    rw [show (w2.alloc (.map #[] 0)).alloc (.cells ([.pointer (some ⟨q, 0, none⟩), .map (some w2.heap.size), .int .i64 c.to] : List Value).toArray 106) = W3 from hW3.symm] at hrec
    rw [← hW3] at hg3 hmap ⊢
    rw [← hM] at hrec hmap hS3 ⊢
    have hr1 := HR1.out.lt
    have hr2 := HR2.out.lt
    have hcat : CpyAt W3 (cutS (plus (cutS S w) w1) w2) (M + 1) M q v1 c.to [] v1 := ⟨by simpa [sumC] using hrec, hmap.congr (fun y => by simp [wentM]), hv1.cut.gr hg3, fun h => by have := (hS3 _ h).2; omega, fun h => by have := (hS3 _ h).2; omega⟩
    have hsp : CpSep W3 (cutS (plus (cutS S w) w1) w2) (M + 1) M r g := ⟨by omega, by omega, by omega, by omega, by omega, by omega, fun h => (hS3 _ h).1.elim HNO.out.2.1 (fun h => by omega), fun h => (hS3 _ h).1.elim HNO.out.2.2 (fun h => by omega)⟩
    have HTU := hid (cp_turns hcat cx fo (HR2.out.gr hg3) HRS.out hsp)
    have HCX := hid (And.intro cx fo)
    have HG3 := hid hg3
    have HGR := hid hg1
    have HS3 := hid hS3
    have HSP := hid hsp
    have x0' := (HB2.out.gr hg3).cell (j := 2) rfl
    have xl' := (HB2.out.gr hg3).lt
    clear hg1 hv1 cx fo hW3 hM hg3 hmap hrec hcat hsp hS3 x2 xl y0 y1 y2 yl hE
    go_upto_region 9 with (go_at_call 68; refine HTU.out.mono ?_; rintro e w4 ⟨rfl, out, v', Si, hL⟩; have HL := hid hL; clear hL)
    have HBX : Hid (∀ W' S', Touch (fun b => b = g ∨ (b = M + 1 ∨ b = M) ∨ cutS (plus (cutS S w) w1) w2 b) W3 W' → Gr W' S' → Rec S' w.heap.size 34 [.int .i64 c.fr, .int .i64 c.tp, .int .i64 c.to, .int .i64 c.lm, .int .i64 c.bk, .int .i64 c.st, .int .i64 c.ah]) := ⟨fun W' S' t g' => ((HB2.out.gr HG3.out).touch t (fun h => by
      have h2 := HB2.out.lt
      have h3 := HG3.out.size
      rcases h with h | h | h
      · omega
      · omega
      · rcases h.1 with h | h
        · have := h.2; omega
        · omega)).gr g'⟩
    have hbx := HBX.out _ _ HL.out.t (Gr.refl _)
    have u2 := hbx.cell (j := 2) rfl
    have ul := hbx.lt
    clear hbx x0' xl' hmk
    go_wp2
    go_loopw [12] (fun s12 wr => ∃ (k : Nat) (v' : Vm) (Si : Nat → Prop), Hid (CpL W3 wr (cutS (plus (cutS S w) w1) w2) Si (M + 1) M q r g v1 rs out L c.to k v') ∧ s12 = .int .i64 ((c.to : Int) + sumC v1 ((ordC v1 rs k).take k))) (fun s12 _ => ((c.to : Int) + sizes L + 1 - intOf s12).toNat)
    case atStart => exact ⟨0, v', Si, HL, by simp [sumC]⟩
    case round =>
      obtain ⟨k, v'', Si', HLk, rfl⟩ := hrel
      obtain ⟨cx, fo⟩ := HCX.out
      have hlt := HLk.out.st.lt
      have c2 := HLk.out.cat.rc.cell (j := 2) rfl
      have hsum := cx.sum HLk.out.st.nd HLk.out.st.rch
      have hs0 := sumC_nonneg v1 ((ordC v1 rs k).take k)
      have hs1 := sumC_take_all v1 (ordC v1 rs k) k
      have hctop := cx.top
      have hvn : v1.n = v.n := HGR.out.n
      clear u2 ul
      by_cases hk : k < (ordC v1 rs k).length
      · have hosz := (osz_pos (cx.mks.sound.rd _ (HLk.out.st.rch _ (List.getElem_mem hk)))).2.1
        have htk := sumC_take v1 hk
        have hs2 := sumC_take_all v1 (ordC v1 rs k) (k + 1)
        have HTN := hid (cpy_turn HLk.out.cat cx fo HLk.out.st hk)
        have HK := hid hk
        have HTK : Hid (sumC v1 ((ordC v1 rs k).take k) + 1 ≤ sumC v1 ((ordC v1 rs k).take (k + 1))) := ⟨by omega⟩
        obtain ⟨aa, haa⟩ : ∃ aa : Nat, (aa : Int) = c.to + sumC v1 ((ordC v1 rs k).take k) := ⟨((c.to : Int) + sumC v1 ((ordC v1 rs k).take k)).toNat, by omega⟩
        obtain ⟨tt, htt⟩ : ∃ tt : Nat, (tt : Int) = c.to + sumC v1 (ordC v1 rs k) := ⟨((c.to : Int) + sumC v1 (ordC v1 rs k)).toNat, by omega⟩
        have HAA := hid haa
        rw [← haa] at HTN ⊢
        rw [← htt] at c2
        have e0 : decide ((aa : Int) < (tt : Int)) = true := decide_eq_true (by omega)
        have e1 : decide (aa < tt) = true := decide_eq_true (by omega)
        have HB := hid (And.intro hs2 hsum)
        clear hk hosz htk hs2 haa htt cx fo hlt hsum hs0 hs1 hctop hvn
        go_wp2_with (go_at_call 70; refine HTN.out.mono ?_; rintro e w5 ⟨v3, rfl, ht5, hc5, hs5⟩; have HT5 := hid ht5; have HC5 := hid hc5; have HS5 := hid hs5; clear ht5 hc5 hs5)
        go_round
        case rel =>
          have hnx := ord_next HK.out
          refine ⟨k + 1, v3, plus Si' wr, ⟨⟨fun b hb => ?_, by rw [hnx]; exact HC5.out, by rw [hnx]; exact HS5.out, ?_, ?_, ?_⟩⟩, ?_⟩
          · have := HLk.out.t.size
            rcases hb with h | h
            · exact HLk.out.sub b h
            · right; omega
          · rw [HLk.out.oe]
            obtain ⟨X, hX⟩ := ordC_ext v1 rs k
            have hrch : ∀ a ∈ ordC v1 rs k ++ X, Rch v1 rs a := fun a ha => rch_ord HCX.out.1 (k + 1) a (by rw [hX]; exact ha)
            rw [hX]
            exact (wentC_all HCX.out.1 hrch (fun a ha => by
              by_cases h0 : a = 0
              · exact .inl h0
              · exact .inr (ordC_roots v1 rs k a ha h0))).symm
          · refine HLk.out.t.trans' HT5.out (fun b hb h => ?_)
            rcases h with h | h
            · exact .inr (.inl h)
            · exact (HLk.out.sub b h).elim (fun h => .inr (.inr h)) (fun h => by omega)
          · refine HLk.out.rt.touch HT5.out (fun h => ?_) (fun h => ?_)
            · rcases h with (h | h) | h
              · exact HSP.out.rK h
              · exact HSP.out.rM h
              · exact (HLk.out.sub _ h).elim HSP.out.rS (fun h => by have := HSP.out.r3; omega)
            · rcases h with (h | h) | h
              · exact HSP.out.gK h
              · exact HSP.out.gM h
              · exact (HLk.out.sub _ h).elim HSP.out.gS (fun h => by have := HSP.out.g3; omega)
          · rw [ord_take v1 rs k (by have := HK.out; omega)]
        case measure =>
          have h1 := HTK.out
          have h2 := HB.out
          have h3 := HAA.out
          simp only [intOf]
          omega
      · have hke : k = (ordC v1 rs k).length := by
          rcases hlt with h | h
          · exact absurd h hk
          · exact h.1
        have hdn := (cx.done hke).2
        rw [List.take_of_length_le (Nat.le_of_eq hke.symm)]
        obtain ⟨tt, htt⟩ : ∃ tt : Nat, (tt : Int) = c.to + sumC v1 (ordC v1 rs k) := ⟨((c.to : Int) + sumC v1 (ordC v1 rs k)).toNat, by omega⟩
        have htn : tt = c.to + sizes L := by omega
        rw [← htt] at c2 ⊢
        have e0 : decide ((tt : Int) < (tt : Int)) = false := decide_eq_false (by omega)
        have hpgv : v''.pl.pg = v.pl.pg := HLk.out.st.cp.sm.pg.trans HGR.out.pg
        have HVP := hid (fun (W : World) (g' : Gr wr W) => vm_page (HLk.out.cat.vm.gr g'))
        rw [hpgv] at HVP
        have HDN := hid (And.intro hke (And.intro hdn htn))
        have HRC : Hid (Rec wr (M + 1) 106 [.pointer (some ⟨q, 0, none⟩), .map (some M), .int .i64 tt]) := ⟨by have := HLk.out.cat.rc; rw [← htt] at this; exact this⟩
        obtain ⟨pg, hpge⟩ : ∃ pg, pg = v.pl.pg := ⟨_, rfl⟩
        have HPGE := hid hpge
        have haf := HCF.out.af
        have htp := HCF.out.tp
        have htpn := HCF.out.tn
        rw [← hpge] at HVP hpg haf hfr
        obtain ⟨q0, hq0⟩ : ∃ q0, q0 = c.fr / pg := ⟨_, rfl⟩
        have hq0m : q0 * pg = c.fr := by
          have := Nat.div_add_mod c.fr pg
          rw [haf, Nat.mul_comm] at this
          rw [hq0]; omega
        have HQ0 := hid hq0
        have g1 : ((c.fr : Int).tdiv (pg : Int)) = (q0 : Int) := by rw [hq0]; rfl
        have g2 : ((c.fr : Int) / (pg : Int)) = (q0 : Int) := by rw [hq0]; rfl
        have hpg0 : (pg : Int) ≠ 0 := by omega
        have hq0n : q0 ≤ 524288 := by have := Nat.div_le_self c.fr pg; omega
        have HQM := hid hq0m
        have hbx := HBX.out _ _ HLk.out.t (Gr.refl _)
        have u0 := hbx.cell (j := 0) rfl
        have u1 := hbx.cell (j := 1) rfl
        have ul := hbx.lt
        have HUM : Hid (UmI W3 wr (cutS (plus (cutS S w) w1) w2) (M + 1) M q r g v'' out tt q0 0 pg c.tp) := ⟨HLk.out.t, ⟨Si', HLk.out.sub, HLk.out.cat.vm, HLk.out.cat.nK⟩, HRC.out, HLk.out.rt, fun i hi => absurd hi (Nat.not_lt_zero _)⟩
        have HHK := hid hk
        have HPV : Hid (v''.pl.pg = pg) := ⟨by rw [hpgv, hpge]⟩
        clear hbx cx fo hlt hsum hs0 hs1 hctop hvn hk hke hdn htt htn hpge hq0 hpgv hq0m hin htot
        go_upto_region 12 with (fail)
        obtain ⟨Sx, hSx⟩ : ∃ Sx : World → Prop, Sx = fun W' => W'.cell? ⟨w.heap.size, 0, none⟩ = some (.int .i64 c.fr) := ⟨_, rfl⟩
        have x1 : ∀ p' : Held Sx, p'.w.cell? ⟨w.heap.size, 0, none⟩ = some (.int .i64 c.fr) := fun p => Held.get hSx p
        have hS0 : Sx wr.drew := by rw [hSx]; exact u0
        have HSX := hid hSx
        have inst : Inhabited (Held Sx) := ⟨⟨_, hS0⟩⟩
        clear hSx
        refine wp_region_mixS Sx 6 [([0, 1, 2], 3)] [4, 5] (by kernel_rfl) (by kernel_rfl) hS0 ?_
        refine segs_step ?_
        simp only [opsAt, List.getElem?_cons_zero, List.getElem?_cons_succ]
        repeat (go_big_quiet_step (fail))
        refine wpQuiet_nil ?_
        go_wp2_with (go_at_call 71; refine (HVP.out _ (Gr.refl wr).drew).mono ?_; rintro e w5 ⟨rfl, rfl⟩)
        refine ⟨.inr (Held.of hS0), ?_⟩
        refine segs_end ?_
        simp only [opsAt, List.getElem?_cons_zero, List.getElem?_cons_succ]
        repeat (go_big_quiet_step (fail))
        refine wpQuiet_nil ?_
        refine NoPanic.normal ?_
        clear x1 hS0 inst
        clear HSX Sx
        go_wp2
        go_loopw [13] (fun s13 wx => ∃ j : Nat, Hid (UmI W3 wx (cutS (plus (cutS S w) w1) w2) (M + 1) M q r g v'' out tt q0 j pg c.tp) ∧ s13 = .int .i64 ((q0 + j : Nat) : Int)) (fun s13 _ => c.tp - (intOf s13).toNat * pg)
        case atStart => exact ⟨0, ⟨HUM.out.gr (Gr.refl wr).drew⟩, rfl⟩
        case round =>
          obtain ⟨j, HU, rfl⟩ := hrel
          clear u0 u1 ul c2
          obtain ⟨Sj, hsj, hvj, hnk⟩ := HU.out.vm
          have hbx := HBX.out _ _ HU.out.t (Gr.refl _)
          have u1 := hbx.cell (j := 1) rfl
          have hVP := vm_page (hvj.gr (Gr.refl wr).drew)
          rw [(umN_same v'' q0 j).2.1, HPV.out] at hVP
          have HVP2 := hid hVP
          have HVJ := hid hvj
          have HSJ := hid (And.intro hsj hnk)
          obtain ⟨qq, hqq⟩ : ∃ qq, qq = q0 + j := ⟨_, rfl⟩
          obtain ⟨pp, hpp⟩ : ∃ pp, pp = qq * pg := ⟨_, rfl⟩
          have hppb : pp ≤ 1048576 := by
            rcases Nat.eq_zero_or_pos j with h0 | h0
            · rw [hpp, hqq, h0, Nat.add_zero, HQM.out]; omega
            · have := HU.out.q1 (j - 1) (by omega)
              have e : pp = (q0 + (j - 1)) * pg + pg := by rw [hpp, hqq, show q0 + j = (q0 + (j - 1)) + 1 by omega, Nat.add_mul, Nat.one_mul]
              omega
          have hqb : qq ≤ pp := by rw [hpp]; exact Nat.le_mul_of_pos_right _ (by omega)
          have hmul : ((qq : Int) * (pg : Int)) = (pp : Int) := by rw [hpp]; push_cast; rfl
          have HQQ := hid (And.intro hqq hpp)
          rw [← hqq]
          clear hbx hVP hvj hsj hnk hqq hpp
          by_cases hlt : pp < c.tp
          · have e1 : decide ((pp : Int) < (c.tp : Int)) = true := decide_eq_true (by omega)
            have e2 : decide (pp < c.tp) = true := decide_eq_true hlt
            have HLT := hid hlt
            have HUN := hid (fun (W : World) (g' : Gr wr W) => vm_unmap (HVJ.out.gr g') (qq : Int))
            clear hlt
            go_upto_region 13 with (fail)
            obtain ⟨Sx, hSx⟩ : ∃ Sx : World → Prop, Sx = fun W' => W'.cell? ⟨w.heap.size, 1, none⟩ = some (.int .i64 c.tp) := ⟨_, rfl⟩
            have x1 : ∀ p' : Held Sx, p'.w.cell? ⟨w.heap.size, 1, none⟩ = some (.int .i64 c.tp) := fun p => Held.get hSx p
            have hS0 : Sx wr.drew := by rw [hSx]; exact u1
            have inst : Inhabited (Held Sx) := ⟨⟨_, hS0⟩⟩
            clear hSx
            refine wp_region_mixS Sx 7 [([0, 1, 4, 5], 2)] [3, 6] (by kernel_rfl) (by kernel_rfl) hS0 ?_
            refine segs_step ?_
            simp only [opsAt, List.getElem?_cons_zero, List.getElem?_cons_succ]
            repeat (go_big_quiet_step (fail))
            refine wpQuiet_nil ?_
            go_wp2_with (go_at_call 71; refine HVP2.out.mono ?_; rintro e w5 ⟨rfl, rfl⟩)
            refine ⟨.inr (Held.of hS0), ?_⟩
            refine segs_end ?_
            simp only [opsAt, List.getElem?_cons_zero, List.getElem?_cons_succ]
            repeat (go_big_quiet_step (fail))
            refine wpQuiet_nil ?_
            refine NoPanic.normal ?_
            clear x1 hS0 inst
            clear Sx
            go_wp2_with (go_at_call 72; refine (HUN.out _ (Gr.refl wr).drew).mono ?_; rintro e w5 ⟨rfl, ht5, hv5⟩; have HT5 := hid ht5; have HV5 := hid hv5; clear ht5 hv5)
            go_round
            case rel =>
              have hzx := HU.out.t.size
              refine ⟨j + 1, ⟨⟨?_, ⟨plus Sj wr.drew, fun b hb => ?_, ?_, fun h => ?_⟩, ?_, ?_, fun i hi => ?_⟩⟩, ?_⟩
              · refine (HU.out.t.trans ((Gr.refl wr).drew.touch _)).trans' HT5.out (fun b hb h => ?_)
                exact (HSJ.out.1 b h).elim (fun h => .inr (.inr h)) (fun h => by omega)
              · rcases hb with h | h
                · exact HSJ.out.1 b h
                · right; exact Nat.le_trans hzx h
              · have := HV5.out
                rw [HQQ.out.1] at this
                exact this
              · rcases h with h | h
                · exact HSJ.out.2 h
                · have := HU.out.rc.lt
                  exact absurd this (Nat.not_lt_of_le h)
              · exact (HU.out.rc.gr (Gr.refl wr).drew).touch HT5.out HSJ.out.2
              · refine (HU.out.rt.gr (Gr.refl wr).drew).touch HT5.out (fun h => ?_) (fun h => ?_)
                · exact (HSJ.out.1 _ h).elim HSP.out.rS (fun h => by have := HSP.out.r3; omega)
                · exact (HSJ.out.1 _ h).elim HSP.out.gS (fun h => by have := HSP.out.g3; omega)
              · rcases Nat.lt_or_ge i j with h | h
                · exact HU.out.q1 i h
                · obtain rfl : i = j := by omega
                  rw [← HQQ.out.1, ← HQQ.out.2]; exact HLT.out
              · rw [show q0 + (j + 1) = qq + 1 by rw [HQQ.out.1]; omega]
                go_num
            case measure =>
              have h1 := HLT.out
              have h2 := HQQ.out.2
              simp only [intOf]
              rw [show ((qq : Int) + 1).toNat = qq + 1 by omega, Int.toNat_natCast, Nat.add_mul, Nat.one_mul, ← h2]
              omega
          · have e1 : decide ((pp : Int) < (c.tp : Int)) = false := decide_eq_false (by omega)
            have e2 : decide (pp < c.tp) = false := decide_eq_false hlt
            have HLT := hid hlt
            have c2 := HU.out.rc.cell (j := 2) rfl
            have c2l := HU.out.rc.lt
            clear hlt
            go_upto_region 13 with (fail)
            obtain ⟨Sx, hSx⟩ : ∃ Sx : World → Prop, Sx = fun W' => W'.cell? ⟨w.heap.size, 1, none⟩ = some (.int .i64 c.tp) := ⟨_, rfl⟩
            have x1 : ∀ p' : Held Sx, p'.w.cell? ⟨w.heap.size, 1, none⟩ = some (.int .i64 c.tp) := fun p => Held.get hSx p
            have hS0 : Sx wr.drew := by rw [hSx]; exact u1
            have inst : Inhabited (Held Sx) := ⟨⟨_, hS0⟩⟩
            clear hSx
            refine wp_region_mixS Sx 7 [([0, 1, 4, 5], 2)] [3, 6] (by kernel_rfl) (by kernel_rfl) hS0 ?_
            refine segs_step ?_
            simp only [opsAt, List.getElem?_cons_zero, List.getElem?_cons_succ]
            repeat (go_big_quiet_step (fail))
            refine wpQuiet_nil ?_
            go_wp2_with (go_at_call 71; refine HVP2.out.mono ?_; rintro e w5 ⟨rfl, rfl⟩)
            refine ⟨.inr (Held.of hS0), ?_⟩
            refine segs_end ?_
            simp only [opsAt, List.getElem?_cons_zero, List.getElem?_cons_succ]
            repeat (go_big_quiet_step (fail))
            refine wpQuiet_nil ?_
            refine NoPanic.normal ?_
            clear x1 hS0 inst
            clear Sx
            go_wp2
            go_ret2
            have hz3 := HG3.out.size
            have hw3 : Touch (fun b => b = g ∨ S b) w W3 := (((HG1.out.touch _).trans (HT1.out.mono (fun i _ h => .inr h.1))).trans (HT2.out.mono (fun i _ h => .inr h.1))).trans (HG3.out.touch _)
            have hE := HE.out
            rw [HNN.out] at hE
            refine ⟨L, HMK.out, ?_, .inr ⟨hE.symm, ?_, v1, v'', k, j, ⟨HGR.out, HCX.out.1, HCX.out.2, HDN.out.1, HLk.out.st, ?_, ?_⟩, ?_, ?_⟩⟩
            · refine (hw3.trans' HU.out.t (fun b hb h => ?_)).trans ((Gr.refl wr).drew.touch _)
              rcases h with h | h | h
              · exact .inl h
              · omega
              · exact (HS3.out b h).1.elim .inr (fun h => by omega)
            · rw [← HDN.out.2.2]; exact ret2 rfl rfl
            · intro i hi
              rw [← HPGE.out, ← HQ0.out]; exact HU.out.q1 i hi
            · rw [← HPGE.out, ← HQ0.out, ← HQQ.out.1, ← HQQ.out.2]; have := HLT.out; omega
            · rw [← HPGE.out, ← HQ0.out]
              refine (HVJ.out.gr (Gr.refl wr).drew).mono (fun b hb => ?_)
              exact (HSJ.out.1 b hb).elim (fun h => (HS3.out b h).1) (fun h => .inr (by omega))
            · rw [← HLk.out.oe]; exact HU.out.rt.gr (Gr.refl wr).drew
  · have d0 : (E != 0) = true := by simpa using hE0
    go_wp2_with (go_at_call 59; refine HND.out.mono ?_; rintro e w2 ⟨rfl, ht2, hg2⟩; have HT2 := hid ht2; have HG2 := hid hg2; clear ht2 hg2)
    go_ret2
    refine ⟨L, HMK.out, ?_, .inl ⟨?_, ?_, ?_, ?_⟩⟩
    · exact (((HG1.out.touch _).trans (HT1.out.mono (fun i _ h => .inr h.1))).trans (HT2.out.mono (fun i _ h => .inr h.1)))
    · rw [← HNN.out, ← HE.out]; exact hE0
    · rw [← HNN.out, ← HE.out]; exact ret2 rfl rfl
    · have hF : needF v c.to ((c.to + nn : Nat) : Int) = [] := by unfold needF; rw [if_neg (fun h => hE0 (HE.out.trans h.1))]
      obtain ⟨v', hg, hv⟩ := HG2.out
      rw [hF] at hg
      have := HT1.out.size
      exact ⟨v', hg, hv.mono (fun b hb => hb.elim (fun h => .inl h.1) (fun h => .inr (by omega)))⟩
    · exact HR1.out.touch HT2.out (fun h => HNO.out.2.1 h.1) (fun h => HNO.out.2.2 h.1)
end
end Go.Proofs.YtbmidhlilafgeaaGreatDoor
