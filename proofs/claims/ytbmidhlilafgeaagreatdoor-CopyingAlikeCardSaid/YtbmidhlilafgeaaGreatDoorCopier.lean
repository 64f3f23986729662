/- Package copying: take, turn. -/
import Derived.Test.YtbmidhlilafgeaaGreatDoorKM7
import Derived.Test.YtbmidhlilafgeaaGreatDoorKM6
import Derived.Test.YtbmidhlilafgeaaGreatDoorMapI
import Derived.Test.YtbmidhlilafgeaaGreatDoorK4
namespace Go.Proofs.YtbmidhlilafgeaaGreatDoor
open Go.RowKit Word

theorem zero_int (w : World) : (zeroValue 3).run Tryz.prog w = .ok (.int .i64 0) w := by kernel_rfl
theorem keyed_int : Maps.Keyed Tryz.prog 3 := Maps.int_keyed Tryz.underlying3
/-- What goes where, as a map. -/
def wentM (v : Vm) (O : List Int) (to : Int) (x : Int) : Option Value := if x ∈ O then some (.int .i64 (wentC v O to x)) else none
/-- Copying, k objects and i pointers being turned. -/
structure CpS (v : Vm) (rs : List Int) (L : List Ob) (to : Nat) (O : List Int) (k i : Nat) (v' : Vm) : Prop where
  nd : O.Nodup
  rch : ∀ a ∈ O, Rch v rs a
  cp : Cpd v v' to O k i
  kn : Known v O k i
  lt : k < O.length ∨ (k = O.length ∧ i = 0)
/-- The copier in memory. -/
structure CpyAt (w : World) (S : Nat → Prop) (K M q : Nat) (v : Vm) (to : Nat) (O : List Int) (v' : Vm) : Prop where
  rc : Rec w K 106 [.pointer (some ⟨q, 0, none⟩), .map (some M), .int .i64 ((to : Int) + sumC v O)]
  mp : MapI Tryz.prog 3 w M O.length (wentM v O to)
  vm : VmAt w S q v'
  nK : ¬ S K
  nM : ¬ S M
theorem CpyAt.gr {w w' : World} {S : Nat → Prop} {K M q : Nat} {v : Vm} {to : Nat} {O : List Int} {v' : Vm} (h : CpyAt w S K M q v to O v') (g : Gr w w') : CpyAt w' S K M q v to O v' :=
  ⟨h.rc.gr g, h.mp.gr g, h.vm.gr g, h.nK, h.nM⟩
theorem rec_cells {w : World} {q T : Nat} {xs : List Value} (h : Rec w q T xs) : ∃ cs fr, w.heap[q]? = some (.cells cs T fr) := by
  obtain ⟨cur, h1⟩ := own_type h rfl
  exact ⟨cur, _, h1⟩
theorem CpyAt.ne {w : World} {S : Nat → Prop} {K M q : Nat} {v : Vm} {to : Nat} {O : List Int} {v' : Vm} (h : CpyAt w S K M q v to O v') : M ≠ K := h.mp.ne (rec_cells h.rc)
def CpyEnd (w : World) (S : Nat → Prop) (K M q : Nat) (v : Vm) (rs : List Int) (L : List Ob) (to : Nat) (O : List Int) (k i : Nat) (a : Int) (e : Ending) (w' : World) : Prop :=
  ∃ v'', e = .returned (.int .i64 (wentC v (addC O a) to a)) ∧ Touch (fun b => (b = K ∨ b = M) ∨ S b) w w' ∧ CpyAt w' (plus S w) K M q v to (addC O a) v'' ∧ CpS v rs L to (addC O a) k i v''
section
variable {w : World} {S : Nat → Prop} {K M q : Nat} {v v' : Vm} {rs : List Int} {L : List Ob} {to : Nat} {O : List Int} {k i : Nat}
theorem CpyAt.plus {w0 : World} (h : CpyAt w S K M q v to O v') (hz : K < w0.heap.size ∧ M < w0.heap.size) : CpyAt w (plus S w0) K M q v to O v' :=
  ⟨h.rc, h.mp, h.vm.mono (fun _ h => .inl h), fun h' => h'.elim h.nK (fun h => absurd hz.1 (Nat.not_lt_of_le h)), fun h' => h'.elim h.nM (fun h => absurd hz.2 (Nat.not_lt_of_le h))⟩
theorem CpyAt.lt (h : CpyAt w S K M q v to O v') : K < w.heap.size ∧ M < w.heap.size := ⟨h.rc.lt, h.mp.lt⟩
theorem wentM_look (h : CpyAt w S K M q v to O v') {a : Int} (ha : -9223372036854775808 ≤ a ∧ a ≤ 9223372036854775807) :
    (Instr.lookup 104 (.map (some M)) (.int .i64 a) true).run Tryz.prog w = .ok (.tuple #[.int .i64 (if a ∈ O then wentC v O to a else 0), .bool (decide (a ∈ O))]) w := by
  rw [h.mp.look_ok keyed_int Tryz.underlying104 Tryz.underlying3 (zero_int w) (WalkArith.wf_i64 ha)]
  unfold wentM
  by_cases hm : a ∈ O
  · simp [hm]
  · simp [hm]
theorem CpS.zero (c : CopyCtx v rs L to) (h : CpS v rs L to O k i v') : (0 : Int) ∉ O := fun hm => by
  have := (osz_pos (c.mks.sound.rd _ (h.rch 0 hm))).1
  omega
set_option maxRecDepth 100000 in
set_option maxHeartbeats 1600000 in
theorem cpy_take (hC : CpyAt w S K M q v to O v') (c : CopyCtx v rs L to) (hf : FullOb v L) (hs : CpS v rs L to O k i v') {a : Nat} (ha : a = 0 ∨ Rch v rs a) (ha2 : a ≤ 2147483647) :
    Calls Tryz.prog 69 #[.pointer (some ⟨K, 0, none⟩), .int .i64 a] w (CpyEnd w S K M q v rs L to O k i a) := by
  have h00 := hs.zero c
  have HC := hid hC
  have HS := hid hs
  by_cases h0 : a = 0
  · subst h0
    have hadd : addC O ((0 : Nat) : Int) = O := if_pos (.inl rfl)
    have hE : Hid (CpyEnd w S K M q v rs L to O k i ((0 : Nat) : Int) (.returned (.int .i64 0)) w) := ⟨by
      refine ⟨v', ?_, Touch.refl _ _, ?_, ?_⟩
      · rw [hadd, show wentC v O to ((0 : Nat) : Int) = 0 from wentC_none v _ h00]
      · rw [hadd]; exact hC.plus hC.lt
      · rw [hadd]; exact hs⟩
    clear hC c hf hs ha hadd
    go_enter Tryz.func69, Tryz.ntmps69
    go_wp2
    go_ret
    exact hE.out
  · have d0 : ((a : Int) == 0) = false := by simp; omega
    have hlk := wentM_look hC (a := a) (by omega)
    have c1 := hC.rc.cell (j := 1) rfl
    by_cases hm : (a : Int) ∈ O
    · have hadd : addC O (a : Int) = O := if_pos (.inr hm)
      rw [if_pos hm, decide_eq_true hm] at hlk
      have hE : Hid (CpyEnd w S K M q v rs L to O k i (a : Int) (.returned (.int .i64 (wentC v O to a))) w) := ⟨by
        refine ⟨v', ?_, Touch.refl _ _, ?_, ?_⟩
        · rw [hadd]
        · rw [hadd]; exact hC.plus hC.lt
        · rw [hadd]; exact hs⟩
      clear hC c hf hs ha hadd hm h0
      generalize wentC v O to a = y at *
      go_enter Tryz.func69, Tryz.ntmps69
      go_wp2
      go_ret
      exact hE.out
    · have hadd : addC O (a : Int) = O ++ [(a : Int)] := if_neg (fun h => h.elim (by omega) hm)
      rw [if_neg hm, decide_eq_false hm] at hlk
      have hr := ha.resolve_left h0
      obtain ⟨q1, q2, q3, q4⟩ := c.same hf hs.nd hs.rch hs.cp hr
      have hosz : v'.osz a = v.osz a := by unfold Vm.osz; rw [q3]
      obtain ⟨-, -, p, f, cc, hh, hsz⟩ := rdE_zero q2
      have hp := osz_pos q2
      obtain ⟨z, hz⟩ : ∃ z : Nat, (z : Int) = v.osz a := ⟨(v.osz a).toNat, by omega⟩
      obtain ⟨t1, t2, t3, t4⟩ := Cpd.take c hf hs.nd hs.rch hs.cp hs.kn hs.lt hr hm z hz
      obtain ⟨tp, htp⟩ : ∃ tp : Nat, (tp : Int) = to + sumC v O := ⟨((to : Int) + sumC v O).toNat, by have := sumC_nonneg v O; omega⟩
      rw [← htp] at t1 t2 t3
      have c0 := hC.rc.cell (j := 0) rfl
      have c2 := hC.rc.cell (j := 2) rfl
      rw [← htp] at c2
      have hn2 := c.ok.n2
      have hpos := c.pos
      have hs0 := sumC_nonneg v O
      have HRD := hid (fun (W : World) (g : Gr w W) => obj_read (hC.vm.gr g) (a : Int))
      rw [q2, hh] at HRD
      have hN : hdrN ⟨p, f, cc⟩ = (z : Int) := by rw [hz, ← hosz]; unfold Vm.osz; rw [hh]
      have HSZ := hid (fun W => hdr_size ⟨p, f, cc⟩ W)
      rw [hN] at HSZ
      have HCP := hid (fun (W : World) (g : Gr w W) => obj_copy (hC.vm.cut.gr g) (a := a) (t := tp) (n := z) q2 (by rw [hz, hosz]) (by omega) (fun m hm => (q4 m (by omega)).1) t1)
      have HWE : Hid (wentC v (O ++ [(a : Int)]) to a = tp ∧ (to : Int) + sumC v (O ++ [(a : Int)]) = (tp : Int) + z) := ⟨by
        rw [wentC_right v _ _ hm, sumC_append]
        refine ⟨?_, ?_⟩
        · rw [htp]; exact if_pos rfl
        · simp only [sumC]; omega⟩
      have HNW : Hid (CpS v rs L to (O ++ [(a : Int)]) k i (cpV v' a tp z)) := ⟨⟨by
          have := addC_nodup hs.nd (a : Int); rwa [hadd] at this, fun b hb => by
          rcases List.mem_append.1 hb with hb | hb
          · exact hs.rch b hb
          · rw [List.mem_singleton.1 hb]; exact hr, t3, t4, by
          rw [List.length_append, List.length_singleton]; rcases hs.lt with h | h <;> left <;> omega⟩⟩
      have hLl : O.length < 9223372036854775807 := by
        have h1 := c.sum hs.nd hs.rch
        have h2 : (O.length : Int) ≤ sumC v O := by
          have : ∀ l : List Int, (∀ b ∈ l, Rch v rs b) → (l.length : Int) ≤ sumC v l := fun l => by
            induction l with
            | nil => intro _; exact Int.le_refl _
            | cons b r ih =>
              intro hl
              have := ih (fun x hx => hl x (List.mem_cons_of_mem _ hx))
              have := (osz_pos (c.mks.sound.rd _ (hl b (List.mem_cons_self ..)))).2.1
              simp only [sumC, List.length_cons]; push_cast; omega
          exact this O hs.rch
        have := c.top
        omega
      have HLK := hid hlk
      have HADD := hid hadd
      have HTP := hid htp
      have HKL := hid hC.lt
      have HLL : Hid (O.length < maxLen) := ⟨hLl⟩
      have HWF : Hid ((Lit.int .i64 (a : Int)).wf = true) := ⟨WalkArith.wf_i64 (by omega)⟩
      have HMQ : Hid (∀ y : Int, (if y = (a : Int) then some (Value.int .i64 tp) else wentM v O to y) = wentM v (O ++ [(a : Int)]) to y) := ⟨fun y => by
        unfold wentM
        by_cases e : y = (a : Int)
        · rw [if_pos e, if_pos (by rw [e]; simp), e, HWE.out.1]
        · rw [if_neg e]
          by_cases hy : y ∈ O
          · rw [if_pos hy, if_pos (List.mem_append_left _ hy), wentC_left v _ _ hy]
          · rw [if_neg hy, if_neg (fun h => (List.mem_append.1 h).elim hy (fun h => e (List.mem_singleton.1 h)))]⟩
      have HNE := hid hC.ne
      have HMEM := hid hm
      unfold hdrV at HRD HSZ
      unfold spV at HRD HCP
      have hKl := hC.lt
      clear hC c hf hs ha hadd hm h0 hr q1 q2 q3 q4 hosz hh hsz hp hz t1 t3 t4 htp hN h00 hs0 hLl
      go_enter Tryz.func69, Tryz.ntmps69
      go_upto_region 10 with (first
        | (go_at_call 108; refine (HRD.out _ (Gr.refl w)).mono ?_; rintro e w1 ⟨rfl, hg1⟩; have HG1 := hid hg1; have HR1 := hid (HC.out.rc.gr hg1); have x0 := HR1.out.cell (j := 0) rfl; have x1 := HR1.out.cell (j := 1) rfl; have x2 := HR1.out.cell (j := 2) rfl; rw [← HTP.out] at x2; have xl := HR1.out.lt; clear hg1)
        | (go_at_call 133; refine (HCP.out _ (HG1.out.alloc _)).mono ?_; rintro e w2 ⟨rfl, ht2, hv2⟩; have HT2 := hid ht2; have HV2 := hid hv2; have HR2 := hid ((HR1.out.gr ((Gr.refl w1).alloc (.cells #[.int .i64 p, .int .i64 f, .int .i64 cc] 90))).touch ht2 (fun h => HC.out.nK h.1)); have HM2 := hid ((HC.out.mp.gr (HG1.out.alloc (.cells #[.int .i64 p, .int .i64 f, .int .i64 cc] 90))).touch ht2 (fun h => HC.out.nM h.1)); have HH2 := hid ((Rec.new w1 90 [.int .i64 p, .int .i64 f, .int .i64 cc]).touch ht2 (fun h => by have h1 := h.2; have h2 := HG1.out.size; omega)); have y0 := HR2.out.cell (j := 0) rfl; have y1 := HR2.out.cell (j := 1) rfl; have y2 := HR2.out.cell (j := 2) rfl; rw [← HTP.out] at y2; have yl := HR2.out.lt; clear ht2 hv2)
        | (at_mapUpdate; refine wpList_mapI _ rfl _ _ _ 104 rfl 3 3 keyed_int Tryz.underlying104 Tryz.underlying3 M O.length (wentM v O to) rfl HM2.out HLL.out (a : Int) (.int .i64 tp) rfl rfl HWF.out ?_; intro w3 hm3 ht3; have HM3 := hid (hm3.congr HMQ.out); have HT3 := hid ht3; have HR3 := hid (HR2.out.touch ht3 (fun h => HNE.out h.symm)); have HH3 := hid (HH2.out.touch ht3 (fun h => by have h1 := HKL.out.2; have h2 := HG1.out.size; omega)); clear hm3 ht3))
      have u2 := HR3.out.cell (j := 2) rfl
      rw [← HTP.out] at u2
      have uf := HR3.out.free 2
      have ul := HR3.out.lt
      have e0 := HH3.out.cell (j := 0) rfl
      have e1 := HH3.out.cell (j := 1) rfl
      have e2 := HH3.out.cell (j := 2) rfl
      have el := HH3.out.lt
      obtain ⟨hb, hhb⟩ : ∃ hb, hb = w1.heap.size := ⟨_, rfl⟩
      rw [← hhb] at e0 e1 e2 el ⊢
      clear hhb
      have KS : Hid (∀ W', Gr w3 W' → (W'.cell? ⟨K, 2, none⟩ = some (.int .i64 tp) ∧ W'.cell? ⟨hb, 0, none⟩ = some (.int .i64 p)) ∧ W'.cell? ⟨hb, 1, none⟩ = some (.int .i64 f) ∧ W'.cell? ⟨hb, 2, none⟩ = some (.int .i64 cc)) :=
        ⟨fun W' h => ⟨⟨(h.cell ul 2).trans u2, (h.cell el 0).trans e0⟩, (h.cell el 1).trans e1, (h.cell el 2).trans e2⟩⟩
      obtain ⟨Sx, hSx⟩ : ∃ Sx : World → Prop, Sx = fun W' => Gr w3 W' := ⟨_, rfl⟩
      have z1 : ∀ p' : Held Sx, p'.w.cell? ⟨K, 2, none⟩ = some (.int .i64 tp) := fun p => (KS.out _ (Held.get hSx p)).1.1
      have z2 : ∀ p' : Held Sx, p'.w.cell? ⟨hb, 0, none⟩ = some (.int .i64 p) := fun p => (KS.out _ (Held.get hSx p)).1.2
      have z3 : ∀ p' : Held Sx, p'.w.cell? ⟨hb, 1, none⟩ = some (.int .i64 f) := fun p => (KS.out _ (Held.get hSx p)).2.1
      have z4 : ∀ p' : Held Sx, p'.w.cell? ⟨hb, 2, none⟩ = some (.int .i64 cc) := fun p => (KS.out _ (Held.get hSx p)).2.2
      have hS0 : Sx w3.drew := by rw [hSx]; exact (Gr.refl w3).drew
      have HSX := hid hSx
      have inst : Inhabited (Held Sx) := ⟨⟨_, hS0⟩⟩
      clear hSx x0 x1 x2 xl y0 y1 y2 yl c0 c1 c2 e0 e1 e2 el
      simp only [Act.put]
      refine wp_region_mixS Sx 9 [([0, 1, 2, 3, 4], 5), ([6, 7, 8], 9)] [] (by kernel_rfl) (by kernel_rfl) hS0 ?_
      refine segs_step ?_
      simp only [opsAt, List.getElem?_cons_zero, List.getElem?_cons_succ]
      repeat (go_big_quiet_step (fail))
      refine wpQuiet_nil ?_
      go_wp2_with (go_at_call 55; refine (HSZ.out _).mono ?_; rintro e w4 ⟨rfl, hg4⟩; have HG4 := hid ((Gr.refl w3).drew.trans hg4); have uf4 := (HG4.out.frozen ul 2).trans uf; have u4 := (HG4.out.cell ul 2).trans u2; clear hg4)
      refine ⟨.inr (Held.of (by rw [HSX.out]; exact HG4.out)), ?_⟩
      refine segs_step ?_
      simp only [opsAt, List.getElem?_cons_zero, List.getElem?_cons_succ]
      repeat (go_big_quiet_step (fail))
      refine wpQuiet_nil ?_
      go_wp2
      refine ⟨.inl trivial, ?_⟩
      refine segs_end ?_
      refine wpQuiet_nil ?_
      refine NoPanic.normal ?_
      clear z1 z2 z3 z4 hS0 inst
      go_wp2
      go_ret
      have hz1 := HG1.out.size
      have T3 : Touch (fun b => (b = K ∨ b = M) ∨ S b) w w3 := (((HG1.out.alloc _).touch _).trans (HT2.out.mono (fun b _ h => .inr h.1))).trans (HT3.out.mono (fun b _ h => .inl (.inr h)))
      have T5 := (T3.trans (HG4.out.touch _)).setCell (a := ⟨K, 2, none⟩) (fun _ => .inl (.inl rfl)) (.int .i64 ((tp : Int) + z))
      have tK := (Touch.refl (fun b => b = K) w4).setCell (a := ⟨K, 2, none⟩) (fun _ => rfl) (.int .i64 ((tp : Int) + z))
      have hno : ∀ b, (b = K ∨ b = M) → ¬ plus (cutS S w) (w1.alloc (.cells #[.int .i64 p, .int .i64 f, .int .i64 cc] 90)) b := fun b hb h => by
        rw [plus, World.size_alloc] at h
        have := HKL.out
        rcases hb with rfl | rfl
        · rcases h with h | h
          · exact HC.out.nK h.1
          · omega
        · rcases h with h | h
          · exact HC.out.nM h.1
          · omega
      refine ⟨cpV v' a tp z, ?_, T5, ⟨?_, ?_, ?_, ?_, ?_⟩, ?_⟩
      · rw [HADD.out, HWE.out.1]; rfl
      · rw [HADD.out, HWE.out.2]
        exact (HR3.out.gr HG4.out).set 2 (.int .i64 ((tp : Int) + z))
      · rw [HADD.out, List.length_append, List.length_singleton]
        exact (HM3.out.gr HG4.out).touch tK HNE.out
      · exact ((((HV2.out.touch HT3.out (fun b hb _ e => hno b (.inr e) hb)).gr HG4.out).touch tK (fun b hb _ e => hno b (.inl e) hb))).mono (fun b hb => by
          rcases hb with h | h
          · exact .inl h.1
          · rw [World.size_alloc] at h; right; omega)
      · exact fun h => h.elim HC.out.nK (fun h => by have := HKL.out.1; omega)
      · exact fun h => h.elim HC.out.nM (fun h => by have := HKL.out.2; omega)
      · rw [HADD.out]; exact HNW.out
end
end Go.Proofs.YtbmidhlilafgeaaGreatDoor
