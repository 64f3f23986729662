/- Layer 25: the example; nothing is copied of nobody. -/
import Derived.Test.YtbmidhlilafgeaaGreatDoorCpRun
import Derived.Test.YtbmidhlilafgeaaGreatDoorCp24P
import Derived.Test.YtbmidhlilafgeaaGreatDoorLay24
namespace Go.Proofs.YtbmidhlilafgeaaGreatDoor
open Go.RowKit Word

theorem put_small {x : LaidC} {y : Nat} (h : IsPut x y) : y ≤ 544 := by
  rcases h with h | ⟨j, hj, h⟩
  · omega
  · obtain ⟨p, f, c, e⟩ := hd_get (x := x) hj
    have h1 := at_next (x := x) hj e
    have h2 := x.top_le
    have h3 := x.page_pos
    omega
theorem ordC_ext0 (v : Vm) (rs : List Int) (k : Nat) : ∃ X, ordC v rs k = ordC v rs 0 ++ X := by
  induction k with
  | zero => exact ⟨[], (List.append_nil _).symm⟩
  | succ k ih =>
    obtain ⟨X, hX⟩ := ih
    obtain ⟨Y, hY⟩ := ordC_ext v rs k
    exact ⟨X ++ Y, by rw [hY, hX, List.append_assoc]⟩
/-- A laid heap is copied. -/
theorem cp24_run {w w' : World} {x : LaidC} {rm q r g : Nat} {v0 : Vm} {SV : Nat → Prop} (hr : Run24 x rm v0) (hV : VmAt w' SV q (layC x v0)) (hR : RtAt w' r g x.rs) (hT : TabAt w) (hg : Gr w w') (hsv : ∀ i, SV i → w.heap.size ≤ i) (h1 : ¬ SV r) (h2 : ¬ SV g) :
    Calls Tryz.prog 17 #[.pointer (some ⟨q, 0, none⟩), .pointer (some ⟨r, 0, none⟩), cfV x.cf] w' (CpEnd w' SV q r g (layC x v0) x.rs x.cf) := by
  have hst := Stays.layC hr.ok x
  refine cp_run hV hR (hg.tab hT.lt hT) (fun h => by have := hsv _ h; have := hT.lt; omega) h1 h2 (cp24_ok hr) (fun a ha hb => ?_) (fun a ha => ?_)
  · rw [hst.sm.ldE]; exact hr.map a ha hb
  · obtain ⟨y, rfl, hy⟩ := rs_put ha
    have := put_small hy
    omega
def x25 : LaidC := ⟨2, [⟨0, 0, 3⟩, ⟨0, 0, 3⟩, ⟨0, 0, 3⟩], [], [1], 0, 0, 0⟩
theorem x25_k : x25.k = 3 ∧ x25.page = 4 ∧ x25.at 1 = 8 ∧ x25.room = 5 ∧ x25.top = 16 ∧ x25.rs = [8] ∧ x25.n = 1028 := by decide +kernel
theorem live25 {v0 : Vm} {rm : Nat} (h : Run24 x25 rm v0) : Marks (layC x25 v0) x25.rs x25.n [(8, 4)] := by
  obtain ⟨e1, e2, e3, e4, e5, e6, e7⟩ := x25_k
  have hL := laid_in h.ok h.map
  obtain ⟨p, f, c, e, h1, h2, h3⟩ := hL.ob h.map (j := 1) (by rw [e1]; decide)
  rw [e3] at h1 h2 h3
  have e : (⟨0, 0, 3⟩ : Hdr) = ⟨p, f, c⟩ := e
  simp only [Hdr.mk.injEq] at e
  have hp : p = 0 ∧ f = 0 ∧ c = 3 := by omega
  obtain ⟨rfl, rfl, rfl⟩ := hp
  rw [e6, e7]
  have hr : Rch (layC x25 v0) [8] 8 := Rch.root (List.mem_singleton.2 rfl) (by decide)
  refine Marks.of ⟨⟨by simp, fun o ho => ?_⟩, fun o ho => ?_⟩ (fun r hr _ => ?_) (fun o ho => ?_)
  · rw [List.mem_singleton.1 ho]; simp
  · rw [List.mem_singleton.1 ho]; exact ⟨hr, h1, h3.symm⟩
  · rw [List.mem_singleton.1 hr]; exact ⟨(8, 4), List.mem_singleton.2 rfl, rfl⟩
  · rw [List.mem_singleton.1 ho]
    intro i hi
    have hi : (i : Int) < ((layC x25 v0).rdH ((8 : Nat) : Int)).p := hi
    rw [h2] at hi
    have hi : (i : Int) < 0 := hi
    omega
/-- What copying the example leaves. -/
theorem live25_end {w w' : World} {q r g : Nat} {v0 : Vm} {S : Nat → Prop} {e : Ending} (h : Run24 x25 (5 + 9) v0) (hE : CpEnd w S q r g (layC x25 v0) x25.rs x25.cf e w') :
    e = .returned (.tuple #[.int .i64 520, .int .i64 0]) ∧ Touch (fun b => b = g ∨ S b) w w' ∧ (∃ v, VmAt w' (plus S w) q v ∧ v.pl.used = 1) ∧ RtAt w' r g [516] := by
  obtain ⟨e1, e2, e3, e4, e5, e6, e7⟩ := x25_k
  obtain ⟨L, hM, ht, hc⟩ := hE
  have hst := Stays.layC h.ok x25
  have hs := h.stays hst
  rw [hs.n] at hM
  obtain rfl := hM.unique (live25 h)
  have hz : sizes [(8, 4)] = 4 := rfl
  have hto : x25.cf.to = 516 := by decide +kernel
  have hp4 : x25.pgs 4 = 1 := by decide +kernel
  have hn := (need_cp hs (s := 4) (by decide)).1
  rw [hs.us, e2, e5, hp4, if_pos (.inr (by decide))] at hn
  rw [hz] at hc
  rcases hc with ⟨h1, -⟩ | ⟨h1, rfl, v1, v2, k, kq, hD, hv, hrt⟩
  · exact absurd hn h1
  · refine ⟨by rw [hto]; rfl, ht, ⟨_, hv, ?_⟩, ?_⟩
    · rw [(cp24_used hs (L := [(8, 4)]) (by rw [hz]; omega) h1 hD).2.1, hz, hp4]
    · rw [e6, hto] at hrt
      have : ([8] : List Int).map (fun a => wentC v1 (ordC v1 [8] k) ((516 : Nat) : Int) a) = [516] := by
        obtain ⟨X, hX⟩ := ordC_ext0 v1 [8] k
        have h0 : ordC v1 [8] 0 = [8] := rfl
        rw [hX, h0, List.map_cons, List.map_nil, wentC_left v1 X _ (List.mem_singleton.2 rfl)]
        rfl
      rw [this] at hrt
      exact hrt
set_option maxRecDepth 100000 in
set_option maxHeartbeats 3200000 in
theorem lives25 {w : World} (hT : TabAt w) : Gets Tryz.prog 15 #[] w (.bool true) := by
  have HT := hid hT
  clear hT
  unfold Gets
  go_enter Tryz.func15, Tryz.ntmps15
  have g1 : Gr w ((w.alloc (.cells #[.int .i64 0, .int .i64 0, .int .i64 3, .int .i64 0, .int .i64 0, .int .i64 3, .int .i64 0, .int .i64 0, .int .i64 3] 90)).alloc (.cells #[.int .u8 1] 5)) := ((Gr.refl w).alloc _).alloc _
  have r1 := (Rec.new w 90 [.int .i64 0, .int .i64 0, .int .i64 3, .int .i64 0, .int .i64 0, .int .i64 3, .int .i64 0, .int .i64 0, .int .i64 3]).gr ((Gr.refl _).alloc (.cells #[.int .u8 1] 5))
  have r2 := new2 w (.cells #[.int .i64 0, .int .i64 0, .int .i64 3, .int .i64 0, .int .i64 0, .int .i64 3, .int .i64 0, .int .i64 0, .int .i64 3] 90) 5 [.int .u8 1]
  have HL := hid (lay24_walk (w := ((w.alloc (.cells #[.int .i64 0, .int .i64 0, .int .i64 3, .int .i64 0, .int .i64 0, .int .i64 3, .int .i64 0, .int .i64 0, .int .i64 3] 90)).alloc (.cells #[.int .u8 1] 5))) (x := x25) (A1 := some ⟨w.heap.size, 0, none⟩) (A2 := none) (A3 := some ⟨w.heap.size + 1, 0, none⟩) (c1 := 3) (c2 := 0) (c3 := 1) (more := 9)
    ⟨fun i hi => by
        have hi : i < 3 := hi
        refine ⟨w.heap.size, 0, rfl, r1.lt, ?_⟩
        rcases (by omega : i = 0 ∨ i = 1 ∨ i = 2) with rfl | rfl | rfl
        · exact ⟨r1.cell (j := 0) rfl, r1.cell (j := 1) rfl, r1.cell (j := 2) rfl⟩
        · exact ⟨r1.cell (j := 3) rfl, r1.cell (j := 4) rfl, r1.cell (j := 5) rfl⟩
        · exact ⟨r1.cell (j := 6) rfl, r1.cell (j := 7) rfl, r1.cell (j := 8) rfl⟩, fun i hi => absurd hi (Nat.not_lt_zero _), fun i hi => by
        have hi : i < 1 := hi
        refine ⟨w.heap.size + 1, 0, rfl, r2.lt, ?_⟩
        obtain rfl : i = 0 := by omega
        exact ⟨show (1 : Nat) < 256 by decide, r2.cell (j := 0) rfl⟩, by decide, by decide, by decide, by decide, by decide, by decide, by decide⟩ (by decide))
  have HG1 := hid g1
  clear g1 r1 r2
  unfold laidV at HL
  go_upto_region 4 with (go_at_call 13; refine HL.out.mono ?_; rintro e w1 ⟨hp, q, r, g, A, c, v0, SV, rfl, hg1, hrn, hz0, hvm, hrt, hrec, hwr, hsv, hs1, hs2, hs3, hs4, hs5⟩; have HG := hid (HG1.out.trans hg1); have HV := hid hvm; have HRN := hid hrn; have HRT := hid hrt; have HRC := hid hrec; have HSV := hid (And.intro hsv (And.intro hs1 (And.intro hs2 (And.intro hs3 hs4)))); have HGL := hid hg1; clear hg1 hrn hz0 hvm hrt hrec hwr hsv hs1 hs2 hs3 hs4 hs5)
  have HCR : Hid (∀ W, Gr w1 W → Calls Tryz.prog 17 #[.pointer (some ⟨q, 0, none⟩), .pointer (some ⟨r, 0, none⟩), cfV x25.cf] W fun e w' => e = .returned (.tuple #[.int .i64 520, .int .i64 0]) ∧ Touch (fun b => b = g ∨ SV b) W w' ∧ (∃ v, VmAt w' (plus SV W) q v ∧ v.pl.used = 1) ∧ RtAt w' r g [516]) := ⟨fun W hW =>
    (cp24_run HRN.out (HV.out.gr hW) (HRT.out.gr hW) HT.out (HG.out.trans hW) (fun i hi => by have := (HSV.out.1 i hi).1; have := HG1.out.size; omega) HSV.out.2.2.1 HSV.out.2.2.2.1).mono (fun e w' h => live25_end HRN.out h)⟩
  have HRK : Hid (∀ W W', Gr w1 W → Touch (fun b => b = g ∨ SV b) W W' → Rec W' hp 37 (heapL x25 q r (.slice A x25.n c))) := ⟨fun W W' hW t => (HRC.out.gr hW).touch t (fun h => by
    rcases h with h | h
    · exact own_ne HRT.out.row HRC.out (by decide) rfl rfl h.symm
    · exact HSV.out.2.1 h)⟩
  have HFG : Hid (∀ W', Touch (fun b => b = g ∨ SV b) w1.drew W' → Gr w W') := ⟨fun W' t => by
    have t1 : Touch (fun b => b = g ∨ SV b) w W' := ((HG.out.drew).touch _).trans t
    refine (t1.mono (T := fun _ => False) (fun i hi h => ?_)).gr
    have hz := HG1.out.size
    rcases h with h | h
    · have := HSV.out.2.2.2.2.2.2; omega
    · have := (HSV.out.1 i h).1; omega⟩
  have HTO : Hid (((x25.cf.to : Nat) : Int) = 516) := ⟨by decide +kernel⟩
  unfold heapL at HRC HRK
  unfold cfV at HCR
  obtain ⟨cf, hcf⟩ : ∃ cf, cf = x25.cf := ⟨_, rfl⟩
  obtain ⟨pg, hpg⟩ : ∃ pg, pg = x25.page := ⟨_, rfl⟩
  obtain ⟨nn, hnn⟩ : ∃ nn, nn = x25.n := ⟨_, rfl⟩
  rw [← hcf, ← hpg, ← hnn] at HRC HRK
  rw [← hcf] at HCR HTO
  clear hcf hpg hnn
  have z0 := HRC.out.cell (j := 0) rfl
  have z1 := HRC.out.cell (j := 1) rfl
  have z2 := HRC.out.cell (j := 2) rfl
  have z3 := HRC.out.cell (j := 3) rfl
  have z4 := HRC.out.cell (j := 4) rfl
  have z5 := HRC.out.cell (j := 5) rfl
  have z6 := HRC.out.cell (j := 6) rfl
  have z7 := HRC.out.cell (j := 7) rfl
  have z8 := HRC.out.cell (j := 8) rfl
  obtain ⟨Sx, hSx⟩ : ∃ Sx : World → Prop, Sx = fun W' => (W'.cell? ⟨hp, 0, none⟩ = some (.pointer (some ⟨q, 0, none⟩)) ∧ W'.cell? ⟨hp, 1, none⟩ = some (.pointer (some ⟨r, 0, none⟩)) ∧ W'.cell? ⟨hp, 2, none⟩ = some (.int .i64 cf.fr) ∧ W'.cell? ⟨hp, 3, none⟩ = some (.int .i64 cf.tp) ∧ W'.cell? ⟨hp, 4, none⟩ = some (.int .i64 cf.to)) ∧ W'.cell? ⟨hp, 5, none⟩ = some (.int .i64 cf.lm) ∧ W'.cell? ⟨hp, 6, none⟩ = some (.int .i64 cf.bk) ∧ W'.cell? ⟨hp, 7, none⟩ = some (.int .i64 cf.st) ∧ W'.cell? ⟨hp, 8, none⟩ = some (.int .i64 cf.ah) := ⟨_, rfl⟩
  have x0 : ∀ p : Held Sx, p.w.cell? ⟨hp, 0, none⟩ = some (.pointer (some ⟨q, 0, none⟩)) := fun p => (Held.get hSx p).1.1
  have x1 : ∀ p : Held Sx, p.w.cell? ⟨hp, 1, none⟩ = some (.pointer (some ⟨r, 0, none⟩)) := fun p => (Held.get hSx p).1.2.1
  have x2 : ∀ p : Held Sx, p.w.cell? ⟨hp, 2, none⟩ = some (.int .i64 cf.fr) := fun p => (Held.get hSx p).1.2.2.1
  have x3 : ∀ p : Held Sx, p.w.cell? ⟨hp, 3, none⟩ = some (.int .i64 cf.tp) := fun p => (Held.get hSx p).1.2.2.2.1
  have x4 : ∀ p : Held Sx, p.w.cell? ⟨hp, 4, none⟩ = some (.int .i64 cf.to) := fun p => (Held.get hSx p).1.2.2.2.2
  have x5 : ∀ p : Held Sx, p.w.cell? ⟨hp, 5, none⟩ = some (.int .i64 cf.lm) := fun p => (Held.get hSx p).2.1
  have x6 : ∀ p : Held Sx, p.w.cell? ⟨hp, 6, none⟩ = some (.int .i64 cf.bk) := fun p => (Held.get hSx p).2.2.1
  have x7 : ∀ p : Held Sx, p.w.cell? ⟨hp, 7, none⟩ = some (.int .i64 cf.st) := fun p => (Held.get hSx p).2.2.2.1
  have x8 : ∀ p : Held Sx, p.w.cell? ⟨hp, 8, none⟩ = some (.int .i64 cf.ah) := fun p => (Held.get hSx p).2.2.2.2
  have hS0 : Sx w1.drew := by rw [hSx]; exact ⟨⟨z0, z1, z2, z3, z4⟩, z5, z6, z7, z8⟩
  have HS2 : Hid (∀ W', Touch (fun b => b = g ∨ SV b) w1.drew W' → Sx W') := ⟨fun W' t => by
    have hb := HRK.out _ _ (Gr.refl w1).drew t
    rw [hSx]
    exact ⟨⟨hb.cell (j := 0) rfl, hb.cell (j := 1) rfl, hb.cell (j := 2) rfl, hb.cell (j := 3) rfl, hb.cell (j := 4) rfl⟩, hb.cell (j := 5) rfl, hb.cell (j := 6) rfl, hb.cell (j := 7) rfl, hb.cell (j := 8) rfl⟩⟩
  have inst : Inhabited (Held Sx) := ⟨⟨_, hS0⟩⟩
  clear hSx z0 z1 z2 z3 z4 z5 z6 z7 z8
  refine wp_region_mixS Sx 18 [([0, 1, 2, 3, 4, 5, 6, 7, 8, 9, 10, 11], 12)] [13, 14, 15, 16, 17] (by kernel_rfl) (by kernel_rfl) hS0 ?_
  refine segs_step ?_
  simp only [opsAt, List.getElem?_cons_zero, List.getElem?_cons_succ]
  repeat (go_big_quiet_step (fail))
  refine wpQuiet_nil ?_
  go_wp2_with (go_at_call 17; refine (HCR.out _ (Gr.refl _).drew).mono ?_; rintro e w2 ⟨rfl, ht2, hv2, hr2⟩; have HT2 := hid ht2; have HV2 := hid hv2; have HR2 := hid hr2; clear ht2 hv2 hr2)
  refine ⟨.inr (Held.of (HS2.out _ HT2.out)), ?_⟩
  refine segs_end ?_
  simp only [opsAt, List.getElem?_cons_zero, List.getElem?_cons_succ]
  repeat (go_big_quiet_step (fail))
  refine wpQuiet_nil ?_
  refine NoPanic.normal ?_
  clear x0 x1 x2 x3 x4 x5 x6 x7 x8 hS0 inst
  clear HS2 Sx
  have hb := HRK.out _ _ (Gr.refl w1).drew HT2.out
  have y0 := hb.cell (j := 0) rfl
  have y1 := hb.cell (j := 1) rfl
  have y4 := hb.cell (j := 4) rfl
  have hto := HTO.out
  rw [hto] at y4
  obtain ⟨v2, hv2, hu2⟩ := HV2.out
  have HV3 := hid (vm_used hv2)
  have HGT := hid (rt_get HR2.out (i := 0) (by decide))
  have hbl := hb.lt
  have HV2' := hid hv2
  have HFW := hid (HFG.out _ HT2.out)
  clear hb hto hv2 HV3
  go_wp2_with (first
    | (go_at_call 65; refine HGT.out.mono ?_; rintro e w3 ⟨rfl, hg3⟩; have HG3 := hid hg3; have HV4 := hid (vm_used (HV2'.out.gr hg3)); rw [hu2] at HV4; have y0 := (hg3.cell hbl 0).trans y0; have y4 := (hg3.cell hbl 4).trans y4; clear hg3 hu2)
    | (go_at_call 20; refine HV4.out.mono ?_; rintro e w4 ⟨rfl, rfl⟩))
  go_ret
  exact ⟨rfl, HFW.out.trans HG3.out⟩
/-! Of nobody. -/
set_option maxRecDepth 100000 in
theorem scheck_nil (c0 c1 c2 c3 c4 c5 c6 : Int) (w : World) : Calls Tryz.prog 53 #[.pointer none, .agg #[.int .i64 c0, .int .i64 c1, .int .i64 c2, .int .i64 c3, .int .i64 c4, .int .i64 c5, .int .i64 c6]] w fun e w' => e = .returned (.int .i64 9) ∧ Gr w w' := by
  have HG := hid (fun o => (Gr.refl w).alloc o)
  go_enter Tryz.func53, Tryz.ntmps53
  go_wp2_with (first
    | (go_at_call 71; refine (vm_page_nil _).mono ?_; rintro e w1 ⟨rfl, rfl⟩)
    | (go_at_call 33; refine (vm_words_nil _).mono ?_; rintro e w1 ⟨rfl, rfl⟩))
  go_ret
  exact ⟨rfl, HG.out _⟩
set_option maxRecDepth 100000 in
theorem sound_nil_r (p : Option Addr) (c0 c1 c2 c3 c4 c5 c6 : Int) (w : World) : Calls Tryz.prog 67 #[.pointer p, .pointer none, .agg #[.int .i64 c0, .int .i64 c1, .int .i64 c2, .int .i64 c3, .int .i64 c4, .int .i64 c5, .int .i64 c6]] w fun e w' => e = .returned (.tuple #[.int .i64 0, .int .i64 9]) ∧ Gr w w' := by
  have HB := hid (Gr.refl w)
  have HR6 : Hid (∀ o, Rec ((w.alloc o).alloc (.cells #[.int .i64 0] 3)) (w.heap.size + 1) 3 [.int .i64 0]) := ⟨fun o => new2 w o 3 [.int .i64 0]⟩
  refine (callsIn_wide (n := 5)).1 ?_
  refine callsIn_of_wp_marks Tryz.func67 rfl trivial ?_ rfl
  simp only [Tryz.ntmps67, List.size_toArray, List.length_cons, List.length_nil, Nat.reduceAdd, Nat.reduceSub, Array.replicate_succ, Array.replicate_zero, List.push_toArray, List.append_toArray, List.nil_append, List.cons_append]
  gi_upto_region 2 with (refine ⟨trivial, ?_⟩; gi_at_call 63; refine (callsIn_wide.2 (rt_len_nil _)).mono ?_; rintro e w1 ⟨rfl, rfl⟩)
  have r6 := (HR6.out (.cells #[.int .i64 c0, .int .i64 c1, .int .i64 c2, .int .i64 c3, .int .i64 c4, .int .i64 c5, .int .i64 c6] 34)).gr ((Gr.refl _).alloc (.cells #[.int .i64 0] 39))
  have r7 := new2 (w.alloc (.cells #[.int .i64 c0, .int .i64 c1, .int .i64 c2, .int .i64 c3, .int .i64 c4, .int .i64 c5, .int .i64 c6] 34)) (.cells #[.int .i64 0] 3) 39 [.int .i64 0]
  rw [World.size_alloc] at r7
  have q0 := r6.cell (j := 0) rfl
  have q1 := r6.free 0
  have ql := r6.lt
  have p0 := r7.cell (j := 0) rfl
  have p1' := r7.free 0
  have pl := r7.lt
  have HX1 := hid ((HR6.out (.cells #[.int .i64 c0, .int .i64 c1, .int .i64 c2, .int .i64 c3, .int .i64 c4, .int .i64 c5, .int .i64 c6] 34)).gr ((Gr.refl _).alloc (.cells #[.int .i64 9] 39)))
  have HX2 := hid (new2 (w.alloc (.cells #[.int .i64 c0, .int .i64 c1, .int .i64 c2, .int .i64 c3, .int .i64 c4, .int .i64 c5, .int .i64 c6] 34)) (.cells #[.int .i64 0] 3) 39 [.int .i64 9])
  gi_wp2
  have h1' := HX1.out.cell (j := 0) rfl
  have h2' := HX2.out.cell (j := 0) rfl
  rw [World.size_alloc] at h2'
  have hg : Gr w (((w.alloc (.cells #[.int .i64 c0, .int .i64 c1, .int .i64 c2, .int .i64 c3, .int .i64 c4, .int .i64 c5, .int .i64 c6] 34)).alloc (.cells #[.int .i64 0] 3)).alloc (.cells #[.int .i64 9] 39)) := (((Gr.refl w).alloc _).alloc _).alloc _
  refine ⟨.tuple #[.int .i64 0, .int .i64 9], ?_, rfl, hg⟩
  simp [results, Tryz.f67, go_sem, h1', h2']
set_option maxRecDepth 100000 in
theorem sound_nil_m {r g : Nat} {rs : List Int} (c0 c1 c2 c3 c4 c5 c6 : Int) {w : World} (hR : RtAt w r g rs) : Calls Tryz.prog 67 #[.pointer none, .pointer (some ⟨r, 0, none⟩), .agg #[.int .i64 c0, .int .i64 c1, .int .i64 c2, .int .i64 c3, .int .i64 c4, .int .i64 c5, .int .i64 c6]] w fun e w' => e = .returned (.tuple #[.int .i64 0, .int .i64 9]) ∧ Gr w w' := by
  have hg0 : Gr w (((w.alloc (.cells #[.int .i64 c0, .int .i64 c1, .int .i64 c2, .int .i64 c3, .int .i64 c4, .int .i64 c5, .int .i64 c6] 34)).alloc (.cells #[.int .i64 0] 3)).alloc (.cells #[.int .i64 0] 39)) := (((Gr.refl w).alloc _).alloc _).alloc _
  have HL := hid (rt_len (hR.gr hg0))
  have hne : rs.length ≠ 0 := fun e => hR.ne (List.eq_nil_of_length_eq_zero e)
  obtain ⟨n, hn⟩ : ∃ n, n = rs.length := ⟨_, rfl⟩
  rw [← hn] at HL hne
  have d0 : ((n : Int) == 0) = false := by simp; omega
  have hrb := (Rec.new w 34 [.int .i64 c0, .int .i64 c1, .int .i64 c2, .int .i64 c3, .int .i64 c4, .int .i64 c5, .int .i64 c6]).gr (((Gr.refl _).alloc (.cells #[.int .i64 0] 3)).alloc (.cells #[.int .i64 0] 39))
  have r6 := (new2 w (.cells #[.int .i64 c0, .int .i64 c1, .int .i64 c2, .int .i64 c3, .int .i64 c4, .int .i64 c5, .int .i64 c6] 34) 3 [.int .i64 0]).gr ((Gr.refl _).alloc (.cells #[.int .i64 0] 39))
  have r7 := new2 (w.alloc (.cells #[.int .i64 c0, .int .i64 c1, .int .i64 c2, .int .i64 c3, .int .i64 c4, .int .i64 c5, .int .i64 c6] 34)) (.cells #[.int .i64 0] 3) 39 [.int .i64 0]
  rw [World.size_alloc] at r7
  have HR6 := hid r6
  have HR7 := hid r7
  have HRB := hid hrb
  have HG := hid hg0
  clear hR hn hg0 hrb r6 r7
  refine (callsIn_wide (n := 5)).1 ?_
  refine callsIn_of_wp_marks Tryz.func67 rfl trivial ?_ rfl
  simp only [Tryz.ntmps67, List.size_toArray, List.length_cons, List.length_nil, Nat.reduceAdd, Nat.reduceSub, Array.replicate_succ, Array.replicate_zero, List.push_toArray, List.append_toArray, List.nil_append, List.cons_append]
  gi_upto_region 1 with (fail)
  obtain ⟨W0, hW0⟩ : ∃ W0, W0 = (((w.alloc (.cells #[.int .i64 c0, .int .i64 c1, .int .i64 c2, .int .i64 c3, .int .i64 c4, .int .i64 c5, .int .i64 c6] 34)).alloc (.cells #[.int .i64 0] 3)).alloc (.cells #[.int .i64 0] 39)) := ⟨_, rfl⟩
  rw [show ((w.alloc (.cells ([.int .i64 c0, .int .i64 c1, .int .i64 c2, .int .i64 c3, .int .i64 c4, .int .i64 c5, .int .i64 c6] : List Value).toArray 34)).alloc (.cells #[.int .i64 0] 3)).alloc (.cells #[.int .i64 0] 39) = W0 from hW0.symm] at HRB
  rw [← hW0] at HR6 HR7 HG HL ⊢
  clear hW0
  have z0 := HRB.out.cell (j := 0) rfl
  have z1 := HRB.out.cell (j := 1) rfl
  have z2 := HRB.out.cell (j := 2) rfl
  have z3 := HRB.out.cell (j := 3) rfl
  have z4 := HRB.out.cell (j := 4) rfl
  have z5 := HRB.out.cell (j := 5) rfl
  have z6 := HRB.out.cell (j := 6) rfl
  have zl := HRB.out.lt
  gi_wp2_with (first
    | (refine ⟨trivial, ?_⟩; gi_at_call 63; refine (callsIn_wide.2 HL.out).mono ?_; rintro e w1 ⟨rfl, rfl⟩)
    | (refine ⟨trivial, ?_⟩; gi_at_call 53; refine (callsIn_wide.2 (scheck_nil _ _ _ _ _ _ _ _)).mono ?_; rintro e w1 ⟨rfl, hg1⟩; have HG1 := hid hg1; have X6 := HR6.out.gr hg1; have X7 := HR7.out.gr hg1; have q0 := X6.cell (j := 0) rfl; have q1 := X6.free 0; have ql := X6.lt; have p0 := X7.cell (j := 0) rfl; have p1' := X7.free 0; have pl := X7.lt; have HX6 := hid X6; have HX7 := hid X7; clear hg1 X6 X7))
  have tg : Touch (fun i => i = w.heap.size + 1 ∨ i = w.heap.size + 2) w1 ((w1.setCell ⟨w.heap.size + 1, 0, none⟩ (.int .i64 0)).setCell ⟨w.heap.size + 1 + 1, 0, none⟩ (.int .i64 9)) :=
    ((Touch.refl _ w1).setCell (a := ⟨w.heap.size + 1, 0, none⟩) (fun _ => .inl rfl) _).setCell (a := ⟨w.heap.size + 1 + 1, 0, none⟩) (fun _ => .inr rfl) _
  have b6 : Rec ((w1.setCell ⟨w.heap.size + 1, 0, none⟩ (.int .i64 0)).setCell ⟨w.heap.size + 1 + 1, 0, none⟩ (.int .i64 9)) (w.heap.size + 1) 3 [.int .i64 0] :=
    (HX6.out.set 0 (.int .i64 0)).touch ((Touch.refl (fun i => i = w.heap.size + 1 + 1) _).setCell (a := ⟨w.heap.size + 1 + 1, 0, none⟩) (fun _ => rfl) _) (by omega)
  have b7 : Rec ((w1.setCell ⟨w.heap.size + 1, 0, none⟩ (.int .i64 0)).setCell ⟨w.heap.size + 1 + 1, 0, none⟩ (.int .i64 9)) (w.heap.size + 1 + 1) 39 [.int .i64 9] :=
    (HX7.out.touch ((Touch.refl (fun i => i = w.heap.size + 1) w1).setCell (a := ⟨w.heap.size + 1, 0, none⟩) (fun _ => rfl) (.int .i64 0)) (by omega)).set 0 (.int .i64 9)
  have hg : Gr w ((w1.setCell ⟨w.heap.size + 1, 0, none⟩ (.int .i64 0)).setCell ⟨w.heap.size + 1 + 1, 0, none⟩ (.int .i64 9)) :=
    ((((HG.out.trans HG1.out).touch _).trans tg).mono (T := fun _ => False) (fun i hi h => by omega)).gr
  generalize ((w1.setCell ⟨w.heap.size + 1, 0, none⟩ (.int .i64 0)).setCell ⟨w.heap.size + 1 + 1, 0, none⟩ (.int .i64 9)) = W5 at *
  have h1' := b6.cell (j := 0) rfl
  have h2' := b7.cell (j := 0) rfl
  refine ⟨.tuple #[.int .i64 0, .int .i64 9], ?_, rfl, hg⟩
  simp [results, Tryz.f67, go_sem, h1', h2']
/-- Of nobody nothing is copied. -/
theorem run_nobody {p r : Option Addr} {c0 c1 c2 c3 c4 c5 c6 : Int} {w : World}
    (HS : ∀ W, Gr w W → Calls Tryz.prog 67 #[.pointer p, .pointer r, .agg #[.int .i64 c0, .int .i64 c1, .int .i64 c2, .int .i64 c3, .int .i64 c4, .int .i64 c5, .int .i64 c6]] W fun e w' => e = .returned (.tuple #[.int .i64 0, .int .i64 9]) ∧ Gr W w') :
    Calls Tryz.prog 17 #[.pointer p, .pointer r, .agg #[.int .i64 c0, .int .i64 c1, .int .i64 c2, .int .i64 c3, .int .i64 c4, .int .i64 c5, .int .i64 c6]] w fun e w' => e = .returned (.tuple #[.int .i64 0, .int .i64 9]) ∧ Gr w w' := by
  have HSS := hid HS
  have HG := hid (fun o => (Gr.refl w).alloc o)
  clear HS
  go_enter Tryz.func17, Tryz.ntmps17
  go_wp2_with (go_at_call 67; refine (HSS.out _ (HG.out _)).mono ?_; rintro e w1 ⟨rfl, hg1⟩; have HG1 := hid hg1; clear hg1)
  go_ret2
  exact ⟨ret2 rfl rfl, (HG.out _).trans HG1.out⟩
def x0C : LaidC := ⟨0, [], [], [], 0, 0, 0⟩
set_option maxRecDepth 100000 in
set_option maxHeartbeats 3200000 in
theorem nobody25_walk {w : World} (hT : TabAt w) (c0 c1 c2 c3 c4 c5 c6 : Int) : Gets Tryz.prog 4 #[.agg #[.int .i64 c0, .int .i64 c1, .int .i64 c2, .int .i64 c3, .int .i64 c4, .int .i64 c5, .int .i64 c6]] w (.bool true) := by
  have HT := hid hT
  have HG1 := hid ((Gr.refl w).alloc (.cells #[.int .i64 c0, .int .i64 c1, .int .i64 c2, .int .i64 c3, .int .i64 c4, .int .i64 c5, .int .i64 c6] 44))
  have hrb := Rec.new w 44 [.int .i64 c0, .int .i64 c1, .int .i64 c2, .int .i64 c3, .int .i64 c4, .int .i64 c5, .int .i64 c6]
  obtain ⟨W1, hW1⟩ : ∃ W1, W1 = w.alloc (.cells #[.int .i64 c0, .int .i64 c1, .int .i64 c2, .int .i64 c3, .int .i64 c4, .int .i64 c5, .int .i64 c6] 44) := ⟨_, rfl⟩
  rw [show w.alloc (.cells ([.int .i64 c0, .int .i64 c1, .int .i64 c2, .int .i64 c3, .int .i64 c4, .int .i64 c5, .int .i64 c6] : List Value).toArray 44) = W1 from hW1.symm] at hrb
  rw [← hW1] at HG1
  have HRB := hid hrb
  have HL := hid (lay24_walk (w := W1) (x := x0C) (A1 := none) (A2 := none) (A3 := none) (c1 := 0) (c2 := 0) (c3 := 0) (more := 9) ⟨fun i hi => absurd hi (Nat.not_lt_zero _), fun i hi => absurd hi (Nat.not_lt_zero _), fun i hi => absurd hi (Nat.not_lt_zero _), by decide, by decide, by decide, by decide, by decide, by decide, by decide⟩ (by decide))
  unfold laidV at HL
  clear hT hrb
  unfold Gets
  go_enter Tryz.func4, Tryz.ntmps4
  go_upto_region 1 with (fail)
  rw [← hW1]
  clear hW1
  go_upto_region 6 with (go_at_call 13; refine HL.out.mono ?_; rintro e w1 ⟨hp, q, r, g, A, c, v0, SV, rfl, hg1, hrn, hz0, hvm, hrt, hrec, hwr, hsv, hs1, hs2, hs3, hs4, hs5⟩; have HG := hid (HG1.out.trans hg1); have HRT := hid hrt; have HRC := hid hrec; have HRB2 := hid (HRB.out.gr hg1); clear hg1 hrn hz0 hvm hrt hrec hwr hsv hs1 hs2 hs3 hs4 hs5)
  have HCw1 := HRC
  have HBw1 := HRB2
  unfold heapL at HCw1
  obtain ⟨Sx, hSx⟩ : ∃ Sx : World → Prop, Sx = fun W' => Gr w1 W' := ⟨_, rfl⟩
  have z0 : ∀ p : Held Sx, p.w.cell? ⟨hp, 1, none⟩ = some (.pointer (some ⟨r, 0, none⟩)) := fun p => (HCw1.out.gr (Held.get hSx p)).cell (j := 1) rfl
  have y0 : ∀ p : Held Sx, p.w.cell? ⟨w.heap.size, 0, none⟩ = some (.int .i64 c0) := fun p => (HBw1.out.gr (Held.get hSx p)).cell (j := 0) rfl
  have y1 : ∀ p : Held Sx, p.w.cell? ⟨w.heap.size, 1, none⟩ = some (.int .i64 c1) := fun p => (HBw1.out.gr (Held.get hSx p)).cell (j := 1) rfl
  have y2 : ∀ p : Held Sx, p.w.cell? ⟨w.heap.size, 2, none⟩ = some (.int .i64 c2) := fun p => (HBw1.out.gr (Held.get hSx p)).cell (j := 2) rfl
  have y3 : ∀ p : Held Sx, p.w.cell? ⟨w.heap.size, 3, none⟩ = some (.int .i64 c3) := fun p => (HBw1.out.gr (Held.get hSx p)).cell (j := 3) rfl
  have y4 : ∀ p : Held Sx, p.w.cell? ⟨w.heap.size, 4, none⟩ = some (.int .i64 c4) := fun p => (HBw1.out.gr (Held.get hSx p)).cell (j := 4) rfl
  have y5 : ∀ p : Held Sx, p.w.cell? ⟨w.heap.size, 5, none⟩ = some (.int .i64 c5) := fun p => (HBw1.out.gr (Held.get hSx p)).cell (j := 5) rfl
  have y6 : ∀ p : Held Sx, p.w.cell? ⟨w.heap.size, 6, none⟩ = some (.int .i64 c6) := fun p => (HBw1.out.gr (Held.get hSx p)).cell (j := 6) rfl
  have HS : Hid (∀ W', Gr w1 W' → Sx W') := ⟨fun W' h => by rw [hSx]; exact h⟩
  have hS0 := HS.out _ (Gr.refl w1).drew
  have inst : Inhabited (Held Sx) := ⟨⟨_, hS0⟩⟩
  clear hSx
  refine wp_region_mixS Sx 12 [([0, 1, 2, 3, 4, 5], 6)] [7, 8, 9, 10, 11] (by kernel_rfl) (by kernel_rfl) hS0 ?_
  refine segs_step ?_
  simp only [opsAt, List.getElem?_cons_zero, List.getElem?_cons_succ]
  repeat (go_big_quiet_step (fail))
  refine wpQuiet_nil ?_
  go_wp2_with (go_at_call 17; refine (run_nobody (fun W hW => sound_nil_m _ _ _ _ _ _ _ ((HRT.out.gr (Gr.refl _).drew).gr hW))).mono ?_; rintro e w2 ⟨rfl, hg2⟩; have HG2 := hid ((Gr.refl w1).drew.trans hg2); clear hg2)
  refine ⟨.inr (Held.of (HS.out _ HG2.out)), ?_⟩
  refine segs_end ?_
  simp only [opsAt, List.getElem?_cons_zero, List.getElem?_cons_succ]
  repeat (go_big_quiet_step (fail))
  refine wpQuiet_nil ?_
  refine NoPanic.normal ?_
  clear z0 y0 y1 y2 y3 y4 y5 y6 hS0 inst
  clear HS Sx
  have HCw2 := hid (HCw1.out.gr HG2.out)
  have HBw2 := hid (HBw1.out.gr HG2.out)
  clear HCw1 HBw1
  go_upto_region 7 with (fail)
  obtain ⟨Sx, hSx⟩ : ∃ Sx : World → Prop, Sx = fun W' => Gr w2 W' := ⟨_, rfl⟩
  have z0 : ∀ p : Held Sx, p.w.cell? ⟨hp, 0, none⟩ = some (.pointer (some ⟨q, 0, none⟩)) := fun p => (HCw2.out.gr (Held.get hSx p)).cell (j := 0) rfl
  have y0 : ∀ p : Held Sx, p.w.cell? ⟨w.heap.size, 0, none⟩ = some (.int .i64 c0) := fun p => (HBw2.out.gr (Held.get hSx p)).cell (j := 0) rfl
  have y1 : ∀ p : Held Sx, p.w.cell? ⟨w.heap.size, 1, none⟩ = some (.int .i64 c1) := fun p => (HBw2.out.gr (Held.get hSx p)).cell (j := 1) rfl
  have y2 : ∀ p : Held Sx, p.w.cell? ⟨w.heap.size, 2, none⟩ = some (.int .i64 c2) := fun p => (HBw2.out.gr (Held.get hSx p)).cell (j := 2) rfl
  have y3 : ∀ p : Held Sx, p.w.cell? ⟨w.heap.size, 3, none⟩ = some (.int .i64 c3) := fun p => (HBw2.out.gr (Held.get hSx p)).cell (j := 3) rfl
  have y4 : ∀ p : Held Sx, p.w.cell? ⟨w.heap.size, 4, none⟩ = some (.int .i64 c4) := fun p => (HBw2.out.gr (Held.get hSx p)).cell (j := 4) rfl
  have y5 : ∀ p : Held Sx, p.w.cell? ⟨w.heap.size, 5, none⟩ = some (.int .i64 c5) := fun p => (HBw2.out.gr (Held.get hSx p)).cell (j := 5) rfl
  have y6 : ∀ p : Held Sx, p.w.cell? ⟨w.heap.size, 6, none⟩ = some (.int .i64 c6) := fun p => (HBw2.out.gr (Held.get hSx p)).cell (j := 6) rfl
  have HS : Hid (∀ W', Gr w2 W' → Sx W') := ⟨fun W' h => by rw [hSx]; exact h⟩
  have hS0 := HS.out _ (Gr.refl w2).drew
  have inst : Inhabited (Held Sx) := ⟨⟨_, hS0⟩⟩
  clear hSx
  refine wp_region_mixS Sx 12 [([0, 1, 2, 3, 4, 5], 6)] [7, 8, 9, 10, 11] (by kernel_rfl) (by kernel_rfl) hS0 ?_
  refine segs_step ?_
  simp only [opsAt, List.getElem?_cons_zero, List.getElem?_cons_succ]
  repeat (go_big_quiet_step (fail))
  refine wpQuiet_nil ?_
  go_wp2_with (go_at_call 17; refine (run_nobody (fun W hW => sound_nil_r _ _ _ _ _ _ _ _ _)).mono ?_; rintro e w3 ⟨rfl, hg3⟩; have HG3 := hid ((Gr.refl w2).drew.trans hg3); clear hg3)
  refine ⟨.inr (Held.of (HS.out _ HG3.out)), ?_⟩
  refine segs_end ?_
  simp only [opsAt, List.getElem?_cons_zero, List.getElem?_cons_succ]
  repeat (go_big_quiet_step (fail))
  refine wpQuiet_nil ?_
  refine NoPanic.normal ?_
  clear z0 y0 y1 y2 y3 y4 y5 y6 hS0 inst
  clear HS Sx
  have HGF := hid ((HG.out.trans HG2.out).trans HG3.out)
  go_wp2_with (go_at_call 15; refine (lives25 (HGF.out.tab HT.out.lt HT.out)).mono ?_; rintro e w4 ⟨rfl, hg4⟩; have HG4 := hid hg4; clear hg4)
  go_ret
  exact ⟨rfl, HGF.out.trans HG4.out⟩
end Go.Proofs.YtbmidhlilafgeaaGreatDoor
