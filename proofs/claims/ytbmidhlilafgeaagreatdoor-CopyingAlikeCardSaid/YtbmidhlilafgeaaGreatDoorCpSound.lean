/- Package copying: sound, where the roots reach whole objects of the run. -/
import Derived.Test.YtbmidhlilafgeaaGreatDoorCopierB
import Derived.Test.YtbmidhlilafgeaaGreatDoorMixT
import Derived.Test.YtbmidhlilafgeaaGreatDoorChk
import Derived.Test.YtbmidhlilafgeaaGreatDoorKM8
import Derived.Test.YtbmidhlilafgeaaGreatDoorKMA
import Derived.Test.YtbmidhlilafgeaaGreatDoorKM9
import Derived.OwnWalkIn
namespace Go.Proofs.YtbmidhlilafgeaaGreatDoor
open Go.RowKit Go.Shelf Word
attribute [local go_sem] Oper.semAt_some

/-- What copying asks of a memory and roots. -/
structure CpOk (v : Vm) (rs : List Int) (c : Cf) : Prop where
  cf : CfOk v.pl.pg v.n c
  sd : Sound v rs v.n
  inn : ∀ L, Marks v rs v.n L → (∀ o ∈ L, c.fr ≤ o.1 ∧ o.1 + o.2 ≤ c.tp) ∧ c.to + sizes L ≤ c.lm
def SoundEnd (w : World) (S : Nat → Prop) (q : Nat) (v : Vm) (rs : List Int) (e : Ending) (w' : World) : Prop :=
  ∃ L, Marks v rs v.n L ∧ e = .returned (.tuple #[.int .i64 (sizes L : Nat), .int .i64 0]) ∧ Touch S w w' ∧ VmAt w' (cutS S w) q v
/-- Behind the marking. -/
structure SndI (w wx : World) (S : Nat → Prop) (q m p1 b1 p2 b2 b11 : Nat) (v : Vm) (rs : List Int) (c : Cf) (L : List Ob) (r vi : Int) : Prop where
  t : Touch S w wx
  vm : VmAt wx (cutS S w) q v
  ex : Ext wx m p1 b1 p2 b2 v.n L
  mks : Marks v rs v.n L
  st : Rec wx b11 179 [.int .i64 (L.length : Nat), .int .i64 (sizes L : Nat), .int .i64 r, .int .i64 vi]
  bx : Rec wx w.heap.size 34 [.int .i64 c.fr, .int .i64 c.tp, .int .i64 c.to, .int .i64 c.lm, .int .i64 c.bk, .int .i64 c.st, .int .i64 c.ah]
  r6 : Rec wx (w.heap.size + 1) 3 [.int .i64 0]
  r7 : Rec wx (w.heap.size + 2) 39 [.int .i64 0]
  lm : w.heap.size + 3 ≤ m
  l1 : w.heap.size + 3 ≤ p1
  l2 : w.heap.size + 3 ≤ b1
  l3 : w.heap.size + 3 ≤ p2
  l4 : w.heap.size + 3 ≤ b2
  l5 : w.heap.size + 3 ≤ b11
section
variable {w : World} {S : Nat → Prop} {q r g : Nat} {v : Vm} {rs : List Int} {c : Cf}
set_option maxRecDepth 100000 in
set_option maxHeartbeats 3200000 in
theorem cp_sound (hV : VmAt w S q v) (hR : RtAt w r g rs) (hT : TabAt w) (htS : ¬ S 0) (hc : CpOk v rs c) :
    Calls Tryz.prog 67 #[.pointer (some ⟨q, 0, none⟩), .pointer (some ⟨r, 0, none⟩), cfV c] w (SoundEnd w S q v rs) := by
  have HV := hid hV.cut
  have HR := hid hR
  have HT := hid hT
  have HTS := hid htS
  have HC := hid hc
  have htl := hT.lt
  have hcf := hc.cf
  have hn1 : 1 ≤ v.n := by have := hcf.fr; have := hcf.tp; have := hcf.tn; have := hV.ok.page.1; omega
  have hn2 := hV.ok.n2
  have hne : rs.length ≠ 0 := fun e => hR.ne (List.eq_nil_of_length_eq_zero e)
  have hle := hR.le
  have HX := hid (fun W => ext_new v.n hn1 (by omega) W)
  have HST := hid (And.intro hcf.st.1 hcf.st.2)
  obtain ⟨n, hne0⟩ : ∃ n, n = rs.length := ⟨_, rfl⟩
  have HN := hid hne0
  rw [← hne0] at hne hle
  have d0 : ((n : Int) == 0) = false := by simp; omega
  have g1 : Gr w (((w.alloc (.cells #[.int .i64 c.fr, .int .i64 c.tp, .int .i64 c.to, .int .i64 c.lm, .int .i64 c.bk, .int .i64 c.st, .int .i64 c.ah] 34)).alloc (.cells #[.int .i64 0] 3)).alloc (.cells #[.int .i64 0] 39)) := (((Gr.refl w).alloc _).alloc _).alloc _
  have HG1 := hid g1
  clear hV hR hT htS hc hcf hne0 g1
  refine (callsIn_wide (n := 5)).1 ?_
  refine callsIn_of_wp_marks Tryz.func67 rfl trivial ?_ rfl
  simp only [Tryz.ntmps67, List.size_toArray, List.length_cons, List.length_nil, Nat.reduceAdd, Nat.reduceSub, Array.replicate_succ, Array.replicate_zero, List.push_toArray, List.append_toArray, List.nil_append, List.cons_append]
  unfold cfV
  gi_upto_region 1 with (fail)
  obtain ⟨W0, hW0⟩ : ∃ W0, W0 = (((w.alloc (.cells #[.int .i64 c.fr, .int .i64 c.tp, .int .i64 c.to, .int .i64 c.lm, .int .i64 c.bk, .int .i64 c.st, .int .i64 c.ah] 34)).alloc (.cells #[.int .i64 0] 3)).alloc (.cells #[.int .i64 0] 39)) := ⟨_, rfl⟩
  have hsz0 : W0.heap.size = w.heap.size + 3 := by rw [hW0]; simp only [World.size_alloc]
  have hg0 : Gr w W0 := by rw [hW0]; exact HG1.out
  have rb : Rec W0 w.heap.size 34 [.int .i64 c.fr, .int .i64 c.tp, .int .i64 c.to, .int .i64 c.lm, .int .i64 c.bk, .int .i64 c.st, .int .i64 c.ah] := by rw [hW0]; exact (Rec.new w _ [.int .i64 c.fr, .int .i64 c.tp, .int .i64 c.to, .int .i64 c.lm, .int .i64 c.bk, .int .i64 c.st, .int .i64 c.ah]).gr (((Gr.refl _).alloc _).alloc _)
  have r6 : Rec W0 (w.heap.size + 1) 3 [.int .i64 0] := by rw [hW0]; exact (new2 w _ 3 [.int .i64 0]).gr ((Gr.refl _).alloc _)
  have r7 : Rec W0 (w.heap.size + 2) 39 [.int .i64 0] := by
    rw [hW0]
    have := new2 (w.alloc (.cells #[.int .i64 c.fr, .int .i64 c.tp, .int .i64 c.to, .int .i64 c.lm, .int .i64 c.bk, .int .i64 c.st, .int .i64 c.ah] 34)) (.cells #[.int .i64 0] 3) 39 [.int .i64 0]
    rw [World.size_alloc] at this
    exact this
  rw [← hW0]
  clear hW0 HG1
  have HG0 := hid hg0
  have HRB := hid rb
  have HR6 := hid r6
  have HR7 := hid r7
  have z0 := rb.cell (j := 0) rfl
  have z1 := rb.cell (j := 1) rfl
  have z2 := rb.cell (j := 2) rfl
  have z3 := rb.cell (j := 3) rfl
  have z4 := rb.cell (j := 4) rfl
  have z5 := rb.cell (j := 5) rfl
  have z6 := rb.cell (j := 6) rfl
  have zl := rb.lt
  have HLEN := hid (fun (W : World) (g : Gr w W) => rt_len (HR.out.gr g))
  rw [← HN.out] at HLEN
  have HCK := hid (fun (W : World) (g : Gr w W) => slide_check (HV.out.gr g) HC.out.cf)
  unfold cfV at HCK
  have HWD := hid (fun (W : World) (g : Gr w W) => vm_words (HV.out.gr g))
  clear rb r6 r7 hg0
  gi_upto_region 7 with (first
    | (refine ⟨trivial, ?_⟩; gi_at_call 63; refine (callsIn_wide.2 (HLEN.out _ HG0.out)).mono ?_; rintro e w1 ⟨rfl, rfl⟩)
    | (refine ⟨trivial, ?_⟩; gi_at_call 53; refine (callsIn_wide.2 (HCK.out _ HG0.out)).mono ?_; rintro e w1 ⟨rfl, hg1⟩; have HG2 := hid hg1; clear hg1)
    | (refine ⟨trivial, ?_⟩; gi_at_call 33; refine (callsIn_wide.2 (HWD.out _ (HG0.out.trans HG2.out))).mono ?_; rintro e w2 ⟨rfl, rfl⟩)
    | (refine ⟨trivial, ?_⟩; gi_at_call 131; refine (callsIn_wide.2 (HX.out _)).mono ?_; rintro e w3 ⟨m, p1, b1, p2, b2, rfl, hg3, he3, hb0, hb1, hb2, hb3, hb4⟩; have HG3 := hid (HG2.out.trans hg3); have HE3 := hid he3; have HB := hid (And.intro (Nat.le_trans HG2.out.size hb0) (And.intro (Nat.le_trans HG2.out.size hb1) (And.intro (Nat.le_trans HG2.out.size hb2) (And.intro (Nat.le_trans HG2.out.size hb3) (Nat.le_trans HG2.out.size hb4))))); clear hg3 he3 hb0 hb1 hb2 hb3 hb4))
  gi_cut [11, 12] from 15 (fun s11 s12 wx => ∃ (b11 : Nat) (L : List Ob) (rv vi : Int), s11 = .pointer (some ⟨b11, 0, none⟩) ∧ s12 = .int .i64 0 ∧ Hid (SndI w wx S q m p1 b1 p2 b2 b11 v rs c L rv vi))
  case first =>
    have hBB := HB.out
    obtain ⟨hb0, hb1, hb2, hb3, hb4⟩ := hBB
    rw [hsz0] at hb0 hb1 hb2 hb3 hb4
    have hml := HE3.out.hm
    have hp1l := HE3.out.v1.hp
    have hb1l := HE3.out.v1.hb
    have hp2l := HE3.out.v2.hp
    have hb2l := HE3.out.v2.hb
    have hmi : ∀ i, mine m b1 b2 i → w.heap.size + 3 ≤ i ∧ i < w3.heap.size := fun i hi => by
      rcases hi with rfl | rfl | rfl
      · exact ⟨hb0, hml⟩
      · exact ⟨hb2, hb1l⟩
      · exact ⟨hb4, hb2l⟩
    have HMI := hid hmi
    have HALL := hid (fun (W : World) (g : Gr w3 W) => rt_all (HR.out.gr ((HG0.out.trans HG3.out).trans g)))
    rw [← HN.out] at HALL
    have HRUN : Hid (∀ (W : World) (g1 cp : Nat), Gr w3 W → w3.heap.size ≤ g1 → W.ownsRow 0 3 1 (.slice (some ⟨g1, 0, none⟩) n cp) n (zs rs) → Calls Tryz.prog 132 #[.iface 31 (.pointer (some ⟨q, 0, none⟩)), .slice (some ⟨g1, 0, none⟩) n cp, .pointer (some ⟨m, 0, none⟩), .int .i64 c.st] W fun e w' =>
        ∃ (L : List Ob) (rv vi : Int), e = .returned (.tuple #[.agg #[.int .i64 (L.length : Nat), .int .i64 (sizes L : Nat), .int .i64 rv, .int .i64 vi], .int .i64 0]) ∧ Touch (fun i => mine m b1 b2 i ∨ cutS S w i) W w' ∧ VmAt w' (cutS S w) q v ∧ Ext w' m p1 b1 p2 b2 v.n L ∧ Marks v rs v.n L) := ⟨fun W g1 cp hg hg1 ho => by
      rw [HN.out] at ho ⊢
      have hgw := (HG0.out.trans HG3.out).trans hg
      refine (mark_run (HV.out.gr hgw) (HE3.out.gr hg) (hgw.tab HT.out.lt HT.out) (fun i hi => ?_) (by unfold maxLen; have := HN.out; omega) (fun i hi h => by have := (hmi i h).1; have := hi.2; omega) (fun h => by have := h.2; omega) (fun h => by have := h.2; omega) (fun h => HTS.out h.1) (fun h => by have := (hmi _ h).1; omega) (c.st : Int)).mono ?_
      · exact ⟨g1, 0, rfl, (own_lt ho rfl).2, fun h => by have := (hmi _ h).2; omega, by rw [Nat.zero_add]; exact own_cell ho (zs_at hi)⟩
      · rintro e w' (⟨h, -⟩ | ⟨-, -, ht, hv, (⟨L, r', vi, rfl, he, hm, -⟩ | ⟨-, -, hn⟩)⟩)
        · have := HST.out; omega
        · exact ⟨L, r', vi, rfl, ht, hv, he, hm⟩
        · exact absurd HC.out.sd hn⟩
    have FIN : Hid (∀ (W1 W2 W3 : World) (b11 : Nat) (L : List Ob) (rv vi : Int), Gr w3 W1 → Touch (fun i => mine m b1 b2 i ∨ cutS S w i) W1 W2 → VmAt W2 (cutS S w) q v → Ext W2 m p1 b1 p2 b2 v.n L → Marks v rs v.n L → Touch (fun i => i = b11) W2 W3 → w3.heap.size ≤ b11 →
        Rec W3 b11 179 [.int .i64 (L.length : Nat), .int .i64 (sizes L : Nat), .int .i64 rv, .int .i64 vi] → SndI w W3 S q m p1 b1 p2 b2 b11 v rs c L rv vi) := ⟨fun W1 W2 W3 b11 L rv vi hg ht hv he hm ht3 hb hr => by
      have hz3 := (HG0.out.trans HG3.out).size
      have hz13 := HG3.out.size
      have hgw := (HG0.out.trans HG3.out).trans hg
      have hno : ∀ i, i < w.heap.size + 3 → w.heap.size ≤ i → ¬ (mine m b1 b2 i ∨ cutS S w i) := fun i h1 h2 h => by
        rcases h with h | h
        · have := (hmi i h).1; omega
        · have := h.2; omega
      refine ⟨((hgw.touch _).trans (ht.mono (T := fun i => mine m b1 b2 i ∨ S i) (fun i _ h => h.imp id (fun h => h.1)))).trans' (T := fun i => i = b11) ht3 (fun i hi h => by omega) |>.mono (fun i hi h => h.elim (fun h => by have := (hmi i h).1; omega) id), hv.touch ht3 (fun i hi _ h => by have := hi.2; omega), he.touch ht3 (by omega) (by omega) (by omega) (by omega) (by omega), hm, hr, ?_, ?_, ?_, hb0, hb1, hb2, hb3, hb4, by omega⟩
      · exact ((HRB.out.gr (HG3.out.trans hg)).touch ht (hno _ (by omega) (by omega))).touch ht3 (by omega)
      · exact ((HR6.out.gr (HG3.out.trans hg)).touch ht (hno _ (by omega) (by omega))).touch ht3 (by omega)
      · exact ((HR7.out.gr (HG3.out.trans hg)).touch ht (hno _ (by omega) (by omega))).touch ht3 (by omega)⟩
    have rb3 := HRB.out.gr HG3.out
    have x5 := rb3.cell (j := 5) rfl
    have x5l := rb3.lt
    have KS : Hid (∀ W', Gr w3 W' → W'.cell? ⟨w.heap.size, 5, none⟩ = some (.int .i64 c.st)) := ⟨fun W' h => (h.cell x5l 5).trans x5⟩
    have KT : Hid (∀ W1 W', Gr w3 W1 → Touch (fun i => mine m b1 b2 i ∨ cutS S w i) W1 W' → W'.cell? ⟨w.heap.size, 5, none⟩ = some (.int .i64 c.st)) := ⟨fun W1 W' h t => (t.cell (Nat.lt_of_lt_of_le x5l h.size) (fun h => by
      rcases h with h | h
      · have := (HMI.out _ h).1; omega
      · have := h.2; omega) 5).trans ((h.cell x5l 5).trans x5)⟩
    obtain ⟨Sx, hSx⟩ : ∃ Sx : World → Prop, Sx = fun W' => W'.cell? ⟨w.heap.size, 5, none⟩ = some (.int .i64 c.st) := ⟨_, rfl⟩
    have y1 : ∀ p' : Held Sx, p'.w.cell? ⟨w.heap.size, 5, none⟩ = some (.int .i64 c.st) := fun p => Held.get hSx p
    have hS0 : Sx w3.drew := by rw [hSx]; exact x5
    have HSX := hid hSx
    have inst : Inhabited (Held Sx) := ⟨⟨_, hS0⟩⟩
    clear hSx x5 rb3 z0 z1 z2 z3 z4 z5 z6 zl hmi hb0 hb1 hb2 hb3 hb4 hml hp1l hb1l hp2l hb2l
    refine wpIn_region_mixT Sx (.two [0, 1, 2, 4, 5, 6] 3 (.two [] 7 (.one [8, 9, 10] 11 (.one [] 12 (.fin [13]))) 11 (.one [] 7 (.one [8, 9, 10] 12 (.fin [13])))) 11 (.one [] 3 (.one [] 7 (.one [8, 9, 10] 12 (.fin [13]))))) wide_fn (by kernel_rfl) (by kernel_rfl) hS0 ?_
    refine mixTIn_two ?_
    simp only [opsAt, List.getElem?_cons_zero, List.getElem?_cons_succ]
    repeat (go_big_quiet_step (fail))
    refine wpQuiet_nil ⟨?_, ?_⟩
    · gi_wp2_with (refine ⟨trivial, ?_⟩; gi_at_call 16; refine (callsIn_wide.2 (HALL.out _ (Gr.refl w3).drew)).mono ?_; rintro e w4 ⟨g1, c1, rfl, hg4, hgl, ho4⟩; have HG4 := hid ((Gr.refl w3).drew.trans hg4); have HO4 := hid ho4; have HL4 := hid hgl; clear hg4 ho4 hgl)
      refine ⟨Held.of (by rw [HSX.out]; exact KS.out _ HG4.out), ?_⟩
      refine mixTIn_two ?_
      simp only [opsAt, List.getElem?_cons_zero, List.getElem?_cons_succ]
      refine wpQuiet_nil ⟨?_, ?_⟩
      · gi_wp2_with (refine ⟨trivial, ?_⟩; gi_at_call 132; refine (callsIn_wide.2 (HRUN.out _ g1 c1 HG4.out HL4.out HO4.out)).mono ?_; rintro e w5 ⟨L, rv, vi, rfl, ht5, hv5, he5, hm5⟩; have HT5 := hid ht5; have HV5 := hid hv5; have HE5 := hid he5; have HM5 := hid hm5; clear ht5 hv5 he5 hm5)
        refine ⟨Held.of (by rw [HSX.out]; exact KT.out _ _ HG4.out HT5.out), ?_⟩
        refine mixTIn_one ?_
        simp only [opsAt, List.getElem?_cons_zero, List.getElem?_cons_succ]
        repeat (go_big_quiet_step (fail))
        refine wpQuiet_nil ?_
        have u5 := KT.out _ _ HG4.out HT5.out
        have u5l := lt_cell u5
        gi_wp2
        refine ⟨Held.of (by rw [HSX.out]; exact (((Gr.refl w5).alloc _).cell u5l 5).trans u5), ?_⟩
        refine mixTIn_one ?_
        simp only [opsAt, List.getElem?_cons_zero, List.getElem?_cons_succ]
        refine wpQuiet_nil ?_
        gi_wp2
        refine ⟨Held.of (by rw [HSX.out]; exact (((Gr.refl w5).alloc _).cell u5l 5).trans u5), ?_⟩
        refine mixTIn_fin ?_
        simp only [opsAt, List.getElem?_cons_zero, List.getElem?_cons_succ]
        repeat (go_big_quiet_step (fail))
        refine wpQuiet_nil ?_
        refine NoPanic.normal ?_
        gi_wp2
        gi_meet
        exact ⟨_, L, rv, vi, rfl, rfl, ⟨FIN.out _ _ _ _ L rv vi HG4.out HT5.out HV5.out HE5.out HM5.out (((Gr.refl w5).alloc _).touch _) (Nat.le_trans HG4.out.size HT5.out.size) (Rec.new w5 _ [.int .i64 (L.length : Nat), .int .i64 (sizes L : Nat), .int .i64 rv, .int .i64 vi])⟩⟩
      · have x4 := KS.out _ HG4.out
        have x4l := lt_cell x4
        gi_wp2
        refine ⟨Held.of (by rw [HSX.out]; exact (((Gr.refl w4).alloc _).cell x4l 5).trans x4), ?_⟩
        refine mixTIn_one ?_
        simp only [opsAt, List.getElem?_cons_zero, List.getElem?_cons_succ]
        refine wpQuiet_nil ?_
        have HRA := hid (Rec.new w4 179 [.int .i64 0, .int .i64 0, .int .i64 0, .int .i64 0])
        have HGA := hid (HG4.out.alloc (.cells #[.int .i64 0, .int .i64 0, .int .i64 0, .int .i64 0] 179))
        have HNB : Hid (¬ (mine m b1 b2 w4.heap.size ∨ cutS S w w4.heap.size)) := ⟨fun h => by
          have := HG4.out.size
          rcases h with h | h
          · have := (HMI.out _ h).2; omega
          · have := h.2; have := (HG0.out.trans HG3.out).size; omega⟩
        have HNW : Hid (¬ w.heap.size = w4.heap.size) := ⟨by have := HG4.out.size; omega⟩
        have HOA := hid (own_gr HO4.out ((Gr.refl w4).alloc (.cells #[.int .i64 0, .int .i64 0, .int .i64 0, .int .i64 0] 179)))
        have HBA : Hid (w3.heap.size ≤ w4.heap.size) := ⟨HG4.out.size⟩
        obtain ⟨bA, hbA⟩ : ∃ bA, bA = w4.heap.size := ⟨_, rfl⟩
        obtain ⟨WA, hWA⟩ : ∃ WA, WA = w4.alloc (.cells #[.int .i64 0, .int .i64 0, .int .i64 0, .int .i64 0] 179) := ⟨_, rfl⟩
        rw [show w4.alloc (.cells ([.int .i64 0, .int .i64 0, .int .i64 0, .int .i64 0] : List Value).toArray 179) = WA from hWA.symm] at HRA
        rw [← hWA] at HGA HOA ⊢
        rw [← hbA] at HRA HNB HNW HBA ⊢
        clear hbA hWA x4 x4l
        gi_wp2_with (refine ⟨trivial, ?_⟩; gi_at_call 132; refine (callsIn_wide.2 (HRUN.out _ g1 c1 HGA.out HL4.out HOA.out)).mono ?_; rintro e w5 ⟨L, rv, vi, rfl, ht5, hv5, he5, hm5⟩; have HT5 := hid ht5; have HV5 := hid hv5; have HE5 := hid he5; have HM5 := hid hm5; have HR5 := hid (HRA.out.touch ht5 (HNB.out)); have q0 := HR5.out.cell (j := 0) rfl; have q1 := HR5.out.cell (j := 1) rfl; have q2 := HR5.out.cell (j := 2) rfl; have q3 := HR5.out.cell (j := 3) rfl; have qf := HR5.out.free; have ql := HR5.out.lt; clear ht5 hv5 he5 hm5)
        refine ⟨Held.of (by rw [HSX.out]; exact KT.out _ _ HGA.out HT5.out), ?_⟩
        refine mixTIn_one ?_
        simp only [opsAt, List.getElem?_cons_zero, List.getElem?_cons_succ]
        repeat (go_big_quiet_step (fail))
        refine wpQuiet_nil ?_
        gi_wp2
        have R5 := (((HR5.out.set 0 (.int .i64 (L.length : Nat))).set 1 (.int .i64 (sizes L : Nat))).set 2 (.int .i64 rv)).set 3 (.int .i64 vi)
        have t5 := st4_self w5 bA (.int .i64 (L.length : Nat)) (.int .i64 (sizes L : Nat)) (.int .i64 rv) (.int .i64 vi)
        have KF := (t5.cell (lt_cell (KT.out _ _ HGA.out HT5.out)) HNW.out 5).trans (KT.out _ _ HGA.out HT5.out)
        refine ⟨Held.of (by rw [HSX.out]; exact KF), ?_⟩
        refine mixTIn_fin ?_
        simp only [opsAt, List.getElem?_cons_zero, List.getElem?_cons_succ]
        repeat (go_big_quiet_step (fail))
        refine wpQuiet_nil ?_
        refine NoPanic.normal ?_
        gi_wp2
        gi_meet
        exact ⟨_, L, rv, vi, rfl, rfl, ⟨FIN.out _ _ _ _ L rv vi HGA.out HT5.out HV5.out HE5.out HM5.out t5 HBA.out R5⟩⟩
    · gi_wp2
      have x3 := KS.out _ (Gr.refl w3)
      have x3l := lt_cell x3
      refine ⟨Held.of (by rw [HSX.out]; exact KS.out _ ((Gr.refl w3).alloc _).drew), ?_⟩
      refine mixTIn_one ?_
      simp only [opsAt, List.getElem?_cons_zero, List.getElem?_cons_succ]
      refine wpQuiet_nil ?_
      have HRA := hid ((Rec.new w3 179 [.int .i64 0, .int .i64 0, .int .i64 0, .int .i64 0]).gr (Gr.refl _).drew)
      have HGA := hid ((Gr.refl w3).alloc (.cells #[.int .i64 0, .int .i64 0, .int .i64 0, .int .i64 0] 179)).drew
      have HNB : Hid (¬ (mine m b1 b2 w3.heap.size ∨ cutS S w w3.heap.size)) := ⟨fun h => by
        rcases h with h | h
        · have := (HMI.out _ h).2; omega
        · have := h.2; have := (HG0.out.trans HG3.out).size; omega⟩
      have HNW : Hid (¬ w.heap.size = w3.heap.size) := ⟨by omega⟩
      have HBA : Hid (w3.heap.size ≤ w3.heap.size) := ⟨Nat.le_refl _⟩
      obtain ⟨WA, hWA⟩ : ∃ WA, WA = (w3.alloc (.cells #[.int .i64 0, .int .i64 0, .int .i64 0, .int .i64 0] 179)).drew := ⟨_, rfl⟩
      rw [show (w3.alloc (.cells ([.int .i64 0, .int .i64 0, .int .i64 0, .int .i64 0] : List Value).toArray 179)).drew = WA from hWA.symm] at HRA
      rw [← hWA] at HGA ⊢
      clear hWA
      obtain ⟨bA, hbA⟩ : ∃ bA, bA = w3.heap.size := ⟨_, rfl⟩
      rw [← hbA] at HRA HNB HNW
      rw [show w3.heap.size ≤ w3.heap.size ↔ w3.heap.size ≤ bA by rw [hbA]] at HBA
      rw [show w3.heap.size = bA from hbA.symm]
      clear hbA x3 x3l
      gi_wp2_with (refine ⟨trivial, ?_⟩; gi_at_call 16; refine (callsIn_wide.2 (HALL.out _ HGA.out)).mono ?_; rintro e w4 ⟨g1, c1, rfl, hg4, hgl, ho4⟩; have HG4 := hid (HGA.out.trans hg4); have HRA4 := hid (HRA.out.gr hg4); have HO4 := hid ho4; have HL4 := hid (Nat.le_trans HGA.out.size hgl); clear hg4 ho4 hgl)
      refine ⟨Held.of (by rw [HSX.out]; exact KS.out _ HG4.out), ?_⟩
      refine mixTIn_one ?_
      simp only [opsAt, List.getElem?_cons_zero, List.getElem?_cons_succ]
      refine wpQuiet_nil ?_
      gi_wp2_with (refine ⟨trivial, ?_⟩; gi_at_call 132; refine (callsIn_wide.2 (HRUN.out _ g1 c1 HG4.out HL4.out HO4.out)).mono ?_; rintro e w5 ⟨L, rv, vi, rfl, ht5, hv5, he5, hm5⟩; have HT5 := hid ht5; have HV5 := hid hv5; have HE5 := hid he5; have HM5 := hid hm5; have HR5 := hid (HRA4.out.touch ht5 (HNB.out)); have q0 := HR5.out.cell (j := 0) rfl; have q1 := HR5.out.cell (j := 1) rfl; have q2 := HR5.out.cell (j := 2) rfl; have q3 := HR5.out.cell (j := 3) rfl; have qf := HR5.out.free; have ql := HR5.out.lt; clear ht5 hv5 he5 hm5)
      refine ⟨Held.of (by rw [HSX.out]; exact KT.out _ _ HG4.out HT5.out), ?_⟩
      refine mixTIn_one ?_
      simp only [opsAt, List.getElem?_cons_zero, List.getElem?_cons_succ]
      repeat (go_big_quiet_step (fail))
      refine wpQuiet_nil ?_
      gi_wp2
      have R5 := (((HR5.out.set 0 (.int .i64 (L.length : Nat))).set 1 (.int .i64 (sizes L : Nat))).set 2 (.int .i64 rv)).set 3 (.int .i64 vi)
      have t5 := st4_self w5 bA (.int .i64 (L.length : Nat)) (.int .i64 (sizes L : Nat)) (.int .i64 rv) (.int .i64 vi)
      have KF := (t5.cell (lt_cell (KT.out _ _ HG4.out HT5.out)) HNW.out 5).trans (KT.out _ _ HG4.out HT5.out)
      refine ⟨Held.of (by rw [HSX.out]; exact KF), ?_⟩
      refine mixTIn_fin ?_
      simp only [opsAt, List.getElem?_cons_zero, List.getElem?_cons_succ]
      repeat (go_big_quiet_step (fail))
      refine wpQuiet_nil ?_
      refine NoPanic.normal ?_
      gi_wp2
      gi_meet
      exact ⟨_, L, rv, vi, rfl, rfl, ⟨FIN.out _ _ _ _ L rv vi HG4.out HT5.out HV5.out HE5.out HM5.out t5 HBA.out R5⟩⟩
  case rest =>
    obtain ⟨b11, L, rv, vi, rfl, rfl, HI⟩ := hcut
    clear z0 z1 z2 z3 z4 z5 z6 zl
    obtain ⟨hin, htot⟩ := HC.out.inn L HI.out.mks
    have HIN := hid hin
    have HTOT := hid htot
    clear hin htot
    gi_wp2_with (refine ⟨trivial, ?_⟩; gi_at_call 86; refine (callsIn_wide.2 (all_call (some ⟨m, 0, none⟩))).mono ?_; rintro e w1 ⟨rfl, rfl⟩)
    obtain ⟨W1, hW1⟩ : ∃ W1, W1 = wc.alloc (.cells #[.pointer (some ⟨m, 0, none⟩)] 124) := ⟨_, rfl⟩
    have hg1 : Gr wc W1 := by rw [hW1]; exact (Gr.refl wc).alloc _
    have hs1 : W1.heap.size = wc.heap.size + 1 := by rw [hW1, World.size_alloc]
    have k4 : W1.cell? ⟨wc.heap.size, 0, none⟩ = some (.pointer (some ⟨m, 0, none⟩)) := by
      rw [hW1]; exact (Boxed.new wc 124 (.pointer (some ⟨m, 0, none⟩))).cell
    rw [← hW1]
    have hex := HI.out.ex
    have hml := hex.hm
    have hp1l := hex.v1.hp
    have hb1l := hex.v1.hb
    have hp2l := hex.v2.hp
    have hb2l := hex.v2.hb
    have hwz := HI.out.t.size
    have hTc : TabAt wc := HI.out.t.tab htl HTS.out HT.out
    have HTC := hid hTc
    have htl2 := hTc.lt
    have hrb := HI.out.bx
    have hrl := hrb.lt
    clear hW1 hTc hex
    have tI : ∀ (j : Nat) A B, (Touch (fun i => W1.heap.size ≤ i) W1 A ∧ j ≤ L.length) → Touch (fun i => W1.heap.size ≤ i ∧ i < W1.heap.size + 2 + 4) A B → (Touch (fun i => W1.heap.size ≤ i) W1 B ∧ j ≤ L.length) := fun j A B h t => ⟨h.1.trans (t.mono (fun i _ h => h.1)), h.2⟩
    refine range_lawU (K := 4) (s0 := 0) rfl (by omega) (gf := 150) (lb := #[.pointer (some ⟨wc.heap.size, 0, none⟩)]) rfl trivial (enters_of Tryz.func150 (by kernel_rfl) rfl)
      (all_seqU _ wc.heap.size m p1 b1 p2 b2 v.n L _) (fun _ => rfl)
      (fun (j : Nat) A => Touch (fun i => W1.heap.size ≤ i) W1 A ∧ j ≤ L.length) (fun _ _ => False) tI (fun _ _ _ h _ => h)
      (fun j A h => ⟨(HI.out.ex.gr hg1).touch h.1 (by omega) (by omega) (by omega) (by omega) (by omega), (hg1.tab htl2 HTC.out).touch' h.1 (by omega), (h.1.cell (by omega) (by omega) 0).trans k4, h.2⟩)
      ⟨Touch.refl _ _, Nat.zero_le _⟩ ?round ?done ?stop
    case round =>
      intro lp j x W3 hsz3 hI3 hgv
      dsimp only [encO]
      gi_wp2
      refine ⟨Gr.refl _, fun W4 ht4 hI4 => ?_⟩
      have hjl : j < L.length := by
        rcases Nat.lt_or_ge j L.length with h | h
        · exact h
        · unfold AllGives at hgv; rw [List.getElem?_eq_none h] at hgv; cases hgv
      obtain rfl : x = L[j] := by unfold AllGives at hgv; rw [List.getElem?_eq_getElem hjl] at hgv; exact (Option.some.inj hgv).symm
      obtain ⟨i1, i2⟩ := HIN.out _ (List.getElem_mem hjl)
      have hrb4 := (hrb.gr hg1).touch hI4.1 (by omega)
      have c0 := hrb4.cell (j := 0) rfl
      have c1 := hrb4.cell (j := 1) rfl
      have cl := hrb4.lt
      have hsb := (HI.out.ex.good.sz _ (List.getElem_mem hjl)).2
      obtain ⟨sa, hsa⟩ : ∃ s, s = L[j].1 := ⟨_, rfl⟩
      obtain ⟨sz, hsz⟩ : ∃ s, s = L[j].2 := ⟨_, rfl⟩
      rw [← hsa] at i1 i2 hsb ⊢
      rw [← hsz] at i2 hsb ⊢
      have e0 : decide ((sa : Int) < (c.fr : Int)) = false := decide_eq_false (by omega)
      have e1 : decide ((c.tp : Int) < (sa : Int) + (sz : Int)) = false := decide_eq_false (by omega)
      have e2 : decide (sa < c.fr) = false := decide_eq_false (by omega)
      have HI4 := hid hI4
      clear hI3 hI4 hgv ht4 hsa hsz
      gi_wp2
      exact ⟨Touch.refl _ _, j + 1, rfl, HI4.out.1, hjl⟩
    case done =>
      rintro D j W3 hD rfl hI3 hK
      have hs5l := HI.out.l5
      have hb11l := HI.out.st.lt
      have rs3 := (HI.out.st.gr hg1).touch hI3.1 (by omega)
      have rb3 := (hrb.gr hg1).touch hI3.1 (by omega)
      have ra3 := (HI.out.r6.gr hg1).touch hI3.1 (by have := HI.out.r6.lt; omega)
      have rz3 := (HI.out.r7.gr hg1).touch hI3.1 (by have := HI.out.r7.lt; omega)
      have a1 := rs3.cell (j := 1) rfl
      have al := rs3.lt
      have c3 := rb3.cell (j := 3) rfl
      have c2 := rb3.cell (j := 2) rfl
      have cl := rb3.lt
      have q0 := ra3.cell (j := 0) rfl
      have q1 := ra3.free 0
      have ql := ra3.lt
      have p0 := rz3.cell (j := 0) rfl
      have p1' := rz3.free 0
      have pl := rz3.lt
      have htt := HTOT.out
      have hlm := HC.out.cf.ln
      have hvm := HI.out.vm
      obtain ⟨sz, hsz⟩ : ∃ s, s = sizes L := ⟨_, rfl⟩
      have HSZ := hid hsz
      rw [← hsz] at a1 htt
      have e0 : decide ((c.lm : Int) - (c.to : Int) < (sz : Int)) = false := decide_eq_false (by omega)
      have HK := hid hK
      have HD := hid hD
      have HI3 := hid hI3
      have HRA := hid ra3
      have HRZ := hid rz3
      have hs3 := hI3.1.size
      clear hK hD hI3 hsz rs3 rb3 ra3 rz3
      gi_wp2
      have tg : Touch (fun i => i = w.heap.size + 1 ∨ i = w.heap.size + 2) W3 ((W3.setCell ⟨w.heap.size + 1, 0, none⟩ (.int .i64 (sz : Int))).setCell ⟨w.heap.size + 1 + 1, 0, none⟩ (.int .i64 0)) :=
        ((Touch.refl _ W3).setCell (a := ⟨w.heap.size + 1, 0, none⟩) (fun _ => .inl rfl) _).setCell (a := ⟨w.heap.size + 1 + 1, 0, none⟩) (fun _ => .inr rfl) _
      have b6 : Rec ((W3.setCell ⟨w.heap.size + 1, 0, none⟩ (.int .i64 (sz : Int))).setCell ⟨w.heap.size + 1 + 1, 0, none⟩ (.int .i64 0)) (w.heap.size + 1) 3 [.int .i64 (sz : Int)] :=
        (HRA.out.set 0 (.int .i64 (sz : Int))).touch ((Touch.refl (fun i => i = w.heap.size + 1 + 1) _).setCell (a := ⟨w.heap.size + 1 + 1, 0, none⟩) (fun _ => rfl) _) (by omega)
      have b7 : Rec ((W3.setCell ⟨w.heap.size + 1, 0, none⟩ (.int .i64 (sz : Int))).setCell ⟨w.heap.size + 1 + 1, 0, none⟩ (.int .i64 0)) (w.heap.size + 2) 39 [.int .i64 0] :=
        (HRZ.out.touch ((Touch.refl (fun i => i = w.heap.size + 1) W3).setCell (a := ⟨w.heap.size + 1, 0, none⟩) (fun _ => rfl) (.int .i64 (sz : Int))) (by omega)).set 0 (.int .i64 0)
      have hD := HD.out
      have hK' := (tg.block D (Array.getElem?_eq_some_iff.1 HK.out).1 (by omega)).trans HK.out
      generalize ((W3.setCell ⟨w.heap.size + 1, 0, none⟩ (.int .i64 (sz : Int))).setCell ⟨w.heap.size + 1 + 1, 0, none⟩ (.int .i64 0)) = W5 at *
      have k6 := b6.cell (j := 0) rfl
      have k7 := b7.cell (j := 0) rfl
      rw [show w.heap.size + 2 = w.heap.size + 1 + 1 from rfl] at k7
      refine ⟨by simp, .inl ⟨_, _, rfl, run_takeDeferred hK', ?_⟩⟩
      have h1' := cell_kept k6 (grownBy_putObj' _ D (.deferred none)) (fun r e => by cases e; exact ⟨_, hK', rfl⟩)
      have h2' := cell_kept k7 (grownBy_putObj' _ D (.deferred none)) (fun r e => by cases e; exact ⟨_, hK', rfl⟩)
      have tD : Touch (fun i => W1.heap.size ≤ i) W5 (W5.putObj D (.deferred none)) := touch_putObj _ D _ (by omega)
      refine ⟨.tuple #[.int .i64 (sz : Int), .int .i64 0], ?_, ?_⟩
      · simp [results, Tryz.f67, go_sem, h1', h2']
      · refine ⟨L, HI.out.mks, by rw [HSZ.out], ?_, ?_⟩
        · exact (((HI.out.t.trans (hg1.touch _)).trans' HI3.out.1 (fun i hi h => by omega)).trans' tg (fun i hi h => by omega)).trans' tD (fun i hi h => by omega)
        · exact (((hvm.gr hg1).touch HI3.out.1 (fun i hi _ h => by have := hi.2; omega)).touch tg (fun i hi _ h => by have := hi.2; omega)).touch tD (fun i hi _ h => by have := hi.2; omega)
    case stop =>
      rintro D c W3 hD h hK
      exact h.elim
end
end Go.Proofs.YtbmidhlilafgeaaGreatDoor
