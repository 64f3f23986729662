/- Part 9 of what PackingAlike leans on: my own lemmas, merged by shake.py. -/
import Derived.Test.YtbmidhlilafgeaaGreatDoorPackingAlikeH
section
namespace Go.Proofs.YtbmidhlilafgeaaGreatDoor
open Go.RowKit Go.Shelf Word
attribute [local go_sem] Oper.semAt_some

theorem pk_fwd {w : World} {m p1 b1 p2 b2 n : Nat} {L : List Ob} (hE : Ext w m p1 b1 p2 b2 n L) (hT : TabAt w) {f : Nat} (hf : f < 2147483648) :
    Calls Tryz.prog 84 #[.pointer (some ⟨m, 0, none⟩), .int .i64 64, .int .i64 f] w fun e w' => ∃ ff B, e = .returned (.tuple #[.pointer (some ⟨ff, 0, none⟩), .int .i64 0]) ∧ Gr w w' ∧ Fwd w' w.heap.size ff n B f L := by
  refine (fwd_new hE hT 64 f (by decide)).mono ?_
  have hb : baseOk (f : Int) = true := by unfold baseOk; rw [decide_eq_true (by omega), decide_eq_true (by omega)]; rfl
  have hk : blockOk 64 = true := by decide
  rintro e w' ⟨hg, (⟨h, -⟩ | ⟨-, ff, B, base, hB, hbase, rfl, hF⟩)⟩
  · rw [hk, hb] at h; cases h
  · obtain rfl : f = base := by omega
    exact ⟨ff, B, rfl, hg, hF⟩
/-- While pages are let go. -/
structure UmP (w8 wx : World) (S5 : Nat → Prop) (q r g : Nat) (v2 : Vm) (out : List Int) (qs q0 j pg tp : Nat) : Prop where
  t : Touch S5 w8 wx
  vm : ∃ Sj, (∀ b, Sj b → plus S5 w8 b) ∧ VmAt wx Sj q (umN v2 qs (q0 + j - qs))
  rt : RtAt wx r g out
  q1 : ∀ i, i < j → (q0 + i) * pg < tp
section
variable {w : World} {S : Nat → Prop} {q r g : Nat} {v : Vm} {rs : List Int}
set_option maxRecDepth 100000 in
set_option maxHeartbeats 12800000 in
theorem pk_run (hV : VmAt w S q v) (hn : v.n ≠ 0) (hR : RtAt w r g rs) (hT : TabAt w) (htS : ¬ S 0) (hrS : ¬ S r) (hgS : ¬ S g) (fr tp room : Int) :
    Calls Tryz.prog 28 #[.pointer (some ⟨q, 0, none⟩), .pointer (some ⟨r, 0, none⟩), .int .i64 fr, .int .i64 tp, .int .i64 room] w (PkEnd w S q r g v rs fr tp room) := by
  have HV := hid hV.cut
  have HR := hid hR
  have HT := hid hT
  have HNO := hid (And.intro htS (And.intro hrS hgS))
  have htl := hT.lt
  have hrl := hR.lt
  have hn2 := hV.ok.n2
  have hpg := hV.ok.page
  have HOK := hid hV.ok
  have HG1 := hid ((Gr.refl w).alloc (.cells #[.pointer (some ⟨q, 0, none⟩)] 31))
  have hrb := Rec.new w 31 [.pointer (some ⟨q, 0, none⟩)]
  obtain ⟨W0, hW0⟩ : ∃ W0, W0 = w.alloc (.cells #[.pointer (some ⟨q, 0, none⟩)] 31) := ⟨_, rfl⟩
  have hsz0 : W0.heap.size = w.heap.size + 1 := by rw [hW0, World.size_alloc]
  rw [show w.alloc (.cells ([.pointer (some ⟨q, 0, none⟩)] : List Value).toArray 31) = W0 from hW0.symm] at hrb
  rw [← hW0] at HG1
  have HRB := hid hrb
  have HCK := hid (pk_check (HV.out.gr HG1.out) hn (HR.out.gr HG1.out) fr tp room)
  obtain ⟨ce, hce⟩ : ∃ ce : Int, ce = if pkArg v.n fr tp room then 0 else 5 := ⟨_, rfl⟩
  rw [← hce] at HCK
  have HCE := hid hce
  have c0 := hrb.cell (j := 0) rfl
  have cl := hrb.lt
  have HNZ := hid hn
  clear hV hR hT htS hrS hgS hrb hce hn
  have hmf : ∀ (fn : Fn) (first cap : Array Value) (w : World), (Instr.makeFunc fn first cap).run Tryz.prog w = .ok (.func fn first cap) w := fun _ _ _ _ => rfl
  refine (callsIn_wide (n := 5)).1 ?_
  refine callsIn_of_wp_marks Tryz.func28 rfl trivial ?_ rfl
  simp only [Tryz.ntmps28, List.size_toArray, List.length_cons, List.length_nil, Nat.reduceAdd, Nat.reduceSub, Array.replicate_succ, Array.replicate_zero, List.push_toArray, List.append_toArray, List.nil_append, List.cons_append]
  gi_upto_region 1 with (fail)
  rw [← hW0]
  clear hW0
  by_cases hag : pkArg v.n fr tp room = true
  · obtain ⟨h1, h2, h3, h4, h5⟩ := pkArg_true.1 hag
    obtain rfl : ce = 0 := by rw [HCE.out, if_pos hag]
    have HAG := hid hag
    obtain ⟨f, rfl⟩ : ∃ f : Nat, fr = f := ⟨fr.toNat, by omega⟩
    obtain ⟨t, rfl⟩ : ∃ t : Nat, tp = t := ⟨tp.toNat, by omega⟩
    obtain ⟨k, rfl⟩ : ∃ k : Nat, room = k := ⟨room.toNat, by omega⟩
    have HRC := hid (pk_reached (HV.out.gr HG1.out) HNZ.out (HR.out.gr HG1.out) (HG1.out.tab htl HT.out) (fun h => HNO.out.1 h.1) f t k (by omega) (by omega) (by omega))
    clear hag
    gi_upto_region 5 with (first
      | (refine ⟨trivial, ?_⟩; gi_at_call 82; refine (callsIn_wide.2 (HCK.out)).mono ?_; rintro e w1 ⟨rfl, rfl⟩)
      | (refine ⟨trivial, ?_⟩; gi_at_call 83; refine (callsIn_wide.2 (HRC.out)).mono ?_; rintro e w1 ⟨ht1, hv1, (⟨L, m, p1, b1, p2, b2, hI, rfl, hE, hm1, hm2, hm3, hm4, hm5⟩ | ⟨hno, rfl⟩)⟩ <;> (have HT1 := hid ht1; have HV1 := hid hv1; have HB1 := hid (HRB.out.touch ht1 (fun h => by have := h.2; omega)); have HR1 := hid ((HR.out.gr HG1.out).touch ht1 (fun h => HNO.out.2.1 h.1) (fun h => HNO.out.2.2 h.1)); have y0 := HB1.out.cell (j := 0) rfl; have yl := HB1.out.lt; clear ht1 hv1)))
    · have HI := hid hI
      have hw1 := HT1.out.size
      have HT1' := hid (HT.out.touch' ((HG1.out.touch _).trans HT1.out) (fun h => HNO.out.1 h.1))
      have HFN := hid (pk_fwd hE HT1'.out (f := f) (by omega))
      have HX := hid hE
      have HXM := hid (And.intro hm1 (And.intro hm2 (And.intro hm3 (And.intro hm4 hm5))))
      clear hI hE hm1 hm2 hm3 hm4 hm5
      gi_upto_region 8 with (refine ⟨trivial, ?_⟩; gi_at_call 84; refine (callsIn_wide.2 (HFN.out)).mono ?_; rintro e w2 ⟨ff, B, rfl, hg2, hF⟩; have HG2 := hid hg2; have HFW := hid hF; clear hg2 hF)
      obtain ⟨w3, hw3⟩ : ∃ w3, w3 = w2.alloc (.cells #[.pointer (some ⟨ff, 0, none⟩)] 127) := ⟨_, rfl⟩
      have hfc := Rec.new w2 127 [.pointer (some ⟨ff, 0, none⟩)]
      obtain ⟨fb, hfb⟩ : ∃ fb, fb = w2.heap.size := ⟨_, rfl⟩
      have hg3 : Gr w2 w3 := by rw [hw3]; exact (Gr.refl w2).alloc _
      have hsz3 : w3.heap.size = fb + 1 := by rw [hw3, World.size_alloc, hfb]
      rw [show w2.alloc (.cells ([.pointer (some ⟨ff, 0, none⟩)] : List Value).toArray 127) = w3 from hw3.symm] at hfc
      rw [← hfb] at hfc ⊢
      rw [← hw3]
      have hz2 := HG2.out.size
      have HFZ : Hid (w1.heap.size ≤ fb ∧ fb + 1 = w3.heap.size ∧ w2.heap.size = fb) := ⟨by omega, hsz3.symm, hfb.symm⟩
      have HFC := hid hfc
      have HG13 := hid (HG2.out.trans hg3)
      have HG23 := hid hg3
      have HB3 := hid (HB1.out.gr HG13.out)
      have HV3 := hid (HV1.out.gr HG13.out)
      have HTP := hid (fun (W : World) (g : Gr w3 W) => fwd_top (HFW.out.gr (HG23.out.trans g)))
      have HALL : Hid (∀ j (hj : j < L.length), f + sizes (L.take j) ≤ L[j].1) := ⟨fun j hj => pk_le HI.out.1.mkd.good (fr := f) (fun o ho => by have := HI.out.2 o ho; omega) hj⟩
      clear hw3 hfb hfc hg3 y0 yl c0 cl
      have hft : f + sizes L ≤ t := by
        have hI := HI.out
        rcases Nat.eq_zero_or_pos L.length with h0 | h0
        · have : L = [] := List.eq_nil_of_length_eq_zero h0
          subst this
          simp only [sizes]; omega
        · have hj : L.length - 1 < L.length := by omega
          have e1 := HALL.out _ hj
          have e2 := hI.2 _ (List.getElem_mem hj)
          have e3 := sizes_take hj
          rw [show L.length - 1 + 1 = L.length by omega, List.take_length] at e3
          omega
      have HND := hid (fun (W : World) (g : Gr w3 W) => vm_needs (HV3.out.gr g) f (f + sizes L) (by omega) (by omega))
      obtain ⟨nn, hnn⟩ : ∃ nn, nn = sizes L := ⟨_, rfl⟩
      have HNN := hid hnn
      obtain ⟨E, hE⟩ : ∃ E, E = needE v f ((f + nn : Nat) : Int) := ⟨_, rfl⟩
      rw [← hnn] at HND HTP hft
      rw [← hE] at HND
      have HE := hid hE
      have hcast : ((f + nn : Nat) : Int) = (f : Int) + (nn : Int) := by push_cast; rfl
      rw [hcast] at HND
      have HCAST := hid hcast
      clear hnn hE hcast
      have p0 := HB3.out.cell (j := 0) rfl
      have p1' := HFC.out.cell (j := 0) rfl
      obtain ⟨Sx, hSx⟩ : ∃ Sx : World → Prop, Sx = fun W' => W'.cell? ⟨w.heap.size, 0, none⟩ = some (.pointer (some ⟨q, 0, none⟩)) ∧ W'.cell? ⟨fb, 0, none⟩ = some (.pointer (some ⟨ff, 0, none⟩)) := ⟨_, rfl⟩
      have x1 : ∀ p : Held Sx, p.w.cell? ⟨w.heap.size, 0, none⟩ = some (.pointer (some ⟨q, 0, none⟩)) := fun p => by have h := Held.get hSx p; exact h.1
      have x2 : ∀ p : Held Sx, p.w.cell? ⟨fb, 0, none⟩ = some (.pointer (some ⟨ff, 0, none⟩)) := fun p => by have h := Held.get hSx p; exact h.2
      have HS : Hid (∀ W', W'.cell? ⟨w.heap.size, 0, none⟩ = some (.pointer (some ⟨q, 0, none⟩)) ∧ W'.cell? ⟨fb, 0, none⟩ = some (.pointer (some ⟨ff, 0, none⟩)) → Sx W') := ⟨fun W' h => by rw [hSx]; exact h⟩
      have hS0 := HS.out (w3.drew) (⟨p0, p1'⟩)
      have inst : Inhabited (Held Sx) := ⟨⟨_, hS0⟩⟩
      clear hSx
      refine wpIn_region_mixS Sx 6 [([0, 1, 2], 3), ([], 4)] [5] wide_fn (by kernel_rfl) (by kernel_rfl) hS0 ?_
      refine segsIn_step ?_
      try simp only [opsAt, List.getElem?_cons_zero, List.getElem?_cons_succ]
      repeat (go_big_quiet_step (fail))
      refine wpQuiet_nil ?_
      gi_wp2_with ((refine ⟨trivial, ?_⟩; gi_at_call 85; refine (callsIn_wide.2 (HTP.out _ (Gr.refl w3).drew)).mono ?_; rintro e w4 ⟨rfl, hg4⟩; have HG4 := hid ((Gr.refl w3).drew.trans hg4); have HB4 := hid (HB3.out.gr HG4.out); have HFC4 := hid (HFC.out.gr HG4.out); clear hg4))
      refine ⟨.inr (Held.of (HS.out _ (⟨HB4.out.cell (j := 0) rfl, HFC4.out.cell (j := 0) rfl⟩))), ?_⟩
      refine segsIn_step ?_
      try simp only [opsAt, List.getElem?_cons_zero, List.getElem?_cons_succ]
      repeat (go_big_quiet_step (fail))
      refine wpQuiet_nil ?_
      gi_wp2_with ((refine ⟨trivial, ?_⟩; gi_at_call 59; refine (callsIn_wide.2 (HND.out _ HG4.out)).mono ?_; rintro e w5 ⟨rfl, ht5, hg5⟩; have HT5 := hid ht5; have HGW5 := hid hg5; have HB5 := hid (HB4.out.touch ht5 (fun h => by have := h.1.2; omega)); have HFC5 := hid (HFC4.out.touch ht5 (fun h => by have := h.1.2; have := HFZ.out; omega)); clear ht5 hg5))
      refine ⟨.inr (Held.of (HS.out _ (⟨HB5.out.cell (j := 0) rfl, HFC5.out.cell (j := 0) rfl⟩))), ?_⟩
      refine segsIn_end ?_
      try simp only [opsAt, List.getElem?_cons_zero, List.getElem?_cons_succ]
      repeat (go_big_quiet_step (fail))
      refine wpQuiet_nil ?_
      refine NoPanic.normal ?_
      clear x1 x2 hS0 inst
      clear HS Sx
      clear p0 p1'
      have HR5 := hid ((HR1.out.gr (HG13.out.trans HG4.out)).touch HT5.out (fun h => HNO.out.2.1 h.1.1) (fun h => HNO.out.2.2 h.1.1))
      have HTW5 : Hid (Touch S w w5) := ⟨(((HG1.out.touch _).trans (HT1.out.mono (fun i _ h => h.1))).trans ((HG13.out.trans HG4.out).touch _)).trans (HT5.out.mono (fun i _ h => h.1.1))⟩
      by_cases hE0 : E = 0
      · subst hE0
        obtain ⟨v1, hg1, hv1⟩ := HGW5.out
        rw [← HCAST.out] at hg1
        have hnd := HE.out
        rw [HNN.out] at hg1 hnd
        obtain ⟨cx, -⟩ := pk_ctx HOK.out HI.out (by omega) (by omega) (by omega) hnd.symm hg1
        have HCX := hid cx
        have HGR := hid hg1
        have HND0 := hid hnd
        obtain ⟨S5, hS5⟩ : ∃ S5, S5 = cutS (plus (cutS (cutS S w) W0) w4) w5 := ⟨_, rfl⟩
        have hz4 := HG4.out.size
        have hz5 := HT5.out.size
        have HS5 : Hid (∀ b, S5 b → (S b ∧ b < w.heap.size ∨ w4.heap.size ≤ b) ∧ b < w5.heap.size) := ⟨fun b hb => by
          rw [hS5] at hb
          exact ⟨hb.1.imp (fun h => h.1) id, hb.2⟩⟩
        have HV5 : Hid (VmAt w5 S5 q v1) := ⟨by rw [hS5]; exact hv1.cut⟩
        have c13l := HX.out.hm
        have hx5 : Ext w5 m p1 b1 p2 b2 v.n L := (HX.out.gr (HG13.out.trans HG4.out)).touch HT5.out (fun h => by have := h.1.2; have := HXM.out.1; omega) (fun h => by have := h.1.2; have := HXM.out.2.1; omega) (fun h => by have := h.1.2; have := HXM.out.2.2.1; omega) (fun h => by have := h.1.2; have := HXM.out.2.2.2.1; omega) (fun h => by have := h.1.2; have := HXM.out.2.2.2.2; omega)
        have HX5 := hid hx5
        have HTB5 := hid (HT.out.touch' HTW5.out HNO.out.1)
        have hFX : Touch (fun i => i < w.heap.size ∨ w3.heap.size ≤ i) w2 w5 := ((HG23.out.trans HG4.out).touch _).trans (HT5.out.mono (fun i _ h => .inl h.1.2))
        have HFX := hid hFX
        clear hg1 hnd hv1 cx hS5 hx5 hFX
        gi_upto_region 11 with (fail)
        gi_wp2_with (refine ⟨trivial, ?_⟩; gi_at_call 86; refine (callsIn_wide.2 (all_call (some ⟨m, 0, none⟩))).mono ?_; rintro e w6 ⟨rfl, rfl⟩)
        obtain ⟨W6, hW6⟩ : ∃ W6, W6 = w5.alloc (.cells #[.pointer (some ⟨m, 0, none⟩)] 124) := ⟨_, rfl⟩
        have hg6 : Gr w5 W6 := by rw [hW6]; exact (Gr.refl w5).alloc _
        have hs6 : W6.heap.size = w5.heap.size + 1 := by rw [hW6, World.size_alloc]
        have k6 : W6.cell? ⟨w5.heap.size, 0, none⟩ = some (.pointer (some ⟨m, 0, none⟩)) := by rw [hW6]; exact (Boxed.new w5 124 (.pointer (some ⟨m, 0, none⟩))).cell
        rw [← hW6]
        clear hW6
        have hfz := HFZ.out
        have HFW6 : Hid (∀ W, Touch (fun i => i < w.heap.size ∨ w3.heap.size ≤ i) W6 W → Fwd W w1.heap.size ff v.n B f L) := ⟨fun W tt => HFW.out.touch ((HFX.out.trans (hg6.touch _)).trans tt) (fun kk h1 h2 h => by omega)⟩
        have HNS5 : Hid (∀ b, w.heap.size ≤ b → b < w4.heap.size → ¬ (S5 b ∨ W6.heap.size ≤ b)) := ⟨fun b h1 h2 h => by
          rcases h with h | h
          · have := (HS5.out b h).1; omega
          · omega⟩
        have HNR5 : Hid (∀ b, ¬ S b → b < w.heap.size → ¬ (S5 b ∨ W6.heap.size ≤ b)) := ⟨fun b h1 h2 h => by
          rcases h with h | h
          · rcases (HS5.out b h).1 with h' | h'
            · exact h1 h'.1
            · omega
          · omega⟩
        have HLO : Hid (∀ b, S5 b ∨ W6.heap.size ≤ b → b < w.heap.size ∨ w3.heap.size ≤ b) := ⟨fun b h => by
          rcases h with h | h
          · have := (HS5.out b h).1; omega
          · omega⟩
        have hml := HX.out.hm
        have hp1l := HX.out.v1.hp
        have hb1l := HX.out.v1.hb
        have hp2l := HX.out.v2.hp
        have hb2l := HX.out.v2.hb
        obtain ⟨hm1, hm2, hm3, hm4, hm5⟩ := HXM.out
        have HB6 := hid (HB5.out.gr hg6)
        have HFC6 := hid (HFC5.out.gr hg6)
        have HR6 := hid (HR5.out.gr hg6)
        have htl5 := HTB5.out.lt
        have HG6 := hid hg6
        have HK6 := hid k6
        clear k6 hg6
        have tI : ∀ (j : Nat) A B', (Touch (fun i => S5 i ∨ W6.heap.size ≤ i) W6 A ∧ j ≤ L.length ∧ ∃ v'', VmAt A S5 q v'' ∧ Pkd v1 v'' L f (sizes (L.take j))) → Touch (fun i => W6.heap.size ≤ i ∧ i < W6.heap.size + 2 + 4) A B' → (Touch (fun i => S5 i ∨ W6.heap.size ≤ i) W6 B' ∧ j ≤ L.length ∧ ∃ v'', VmAt B' S5 q v'' ∧ Pkd v1 v'' L f (sizes (L.take j))) := fun j A B' h tt => by
          obtain ⟨h1, h2, v'', h3, h4⟩ := h
          exact ⟨h1.trans (tt.mono (fun i _ h => .inr h.1)), h2, v'', h3.touch tt (fun i hi _ h => by have := (HS5.out i hi).2; omega), h4⟩
        refine range_lawU (K := 4) (s0 := 0) rfl (by omega) (gf := 150) (lb := #[.pointer (some ⟨w5.heap.size, 0, none⟩)]) rfl trivial (enters_of Tryz.func150 (by kernel_rfl) rfl)
          (all_seqU _ w5.heap.size m p1 b1 p2 b2 v.n L _) (fun _ => rfl)
          (fun (j : Nat) A => Touch (fun i => S5 i ∨ W6.heap.size ≤ i) W6 A ∧ j ≤ L.length ∧ ∃ v'', VmAt A S5 q v'' ∧ Pkd v1 v'' L f (sizes (L.take j))) (fun _ _ => False) tI (fun _ _ _ h _ => h)
          (fun j A h => ⟨(HX5.out.gr HG6.out).touch h.1 (HNS5.out _ (by omega) (by omega)) (HNS5.out _ (by omega) (by omega)) (HNS5.out _ (by omega) (by omega)) (HNS5.out _ (by omega) (by omega)) (HNS5.out _ (by omega) (by omega)), (HG6.out.tab htl5 HTB5.out).touch' h.1 (HNR5.out _ HNO.out.1 (by omega)), (h.1.cell (by omega) (fun h => by
            rcases h with h | h
            · have := (HS5.out _ h).2; omega
            · omega) 0).trans HK6.out, h.2.1⟩)
          ⟨Touch.refl _ _, Nat.zero_le _, v1, HV5.out.gr HG6.out, by simpa [sizes] using Pkd.zero HCX.out.ok L f⟩ ?round ?done (fun _ _ _ _ h _ => h.elim)
        case round =>
          intro lp j x W7 hsz7 hI7 hgv
          dsimp only [encO]
          gi_wp2
          refine ⟨Gr.refl _, fun W8 ht8 hI8 => ?_⟩
          have hjl : j < L.length := by
            rcases Nat.lt_or_ge j L.length with h | h
            · exact h
            · unfold AllGives at hgv; rw [List.getElem?_eq_none h] at hgv; cases hgv
          obtain rfl : x = L[j] := by unfold AllGives at hgv; rw [List.getElem?_eq_getElem hjl] at hgv; exact (Option.some.inj hgv).symm
          obtain ⟨hT8, -, vx, hvx, hpx⟩ := hI8
          have c5 := (HB6.out.touch hT8 (HNS5.out _ (by omega) (by omega))).cell (j := 0) rfl
          have c15 := (HFC6.out.touch hT8 (HNS5.out _ (by omega) (by omega))).cell (j := 0) rfl
          have HMV := hid (pk_move hvx (fun W tt => HFW6.out W ((hT8.mono (fun i _ h => HLO.out i h)).trans (tt.mono (fun i _ h => HLO.out i (.inl h.1))))) HCX.out hjl hpx)
          have HT8 := hid hT8
          have HSZ := hid (sizes_take hjl)
          clear hI7 hgv ht8 hT8 hvx hpx
          gi_wp2_with (refine ⟨trivial, ?_⟩; gi_at_call 87; refine (CallsIn.inRound lp (callsIn_wide.2 (HMV.out))).mono ?_; rintro e w7 ⟨rfl, ht7, v7, hv7, hp7⟩)
          refine ⟨ht7.mono (fun i _ h => .inl (by have := (HS5.out i h.1).2; omega)), j + 1, rfl, HT8.out.trans (ht7.mono (fun i _ h => .inl h.1)), hjl, v7, hv7.mono (fun b h => h.1), ?_⟩
          rw [HSZ.out]
          exact hp7
        case done =>
          rintro D j W7 hD rfl hI7 hK
          obtain ⟨hT7, -, v2, hv2, hp2⟩ := hI7
          rw [List.take_length] at hp2
          have c5 := (HB6.out.touch hT7 (HNS5.out _ (by omega) (by omega))).cell (j := 0) rfl
          have c15 := (HFC6.out.touch hT7 (HNS5.out _ (by omega) (by omega))).cell (j := 0) rfl
          have hHFW7 : ∀ W, Touch (fun i => i < w.heap.size ∨ w3.heap.size ≤ i) W7 W → Fwd W w1.heap.size ff v.n B f L := fun W tt => HFW6.out W ((hT7.mono (fun i _ h => HLO.out i h)).trans tt)
          have HTU := hid (pk_turns (fun W tt => hHFW7 W (tt.mono (fun i _ h => .inl (by omega)))) c15 (by omega) (HR6.out.touch hT7 (HNR5.out r HNO.out.2.1 (by omega)) (HNR5.out g HNO.out.2.2 (by omega))) (toV_zero HCX.out))
          have HB7 := hid (HB6.out.touch hT7 (HNS5.out _ (by omega) (by omega)))
          have HFC7 := hid (HFC6.out.touch hT7 (HNS5.out _ (by omega) (by omega)))
          have HFW7 := hid hHFW7
          have HT7 := hid hT7
          have HV2 := hid hv2
          have HP2 := hid hp2
          have HK := hid hK
          have HD := hid hD
          have hz7 := hT7.size
          clear c5 c15 hHFW7 hT7 hv2 hp2 hK hD
          gi_upto_region 16 with (refine ⟨trivial, ?_⟩; gi_at_call 68; refine (callsIn_wide.2 (HTU.out)).mono ?_; rintro e w8 ⟨rfl, ht8, hr8⟩; have HT8 := hid ht8; have HR8 := hid hr8; have HB8 := hid (HB7.out.touch ht8 (fun h => by omega)); have HFC8 := hid (HFC7.out.touch ht8 (fun h => by omega)); have hz8 := ht8.size; clear ht8 hr8)
          have HFW8 : Hid (∀ W, Touch (fun i => i < w.heap.size ∨ w3.heap.size ≤ i) w8 W → Fwd W w1.heap.size ff v.n B f L) := ⟨fun W tt => HFW7.out W ((HT8.out.mono (fun i _ h => .inl (by omega))).trans tt)⟩
          have hgS5 : ¬ S5 g := fun h => HNR5.out g HNO.out.2.2 (by omega) (.inl h)
          have HV8 := hid (HV2.out.touch HT8.out (fun b hb _ h => hgS5 (h ▸ hb)))
          have HGS5 := hid hgS5
          clear hgS5
          have HD5 : Hid (D = W6.heap.size ∧ D < W7.heap.size ∧ D ≠ g ∧ ¬ S5 D) := ⟨HD.out, (Array.getElem?_eq_some_iff.1 HK.out).1, by rw [HD.out]; omega, fun h => by rw [HD.out] at h; have := (HS5.out _ h).2; omega⟩
          have HK8 : Hid (w8.heap[D]? = some (.deferred (some []))) := ⟨(HT8.out.block D HD5.out.2.1 HD5.out.2.2.1).trans HK.out⟩
          have hpgv : v2.pl.pg = v.pl.pg := HP2.out.sm.pg.trans HGR.out.pg
          have HVP := hid (fun (W : World) (g' : Gr w8 W) => vm_page (HV8.out.gr g'))
          rw [hpgv] at HVP
          obtain ⟨pg, hpge⟩ : ∃ pg, pg = v.pl.pg := ⟨_, rfl⟩
          have HPGE := hid hpge
          rw [← hpge] at HVP hpg
          have HPV : Hid (v2.pl.pg = pg) := ⟨by rw [hpgv, hpge]⟩
          obtain ⟨q0, hq0⟩ : ∃ q0, q0 = f / pg := ⟨_, rfl⟩
          have hq0m : q0 * pg ≤ f := by rw [hq0]; exact Nat.div_mul_le_self f pg
          have HQ0 := hid hq0
          have g1 : ((f : Int).tdiv (pg : Int)) = (q0 : Int) := by rw [hq0]; rfl
          have g2 : ((f : Int) / (pg : Int)) = (q0 : Int) := by rw [hq0]; rfl
          have hpg0 : (pg : Int) ≠ 0 := by omega
          have hq0n : q0 ≤ 524288 := by have := Nat.div_le_self f pg; omega
          have HQM := hid hq0m
          obtain ⟨qs, hqs⟩ : ∃ qs, qs = pgUp (f + nn) pg := ⟨_, rfl⟩
          have HQS := hid hqs
          have hqs0 : q0 ≤ qs := by
            rcases Nat.lt_or_ge qs q0 with h | h
            · exfalso
              have h1 := (pgUp_le (nt := f + nn) (q := qs) hpg.1).2 (by rw [hqs]; exact Nat.le_refl _)
              have h2 : (qs + 1) * pg ≤ q0 * pg := Nat.mul_le_mul_right _ (by omega)
              rw [Nat.add_mul, Nat.one_mul] at h2
              omega
            · exact h
          have HQL := hid hqs0
          have hft2 : f + nn ≤ 1048576 := by omega
          have HUM : Hid (UmP w8 w8 S5 q r g v2 (rs.map (toV L f)) qs q0 0 pg t) := ⟨Touch.refl _ _, ⟨S5, fun b h => .inl h, by rw [show q0 + 0 - qs = 0 by omega]; exact HV8.out⟩, HR8.out, fun i hi => absurd hi (Nat.not_lt_zero _)⟩
          have u5 := HB8.out.cell (j := 0) rfl
          have u5l := HB8.out.lt
          clear hpge hq0 hpgv hq0m hqs hqs0
          gi_wp2_with (refine ⟨trivial, ?_⟩; gi_at_call 71; refine (callsIn_wide.2 (HVP.out _ (Gr.refl w8))).mono ?_; rintro e w9 ⟨rfl, rfl⟩)
          clear u5 u5l
          gi_loopw [20] (fun s20 wx => ∃ j : Nat, Hid (UmP w8 wx S5 q r g v2 (rs.map (toV L f)) qs q0 j pg t) ∧ s20 = .int .i64 ((q0 + j : Nat) : Int)) (fun s20 _ => t - (intOf s20).toNat * pg)
          case atStart => exact ⟨0, HUM, rfl⟩
          case round =>
            clear HUM
            obtain ⟨j, HU, rfl⟩ := hrel
            obtain ⟨Sj, hsj, hvj⟩ := HU.out.vm
            have hVP := fun (W : World) (g' : Gr wr W) => vm_page (hvj.gr g')
            rw [(umN_same v2 qs _).2.1, HPV.out] at hVP
            have HVP2 := hid hVP
            have HVJ := hid hvj
            have HSJ := hid hsj
            have HBX := hid (HB8.out.touch HU.out.t (fun h => HNS5.out _ (Nat.le_refl _) (by omega) (.inl h)))
            have HFX8 := hid (HFC8.out.touch HU.out.t (fun h => HNS5.out fb (by omega) (by omega) (.inl h)))
            have HTPX := hid (fun (W : World) (g' : Gr wr W) => fwd_top (HFW8.out W ((HU.out.t.mono (fun i _ h => HLO.out i (.inl h))).trans (g'.touch _))))
            rw [← HNN.out] at HTPX
            obtain ⟨qq, hqq⟩ : ∃ qq, qq = q0 + j := ⟨_, rfl⟩
            obtain ⟨pp, hpp⟩ : ∃ pp, pp = qq * pg := ⟨_, rfl⟩
            have hppb : pp ≤ 1048576 := by
              rcases Nat.eq_zero_or_pos j with h0 | h0
              · rw [hpp, hqq, h0, Nat.add_zero]; have := HQM.out; omega
              · have := HU.out.q1 (j - 1) (by omega)
                have e : pp = (q0 + (j - 1)) * pg + pg := by rw [hpp, hqq, show q0 + j = (q0 + (j - 1)) + 1 by omega, Nat.add_mul, Nat.one_mul]
                omega
            have hqb : qq ≤ pp := by rw [hpp]; exact Nat.le_mul_of_pos_right _ (by omega)
            have hmul : ((qq : Int) * (pg : Int)) = (pp : Int) := by rw [hpp]; push_cast; rfl
            have HQQ := hid (And.intro hqq hpp)
            rw [← hqq]
            clear hVP hvj hsj hqq hpp
            have u5 := HBX.out.cell (j := 0) rfl
            have u5l := HBX.out.lt
            have u15 := HFX8.out.cell (j := 0) rfl
            have u15l := HFX8.out.lt
            by_cases hlt : pp < t
            · have e1 : decide ((pp : Int) < (t : Int)) = true := decide_eq_true (by omega)
              have e2 : decide (pp < t) = true := decide_eq_true hlt
              have HLT := hid hlt
              clear hlt
              by_cases hge : f + nn ≤ pp
              · have e3 : decide ((f : Int) + (nn : Int) ≤ (pp : Int)) = true := decide_eq_true (by omega)
                have HGE := hid hge
                clear hge
                gi_upto_region 19 with (refine ⟨trivial, ?_⟩; gi_at_call 71; refine (callsIn_wide.2 (HVP2.out _ (Gr.refl wr))).mono ?_; rintro e w10 ⟨rfl, rfl⟩)
                obtain ⟨Sx, hSx⟩ : ∃ Sx : World → Prop, Sx = fun W' => W'.cell? ⟨w.heap.size, 0, none⟩ = some (.pointer (some ⟨q, 0, none⟩)) ∧ W'.cell? ⟨fb, 0, none⟩ = some (.pointer (some ⟨ff, 0, none⟩)) := ⟨_, rfl⟩
                have x1 : ∀ p : Held Sx, p.w.cell? ⟨w.heap.size, 0, none⟩ = some (.pointer (some ⟨q, 0, none⟩)) := fun p => by have h := Held.get hSx p; exact h.1
                have x2 : ∀ p : Held Sx, p.w.cell? ⟨fb, 0, none⟩ = some (.pointer (some ⟨ff, 0, none⟩)) := fun p => by have h := Held.get hSx p; exact h.2
                have HS : Hid (∀ W', W'.cell? ⟨w.heap.size, 0, none⟩ = some (.pointer (some ⟨q, 0, none⟩)) ∧ W'.cell? ⟨fb, 0, none⟩ = some (.pointer (some ⟨ff, 0, none⟩)) → Sx W') := ⟨fun W' h => by rw [hSx]; exact h⟩
                have hS0 := HS.out (wr.drew) (⟨u5, u15⟩)
                have inst : Inhabited (Held Sx) := ⟨⟨_, hS0⟩⟩
                clear hSx
                refine wpIn_region_mixS Sx 7 [([0, 1, 4], 2), ([3], 5)] [6] wide_fn (by kernel_rfl) (by kernel_rfl) hS0 ?_
                refine segsIn_step ?_
                try simp only [opsAt, List.getElem?_cons_zero, List.getElem?_cons_succ]
                repeat (go_big_quiet_step (fail))
                refine wpQuiet_nil ?_
                gi_wp2_with ((refine ⟨trivial, ?_⟩; gi_at_call 71; refine (callsIn_wide.2 (HVP2.out _ (Gr.refl wr).drew)).mono ?_; rintro e w10 ⟨rfl, rfl⟩))
                refine ⟨.inr (Held.of (HS.out _ (⟨u5, u15⟩))), ?_⟩
                refine segsIn_step ?_
                try simp only [opsAt, List.getElem?_cons_zero, List.getElem?_cons_succ]
                repeat (go_big_quiet_step (fail))
                refine wpQuiet_nil ?_
                gi_wp2_with ((refine ⟨trivial, ?_⟩; gi_at_call 85; refine (callsIn_wide.2 (HTPX.out _ (Gr.refl wr).drew)).mono ?_; rintro e w10 ⟨rfl, hg10⟩; have HG10 := hid ((Gr.refl wr).drew.trans hg10); have z5 := (HBX.out.gr HG10.out).cell (j := 0) rfl; have z5l := (HBX.out.gr HG10.out).lt; have z15 := (HFX8.out.gr HG10.out).cell (j := 0) rfl; clear hg10))
                refine ⟨.inr (Held.of (HS.out _ (⟨z5, z15⟩))), ?_⟩
                refine segsIn_end ?_
                try simp only [opsAt, List.getElem?_cons_zero, List.getElem?_cons_succ]
                repeat (go_big_quiet_step (fail))
                refine wpQuiet_nil ?_
                refine NoPanic.normal ?_
                clear x1 x2 hS0 inst
                clear HS Sx
                clear u5 u5l u15 u15l z15
                gi_wp2_with (refine ⟨trivial, ?_⟩; gi_at_call 72; refine (callsIn_wide.2 (vm_unmap (HVJ.out.gr HG10.out) (qq : Int))).mono ?_; rintro e w11 ⟨rfl, ht11, hv11⟩; have HT11 := hid ht11; have HV11 := hid hv11; clear ht11 hv11)
                go_roundw
                case rel =>
                  have hzx := HU.out.t.size
                  have hzy := HG10.out.size
                  refine ⟨j + 1, ⟨⟨?_, ⟨plus Sj w10, fun b hb => ?_, ?_⟩, ?_, fun i hi => ?_⟩⟩, ?_⟩
                  · exact (HU.out.t.trans (HG10.out.touch _)).trans' HT11.out (fun b hb h => (HSJ.out b h).elim id (fun h => by omega))
                  · rcases hb with h | h
                    · exact HSJ.out b h
                    · right; omega
                  · have h1 := HV11.out
                    have h2 := (pgUp_le (nt := f + nn) (q := qq) hpg.1).1 (by rw [← HQQ.out.2]; exact HGE.out)
                    rw [← HQS.out] at h2
                    have e : q0 + (j + 1) - qs = (q0 + j - qs) + 1 := by have := HQQ.out.1; omega
                    rw [e]
                    show VmAt _ _ _ ((umN v2 qs (q0 + j - qs)).um ((qs + (q0 + j - qs) : Nat) : Int))
                    rw [show qs + (q0 + j - qs) = qq by have := HQQ.out.1; omega]
                    exact h1
                  · refine (HU.out.rt.gr HG10.out).touch HT11.out (fun h => ?_) (fun h => ?_)
                    · exact (HSJ.out _ h).elim (fun h => HNR5.out r HNO.out.2.1 (by omega) (.inl h)) (fun h => by omega)
                    · exact (HSJ.out _ h).elim HGS5.out (fun h => by omega)
                  · rcases Nat.lt_or_ge i j with h | h
                    · exact HU.out.q1 i h
                    · obtain rfl : i = j := by omega
                      rw [← HQQ.out.1, ← HQQ.out.2]; exact HLT.out
                  · rw [show q0 + (j + 1) = qq + 1 by rw [HQQ.out.1]; omega]
                    go_num
                case measure =>
                  have h1 := HLT.out
                  have h2 := HQQ.out.2
                  simp only [intOf]
                  rw [show ((qq : Int) + 1).toNat = qq + 1 by omega, Int.toNat_natCast, Nat.add_mul, Nat.one_mul, ← h2]
                  omega
              · have e3 : decide ((f : Int) + (nn : Int) ≤ (pp : Int)) = false := decide_eq_false (by omega)
                have HGE := hid hge
                clear hge
                gi_upto_region 19 with (refine ⟨trivial, ?_⟩; gi_at_call 71; refine (callsIn_wide.2 (HVP2.out _ (Gr.refl wr))).mono ?_; rintro e w10 ⟨rfl, rfl⟩)
                obtain ⟨Sx, hSx⟩ : ∃ Sx : World → Prop, Sx = fun W' => W'.cell? ⟨w.heap.size, 0, none⟩ = some (.pointer (some ⟨q, 0, none⟩)) ∧ W'.cell? ⟨fb, 0, none⟩ = some (.pointer (some ⟨ff, 0, none⟩)) := ⟨_, rfl⟩
                have x1 : ∀ p : Held Sx, p.w.cell? ⟨w.heap.size, 0, none⟩ = some (.pointer (some ⟨q, 0, none⟩)) := fun p => by have h := Held.get hSx p; exact h.1
                have x2 : ∀ p : Held Sx, p.w.cell? ⟨fb, 0, none⟩ = some (.pointer (some ⟨ff, 0, none⟩)) := fun p => by have h := Held.get hSx p; exact h.2
                have HS : Hid (∀ W', W'.cell? ⟨w.heap.size, 0, none⟩ = some (.pointer (some ⟨q, 0, none⟩)) ∧ W'.cell? ⟨fb, 0, none⟩ = some (.pointer (some ⟨ff, 0, none⟩)) → Sx W') := ⟨fun W' h => by rw [hSx]; exact h⟩
                have hS0 := HS.out (wr.drew) (⟨u5, u15⟩)
                have inst : Inhabited (Held Sx) := ⟨⟨_, hS0⟩⟩
                clear hSx
                refine wpIn_region_mixS Sx 7 [([0, 1, 4], 2), ([3], 5)] [6] wide_fn (by kernel_rfl) (by kernel_rfl) hS0 ?_
                refine segsIn_step ?_
                try simp only [opsAt, List.getElem?_cons_zero, List.getElem?_cons_succ]
                repeat (go_big_quiet_step (fail))
                refine wpQuiet_nil ?_
                gi_wp2_with ((refine ⟨trivial, ?_⟩; gi_at_call 71; refine (callsIn_wide.2 (HVP2.out _ (Gr.refl wr).drew)).mono ?_; rintro e w10 ⟨rfl, rfl⟩))
                refine ⟨.inr (Held.of (HS.out _ (⟨u5, u15⟩))), ?_⟩
                refine segsIn_step ?_
                try simp only [opsAt, List.getElem?_cons_zero, List.getElem?_cons_succ]
                repeat (go_big_quiet_step (fail))
                refine wpQuiet_nil ?_
                gi_wp2_with ((refine ⟨trivial, ?_⟩; gi_at_call 85; refine (callsIn_wide.2 (HTPX.out _ (Gr.refl wr).drew)).mono ?_; rintro e w10 ⟨rfl, hg10⟩; have HG10 := hid ((Gr.refl wr).drew.trans hg10); have z5 := (HBX.out.gr HG10.out).cell (j := 0) rfl; have z5l := (HBX.out.gr HG10.out).lt; have z15 := (HFX8.out.gr HG10.out).cell (j := 0) rfl; clear hg10))
                refine ⟨.inr (Held.of (HS.out _ (⟨z5, z15⟩))), ?_⟩
                refine segsIn_end ?_
                try simp only [opsAt, List.getElem?_cons_zero, List.getElem?_cons_succ]
                repeat (go_big_quiet_step (fail))
                refine wpQuiet_nil ?_
                refine NoPanic.normal ?_
                clear x1 x2 hS0 inst
                clear HS Sx
                clear u5 u5l u15 u15l z15
                gi_wp2
                go_roundw
                case rel =>
                  refine ⟨j + 1, ⟨⟨HU.out.t.trans (HG10.out.touch _), ⟨Sj, HSJ.out, ?_⟩, HU.out.rt.gr HG10.out, fun i hi => ?_⟩⟩, ?_⟩
                  · have h1 := HVJ.out.gr HG10.out
                    have h2 : ¬ qs ≤ qq := fun h => HGE.out (by
                      rw [HQQ.out.2]
                      exact (pgUp_le hpg.1).2 (by rw [← HQS.out]; exact h))
                    have e : q0 + (j + 1) - qs = q0 + j - qs := by have := HQQ.out.1; omega
                    rw [e]
                    exact h1
                  · rcases Nat.lt_or_ge i j with h | h
                    · exact HU.out.q1 i h
                    · obtain rfl : i = j := by omega
                      rw [← HQQ.out.1, ← HQQ.out.2]; exact HLT.out
                  · rw [show q0 + (j + 1) = qq + 1 by rw [HQQ.out.1]; omega]
                    go_num
                case measure =>
                  have h1 := HLT.out
                  have h2 := HQQ.out.2
                  simp only [intOf]
                  rw [show ((qq : Int) + 1).toNat = qq + 1 by omega, Int.toNat_natCast, Nat.add_mul, Nat.one_mul, ← h2]
                  omega
            · have e1 : decide ((pp : Int) < (t : Int)) = false := decide_eq_false (by omega)
              have e2 : decide (pp < t) = false := decide_eq_false hlt
              have HLT := hid hlt
              clear hlt
              gi_wp2_with (first
                | (refine ⟨trivial, ?_⟩; gi_at_call 71; refine (callsIn_wide.2 (HVP2.out _ (Gr.refl wr))).mono ?_; rintro e w10 ⟨rfl, rfl⟩)
                | (refine ⟨trivial, ?_⟩; gi_at_call 85; refine (callsIn_wide.2 (HTPX.out _ (Gr.refl wr))).mono ?_; rintro e w10 ⟨rfl, hg10⟩; have HG10 := hid hg10; clear hg10))
              have hD5 : w10.heap[D]? = some (.deferred (some [])) := by
                have h1 := HU.out.t.size
                rw [HG10.out.block (by have := HD5.out.2.1; omega), HU.out.t.block D (by have := HD5.out.2.1; omega) HD5.out.2.2.2]
                exact HK8.out
              refine ⟨by simp, .inl ⟨_, _, rfl, run_takeDeferred hD5, ?_⟩⟩
              have tt := touch_put1 w10 D (.deferred none)
              have hd := HD5.out
              have h8x := HU.out.t.size
              refine ⟨.tuple #[.int .i64 ((f : Int) + (nn : Int)), .int .i64 0], ?_, ?_, .inr ⟨HAG.out, .inr ⟨L, f, t, HI.out, rfl, rfl, .inr ⟨HND0.out.symm, ?_, v1, v2, j, ⟨HGR.out, HCX.out, HP2.out, ?_, ?_⟩, ?_, ?_⟩⟩⟩⟩
              · simp [results, Tryz.f28, go_sem]
              · have a1 := HTW5.out.trans (HG6.out.touch S)
                have a2 := a1.trans' HT7.out (fun b hb h => by
                  rcases h with h | h
                  · rcases (HS5.out b h).1 with h' | h'
                    · exact h'.1
                    · omega
                  · omega)
                have a3 := (a2.mono (T := fun b => b = g ∨ S b) (fun _ _ h => .inr h)).trans (HT8.out.mono (fun i _ h => .inl h))
                have a4 := a3.trans' HU.out.t (fun b hb h => by
                  rcases (HS5.out b h).1 with h' | h'
                  · exact .inr h'.1
                  · omega)
                exact (a4.trans (HG10.out.touch _)).trans' tt (fun b hb h => by omega)
              · rw [← HNN.out]; push_cast; rfl
              · intro i hi
                rw [← HPGE.out, ← HQ0.out]; exact HU.out.q1 i hi
              · rw [← HPGE.out, ← HQ0.out, ← HQQ.out.1, ← HQQ.out.2]; have := HLT.out; omega
              · unfold pkUm
                rw [← HNN.out, ← HPGE.out, ← HQS.out, ← HQ0.out]
                refine ((HVJ.out.gr HG10.out).touch tt (fun b hb _ h => ?_)).mono (fun b hb => ?_)
                · rcases HSJ.out b hb with h' | h'
                  · exact hd.2.2.2 (h ▸ h')
                  · omega
                · rcases HSJ.out b hb with h' | h'
                  · exact (HS5.out b h').1.imp (fun h => h.1) (fun h => by omega)
                  · right; omega
              · exact (HU.out.rt.gr HG10.out).touch tt (fun h => by omega) (fun h => hd.2.2.1 h.symm)
      · have d0 : (E != 0) = true := by simpa using hE0
        have HE0 := hid hE0
        clear hE0
        gi_wp2
        refine ⟨.tuple #[.int .i64 0, .int .i64 E], ?_, HTW5.out.mono (fun i _ h => .inr h), .inr ⟨HAG.out, .inr ⟨L, f, t, HI.out, rfl, rfl, .inl ⟨?_, ?_, ?_, HR5.out⟩⟩⟩⟩
        · simp [results, Tryz.f28, go_sem]
        · rw [← HNN.out, ← HE.out]; exact HE0.out
        · rw [← HNN.out, ← HE.out]
        · have hF : needF v f ((f + nn : Nat) : Int) = [] := by unfold needF; rw [if_neg (fun h => HE0.out (HE.out.trans h.1))]
          obtain ⟨v', hg, hv⟩ := HGW5.out
          rw [← HCAST.out, hF] at hg
          have h1 := HT1.out.size
          have h2 := (HG13.out.trans HG4.out).size
          exact ⟨v', hg, hv.mono (fun b hb => hb.elim (fun h => .inl h.1.1) (fun h => .inr (by omega)))⟩
    · have HNOL := hid hno
      clear hno
      gi_wp2
      refine ⟨.tuple #[.int .i64 0, .int .i64 25], ?_, ?_, .inr ⟨HAG.out, .inl ⟨HNOL.out, rfl, ?_, ?_⟩⟩⟩
      · simp [results, Tryz.f28, go_sem]
      · exact (HG1.out.touch _).trans (HT1.out.mono (fun i _ h => .inr h.1))
      · exact HV1.out.mono (fun b h => h.1.1)
      · exact HR1.out
  · obtain rfl : ce = 5 := by rw [HCE.out, if_neg hag]
    have HAG := hid hag
    clear hag
    gi_wp2_with (refine ⟨trivial, ?_⟩; gi_at_call 82; refine (callsIn_wide.2 (HCK.out)).mono ?_; rintro e w1 ⟨rfl, rfl⟩)
    refine ⟨.tuple #[.int .i64 0, .int .i64 5], ?_, ?_, .inl ⟨by simpa using HAG.out, rfl, ?_, ?_⟩⟩
    · simp [results, Tryz.f28, go_sem]
    · exact HG1.out.touch _
    · exact (HV.out.gr HG1.out).mono (fun b h => h.1)
    · exact HR.out.gr HG1.out
end
end Go.Proofs.YtbmidhlilafgeaaGreatDoor
end
section
namespace Go.Proofs.YtbmidhlilafgeaaGreatDoor
open Go.RowKit Word

section
variable {w : World} {A0 A : Option Addr} {cp cr M : Nat} {v : Vm} {rs O : List Int} {L : List Ob}
end
/-- A word of an object, where it goes. -/
def wdC (v : Vm) (O : List Int) (d0 : Nat) (b : Int) (m : Nat) : Nat := if 1 ≤ m ∧ (m : Int) ≤ (v.rdH b).p then (wentC v O d0 (v.ldV (b + m) : Nat)).toNat else v.ldV (b + m)
def rowC (v : Vm) (O : List Int) (d0 : Nat) : List Int → List Nat
  | [] => []
  | b :: r => (List.range (v.osz b).toNat).map (wdC v O d0 b) ++ rowC v O d0 r
def us (l : List Nat) : List Value := l.map fun x => .int .u64 (x : Nat)
section
variable {w : World} {A0 A : Option Addr} {cp cr M : Nat} {v : Vm} {rs O : List Int} {L : List Ob}
end
end Go.Proofs.YtbmidhlilafgeaaGreatDoor
end
section
namespace Go.Proofs.YtbmidhlilafgeaaGreatDoor
open Go.RowKit Word

open Classical in
/-- What the roots of a laid heap reach. -/
theorem LaidIn.ex {x : LaidC} {v0 v : Vm} (hl : ∀ a : Nat, x.page ≤ a → a < x.top → v0.ldE a = 0) (h : LaidIn x v0 v x.k) : ∃ L, Marks v x.rs x.n L := by
  have hS := h.sound hl
  have hmem : ∀ j, j < x.k → Rch v x.rs ((x.at j : Nat) : Int) → (x.at j, (v.osz ((x.at j : Nat) : Int)).toNat) ∈ ((List.range x.k).filter (fun j => decide (Rch v x.rs ((x.at j : Nat) : Int)))).map (fun j => (x.at j, (v.osz ((x.at j : Nat) : Int)).toNat)) := fun j hj hr =>
    List.mem_map.2 ⟨j, List.mem_filter.2 ⟨List.mem_range.2 hj, decide_eq_true hr⟩, rfl⟩
  have hout : ∀ o ∈ ((List.range x.k).filter (fun j => decide (Rch v x.rs ((x.at j : Nat) : Int)))).map (fun j => (x.at j, (v.osz ((x.at j : Nat) : Int)).toNat)), ∃ j, j < x.k ∧ Rch v x.rs ((x.at j : Nat) : Int) ∧ o = (x.at j, (v.osz ((x.at j : Nat) : Int)).toNat) := fun o ho => by
    obtain ⟨j, hj, rfl⟩ := List.mem_map.1 ho
    obtain ⟨h1, h2⟩ := List.mem_filter.1 hj
    exact ⟨j, List.mem_range.1 h1, of_decide_eq_true h2, rfl⟩
  have hhs : ∀ a, Rch v x.rs a → Hs (((List.range x.k).filter (fun j => decide (Rch v x.rs ((x.at j : Nat) : Int)))).map (fun j => (x.at j, (v.osz ((x.at j : Nat) : Int)).toNat))) a := fun a ha => by
    obtain ⟨j, hj, rfl⟩ := h.rch hl ha
    exact ⟨_, hmem j hj ha, rfl⟩
  refine ⟨_, ⟨⟨⟨?_, fun o ho => ?_⟩, fun o ho => ?_⟩, hhs, fun o ho => ?_⟩⟩
  · rw [List.pairwise_map]
    refine List.Pairwise.imp_of_mem ?_ (List.Pairwise.filter _ List.pairwise_lt_range)
    intro i j hi hj hij
    have hjk := List.mem_range.1 (List.mem_filter.1 hj).1
    obtain ⟨p, f, c, e, -, -, hz⟩ := h.ob hl (j := i) (by omega)
    have h1 := at_next (x := x) (by omega) e
    have h2 := at_mono (x := x) (i := i + 1) (j := j) (by omega)
    dsimp only
    rw [hz]
    omega
  · obtain ⟨j, hj, hr, rfl⟩ := hout o ho
    have h1 := hS.rm _ hr
    have h2 := osz_pos (hS.rd _ hr)
    dsimp only
    omega
  · obtain ⟨j, hj, hr, rfl⟩ := hout o ho
    have h2 := osz_pos (hS.rd _ hr)
    exact ⟨hr, hS.rd _ hr, by dsimp only; omega⟩
  · obtain ⟨j, hj, hr, rfl⟩ := hout o ho
    intro i hi
    have hpt := hS.pt _ hr i hi
    exact ⟨hpt, fun h0 => hhs _ (hr.step ⟨hS.rd _ hr, i, hi, hpt, h0, rfl⟩)⟩
end Go.Proofs.YtbmidhlilafgeaaGreatDoor
end
section
namespace Go.Proofs.YtbmidhlilafgeaaGreatDoor
open Go.RowKit Word

/-- What Need maps. -/
theorem need_ldE {v v1 : Vm} (h : VmOk v) {f t : Nat} (_ht : t ≤ v.n) (hE : needE v f t = 0) (hG : Grown v v1 (needF v f t)) {a : Nat} (ha : a < v.n) :
    v1.ldE a = 0 ↔ v.ldE a = 0 ∨ (f < t ∧ f / v.pl.pg ≤ a / v.pl.pg ∧ a / v.pl.pg ≤ (t - 1) / v.pl.pg) := by
  have hp := h.page
  rw [hG.ldE h ha]
  rcases Nat.lt_or_ge f t with hft | hft
  · have hF : needF v f t = unmL v ((f : Int) / v.pl.pg).toNat (pgsN v f t) := by unfold needF; rw [if_pos ⟨hE, by omega⟩]
    have e1 : ((f : Int) / (v.pl.pg : Int)).toNat = f / v.pl.pg := by rw [← Int.natCast_ediv]; exact Int.toNat_natCast _
    have e2 : pgsN v f t = (t - 1) / v.pl.pg + 1 - f / v.pl.pg := by
      unfold pgsN
      rw [show (t : Int) - 1 = ((t - 1 : Nat) : Int) by omega, ← Int.natCast_ediv, ← Int.natCast_ediv]
      have : f / v.pl.pg ≤ (t - 1) / v.pl.pg := Nat.div_le_div_right (by omega)
      omega
    have g0 : f / v.pl.pg ≤ (t - 1) / v.pl.pg := Nat.div_le_div_right (by omega)
    rw [hF]
    have hmem : a / v.pl.pg ∈ unmL v ((f : Int) / v.pl.pg).toNat (pgsN v f t) ↔ (f / v.pl.pg ≤ a / v.pl.pg ∧ a / v.pl.pg < f / v.pl.pg + ((t - 1) / v.pl.pg + 1 - f / v.pl.pg)) ∧ v.pt.getD (a / v.pl.pg) 0 = 0 := by rw [unmL_mem, e1, e2]
    by_cases h0 : v.pt.getD (a / v.pl.pg) 0 = 0
    · have hl : v.ldE a = 12 := by rw [h.ldE_of ha, if_pos h0]
      rw [hl]
      constructor
      · intro hx
        split at hx
        · rename_i hc; have := hmem.1 hc; exact .inr ⟨hft, by omega⟩
        · cases hx
      · rintro (hx | hx)
        · cases hx
        · rw [if_pos (hmem.2 ⟨by omega, h0⟩)]
    · have hl : v.ldE a = 0 := by rw [h.ldE_of ha, if_neg h0]
      rw [if_neg (fun hc => h0 (hmem.1 hc).2), hl]
      exact ⟨fun _ => .inl rfl, fun _ => rfl⟩
  · have hF : needF v f t = [] := by unfold needF; rw [if_neg (fun hc => by have := hc.2; omega)]
    rw [hF, if_neg (by simp)]
    exact ⟨.inl, fun hx => hx.elim id (fun hx => by omega)⟩
section
variable {v v1 v2 : Vm} {rs : List Int} {f t j : Nat} {L : List Ob}
theorem PkDone.base (d : PkDone v rs f t L v1 v2 j) : (pkUm v v2 f (f + sizes L) j).n = v.n ∧ (pkUm v v2 f (f + sizes L) j).pl.pg = v.pl.pg ∧ (pkUm v v2 f (f + sizes L) j).pl.rm = v.pl.rm ∧ VmOk (pkUm v v2 f (f + sizes L) j) ∧ v2.n = v.n ∧ v2.pl.pg = v.pl.pg := by
  obtain ⟨e1, e2, e3, -⟩ := umN_same v2 (pgUp (f + sizes L) v.pl.pg) (f / v.pl.pg + j - pgUp (f + sizes L) v.pl.pg)
  have n2 : v2.n = v.n := d.st.sm.n.trans d.gr.n
  have p2 : v2.pl.pg = v.pl.pg := d.st.sm.pg.trans d.gr.pg
  exact ⟨e1.trans n2, e2.trans p2, e3.trans (d.st.sm.rm.trans d.gr.rm), umN_ok d.st.ok _ _, n2, p2⟩
/-- Which words can be loaded behind it. -/
theorem PkDone.ldE (d : PkDone v rs f t L v1 v2 j) (h : VmOk v) (hE : needE v f ((f + sizes L : Nat) : Int) = 0) (hn : f + sizes L ≤ v.n) {a : Nat} (ha : a < v.n) :
    (pkUm v v2 f (f + sizes L) j).ldE a = 0 ↔ (v.ldE a = 0 ∨ (0 < sizes L ∧ f / v.pl.pg ≤ a / v.pl.pg ∧ a / v.pl.pg ≤ (f + sizes L - 1) / v.pl.pg)) ∧ ¬ (pgUp (f + sizes L) v.pl.pg ≤ a / v.pl.pg ∧ a / v.pl.pg < f / v.pl.pg + j) := by
  obtain ⟨-, -, -, -, n2, p2⟩ := d.base
  have h1 := need_ldE h hn hE d.gr ha
  unfold pkUm
  rw [umN_ldE d.st.ok _ _ (by rw [n2]; exact ha), p2, d.st.sm.ldE]
  rw [show (0 < sizes L ∧ f / v.pl.pg ≤ a / v.pl.pg ∧ a / v.pl.pg ≤ (f + sizes L - 1) / v.pl.pg) ↔ (f < f + sizes L ∧ f / v.pl.pg ≤ a / v.pl.pg ∧ a / v.pl.pg ≤ (f + sizes L - 1) / v.pl.pg) from ⟨fun h => ⟨by omega, h.2⟩, fun h => ⟨by omega, h.2⟩⟩]
  rw [← h1]
  by_cases hx : pgUp (f + sizes L) v.pl.pg ≤ a / v.pl.pg ∧ a / v.pl.pg < pgUp (f + sizes L) v.pl.pg + (f / v.pl.pg + j - pgUp (f + sizes L) v.pl.pg)
  · rw [if_pos hx]
    exact ⟨(fun h => by cases h), fun h => absurd (show pgUp (f + sizes L) v.pl.pg ≤ a / v.pl.pg ∧ a / v.pl.pg < f / v.pl.pg + j by omega) h.2⟩
  · rw [if_neg hx]
    exact ⟨fun h => ⟨h, fun h' => hx (by omega)⟩, fun h => h.1⟩
/-- A word that can be loaded is v2's. -/
theorem PkDone.ldV (d : PkDone v rs f t L v1 v2 j) {a : Nat} (ha : a < v.n) (hl : ¬ (pgUp (f + sizes L) v.pl.pg ≤ a / v.pl.pg ∧ a / v.pl.pg < f / v.pl.pg + j)) : (pkUm v v2 f (f + sizes L) j).ldV a = v2.ldV a := by
  obtain ⟨-, -, -, -, n2, p2⟩ := d.base
  exact umN_ldV d.st.ok _ _ (by rw [n2]; exact ha) (by rw [p2]; omega)
theorem PkDone.word (d : PkDone v rs f t L v1 v2 j) (h : VmOk v) (hn : f + sizes L ≤ v.n) {i : Nat} (hi : i < sizes L) : (pkUm v v2 f (f + sizes L) j).ldV ((f + i : Nat) : Int) = (rowP v1 L f L).getD i 0 := by
  have hp := h.page
  rw [d.ldV (by omega) (fun hx => by
    have h1 := (pgUp_le (nt := f + sizes L) (pg := v.pl.pg) hp.1).2 hx.1
    have := Nat.div_mul_le_self (f + i) v.pl.pg
    omega)]
  exact d.st.row i hi
/-- The new words, told of any memory with the same ones. -/
theorem rowP_wider {u : Vm} {n : Nat} (hw : Wider v u) (hM : Marks v rs n L) (hv : ∀ a : Nat, a < v.n → u.ldV a = v.ldV a) (hn : n ≤ v.n) (L' : List Ob) (fr : Nat) : ∀ P : List Ob, (∀ o ∈ P, o ∈ L) → rowP u L' fr P = rowP v L' fr P := fun P => by
  induction P with
  | nil => intro _; rfl
  | cons o r ih =>
    intro hP
    have ho := hP o (List.mem_cons_self ..)
    rw [rowP, rowP, ih (fun q hq => hP q (List.mem_cons_of_mem _ hq))]
    congr 1
    apply List.map_congr_left
    intro m hm
    rw [List.mem_range] at hm
    obtain ⟨-, h2, -⟩ := hM.mkd.ats o ho
    have h3 := (hM.mkd.good.sz o ho).2
    rw [pkW_at u L' fr o.1 m rfl, pkW_at v L' fr o.1 m rfl, (hw.rd h2).2, hv _ (by omega)]
end
/-- A laid heap has room for what is packed. -/
theorem need_in {v : Vm} (h : VmOk v) {f t : Nat} (ht : t ≤ v.n) (hl : ∀ a : Nat, f ≤ a → a < t → v.ldE a = 0) : needE v f t = 0 := by
  have hp := h.page
  unfold needE
  rw [if_neg (by omega)]
  by_cases hft : (t : Int) ≤ f
  · rw [if_pos hft]
  · rw [if_neg hft]
    have : unmL v ((f : Int) / v.pl.pg).toNat (pgsN v f t) = [] := by
      apply List.eq_nil_iff_forall_not_mem.2
      intro p hm
      rw [unmL_mem] at hm
      obtain ⟨⟨m1, m2⟩, m3⟩ := hm
      have e1 : ((f : Int) / (v.pl.pg : Int)).toNat = f / v.pl.pg := by rw [← Int.natCast_ediv]; exact Int.toNat_natCast _
      have g0 : f / v.pl.pg ≤ (t - 1) / v.pl.pg := Nat.div_le_div_right (by omega)
      have e2 : pgsN v f t = (t - 1) / v.pl.pg + 1 - f / v.pl.pg := by
        unfold pgsN
        rw [show (t : Int) - 1 = ((t - 1 : Nat) : Int) by omega, ← Int.natCast_ediv, ← Int.natCast_ediv]
        omega
      rw [e1] at m1 m2
      rw [e2] at m2
      have hq : ∃ a : Nat, f ≤ a ∧ a < t ∧ a / v.pl.pg = p := by
        rcases Nat.eq_or_lt_of_le m1 with h0 | h0
        · exact ⟨f, Nat.le_refl _, by omega, h0⟩
        · refine ⟨p * v.pl.pg, ?_, ?_, Nat.mul_div_cancel _ (by omega)⟩
          · have h1 := Nat.div_add_mod f v.pl.pg
            have h2 := Nat.mod_lt f (show 0 < v.pl.pg by omega)
            have h3 := Nat.mul_le_mul_right v.pl.pg (show f / v.pl.pg + 1 ≤ p by omega)
            rw [Nat.add_mul, Nat.one_mul, Nat.mul_comm] at h3
            omega
          · have h3 := Nat.mul_le_mul_right v.pl.pg (show p ≤ (t - 1) / v.pl.pg by omega)
            have h4 := Nat.div_mul_le_self (t - 1) v.pl.pg
            omega
      obtain ⟨a, a1, a2, rfl⟩ := hq
      have := hl a a1 a2
      rw [h.ldE_of (by omega), if_pos m3] at this
      cases this
    rw [this, List.length_nil, Nat.add_zero, if_pos]
    have h1 := h.pl.us
    have h2 := h.pl.le
    omega
end Go.Proofs.YtbmidhlilafgeaaGreatDoor
end
section
namespace Go.Proofs.YtbmidhlilafgeaaGreatDoor
open Go.RowKit Word

def x25 : LaidC := ⟨2, [⟨0, 0, 3⟩, ⟨0, 0, 3⟩, ⟨0, 0, 3⟩], [], [1], 0, 0, 0⟩
theorem x25_k : x25.k = 3 ∧ x25.page = 4 ∧ x25.at 1 = 8 ∧ x25.room = 5 ∧ x25.top = 16 ∧ x25.rs = [8] ∧ x25.n = 1028 := by decide +kernel
theorem live25 {v0 : Vm} {rm : Nat} (h : Run24 x25 rm v0) : Marks (layC x25 v0) x25.rs x25.n [(8, 4)] := by
  obtain ⟨e1, e2, e3, e4, e5, e6, e7⟩ := x25_k
  have hL := laid_in h.ok h.map
  obtain ⟨p, f, c, e, h1, h2, h3⟩ := hL.ob h.map (j := 1) (by rw [e1]; decide)
  rw [e3] at h1 h2 h3
  have e : (⟨0, 0, 3⟩ : Hdr) = ⟨p, f, c⟩ := e
  simp only [Hdr.mk.injEq] at e
  have hp : p = 0 ∧ f = 0 ∧ c = 3 := by omega
  obtain ⟨rfl, rfl, rfl⟩ := hp
  rw [e6, e7]
  have hr : Rch (layC x25 v0) [8] 8 := Rch.root (List.mem_singleton.2 rfl) (by decide)
  refine Marks.of ⟨⟨by simp, fun o ho => ?_⟩, fun o ho => ?_⟩ (fun r hr _ => ?_) (fun o ho => ?_)
  · rw [List.mem_singleton.1 ho]; simp
  · rw [List.mem_singleton.1 ho]; exact ⟨hr, h1, h3.symm⟩
  · rw [List.mem_singleton.1 hr]; exact ⟨(8, 4), List.mem_singleton.2 rfl, rfl⟩
  · rw [List.mem_singleton.1 ho]
    intro i hi
    have hi : (i : Int) < ((layC x25 v0).rdH ((8 : Nat) : Int)).p := hi
    rw [h2] at hi
    have hi : (i : Int) < 0 := hi
    omega
/-! Of nobody. -/
end Go.Proofs.YtbmidhlilafgeaaGreatDoor
end
section
namespace Go.Proofs.YtbmidhlilafgeaaGreatDoor
open Go.RowKit Word

def farC (n1 n2 n3 : Nat) : Bool := decide (80 < n1 ∨ 300 < n2 ∨ 64 < n3)
set_option maxRecDepth 100000 in
set_option maxHeartbeats 800000 in
theorem far24 (v0 v4 v5 v6 : Value) (A1 A2 A3 : Option Addr) (n1 n2 n3 c1 c2 c3 : Nat) (w : World) : Calls Tryz.prog 14 #[.agg #[v0, .slice A1 n1 c1, .slice A2 n2 c2, .slice A3 n3 c3, v4, v5, v6]] w fun e w' => e = .returned (.bool (farC n1 n2 n3)) ∧ Gr w w' := by
  have R := Rec.new w 25 [v0, .slice A1 n1 c1, .slice A2 n2 c2, .slice A3 n3 c3, v4, v5, v6]
  have y0 := R.cell (j := 0) rfl
  have y1 := R.cell (j := 1) rfl
  have y2 := R.cell (j := 2) rfl
  have y3 := R.cell (j := 3) rfl
  have yl := R.lt
  have HG := hid ((Gr.refl w).alloc (.cells #[v0, .slice A1 n1 c1, .slice A2 n2 c2, .slice A3 n3 c3, v4, v5, v6] 25))
  have HF : Hid (farC n1 n2 n3 = decide (80 < n1 ∨ 300 < n2 ∨ 64 < n3)) := ⟨rfl⟩
  clear R
  by_cases h1 : 80 < n1
  · have d1 : decide ((80 : Int) < (n1 : Int)) = true := decide_eq_true (by omega)
    have e1 : decide (80 < n1) = true := decide_eq_true h1
    have HE : Hid (farC n1 n2 n3 = true) := ⟨by rw [HF.out]; exact decide_eq_true (.inl h1)⟩
    rw [HE.out]
    go_enter Tryz.func14, Tryz.ntmps14
    go_wp2
    go_ret
    exact ⟨rfl, HG.out⟩
  · have d1 : decide ((80 : Int) < (n1 : Int)) = false := decide_eq_false (by omega)
    have e1 : decide (80 < n1) = false := decide_eq_false h1
    by_cases h2 : 300 < n2
    · have d2 : decide ((300 : Int) < (n2 : Int)) = true := decide_eq_true (by omega)
      have e2 : decide (300 < n2) = true := decide_eq_true h2
      have HE : Hid (farC n1 n2 n3 = true) := ⟨by rw [HF.out]; exact decide_eq_true (.inr (.inl h2))⟩
      rw [HE.out]
      go_enter Tryz.func14, Tryz.ntmps14
      go_wp2
      go_ret
      exact ⟨rfl, HG.out⟩
    · have d2 : decide ((300 : Int) < (n2 : Int)) = false := decide_eq_false (by omega)
      have e2 : decide (300 < n2) = false := decide_eq_false h2
      by_cases h3 : 64 < n3
      · have d3 : decide ((64 : Int) < (n3 : Int)) = true := decide_eq_true (by omega)
        have e3 : decide (64 < n3) = true := decide_eq_true h3
        have HE : Hid (farC n1 n2 n3 = true) := ⟨by rw [HF.out]; exact decide_eq_true (.inr (.inr h3))⟩
        rw [HE.out]
        go_enter Tryz.func14, Tryz.ntmps14
        go_wp2
        go_ret
        exact ⟨rfl, HG.out⟩
      · have d3 : decide ((64 : Int) < (n3 : Int)) = false := decide_eq_false (by omega)
        have e3 : decide (64 < n3) = false := decide_eq_false h3
        have HE : Hid (farC n1 n2 n3 = false) := ⟨by rw [HF.out]; exact decide_eq_false (by omega)⟩
        rw [HE.out]
        go_enter Tryz.func14, Tryz.ntmps14
        go_wp2
        go_ret
        exact ⟨rfl, HG.out⟩
set_option maxRecDepth 100000 in
set_option maxHeartbeats 3200000 in
theorem loaded25 {w : World} {S : Nat → Prop} {q : Nat} {v : Vm} (hV : VmAt w S q v) (hn : v.n ≤ 1100) :
    Calls Tryz.prog 19 #[.pointer (some ⟨q, 0, none⟩)] w fun e w' => ∃ (A : Option Addr) (c : Nat), e = .returned (.slice A v.n c) ∧ Gr w w' ∧ w'.ownsRow w.heap.size 50 1 (.slice A v.n c) v.n (wrds v v.n) := by
  have HV := hid hV.cut
  have HWD := hid (vm_words hV)
  obtain ⟨ii, hii, hi0, hi1, hi2⟩ := info_parts infoU64
  obtain ⟨n, hne⟩ : ∃ n, n = v.n := ⟨_, rfl⟩
  rw [← hne] at hn HWD ⊢
  clear hV hne
  go_enter Tryz.func19, Tryz.ntmps19
  go_wp2_with (go_at_call 33; refine HWD.out.mono ?_; rintro e w6 ⟨rfl, rfl⟩)
  go_loopw [3, 9] (fun s3 s9 wr => ∃ (k : Nat) (vL : Value), k ≤ n ∧ Hid (wr.ownsRow w.heap.size 50 1 vL k (wrds v k)) ∧ Hid (Touch (fun i => w.heap.size ≤ i) w wr) ∧ s3 = vL ∧ s9 = .int .i64 k) (fun _ s9 _ => n - (intOf s9).toNat)
  case atStart => exact ⟨0, _, Nat.zero_le _, ⟨own_nil _ _ _ _⟩, ⟨Touch.refl _ _⟩, rfl, rfl⟩
  case round =>
    obtain ⟨k, vL, hk, HO, HT, rfl, rfl⟩ := hrel
    obtain ⟨A5, c5, rfl, hc5, hc6⟩ := own_shape HO.out
    unfold maxLen at hc6
    by_cases hlast : k < n
    · have hkI : (k : Int) < (n : Int) := by omega
      have HLD := hid (vm_load (HV.out.touch HT.out (fun b hb h1 h2 => by have := hb.2; omega)) (k : Int))
      have HSN : Hid (wrds v k ++ [.int .u64 ((v.ldV (k : Int) : Nat) : Int)] = wrds v (k + 1)) := ⟨by unfold wrds; rw [List.range_succ, List.map_append]; rfl⟩
      obtain ⟨y, hy⟩ : ∃ y, y = v.ldV (k : Int) := ⟨_, rfl⟩
      rw [← hy] at HLD HSN
      have HKN := hid (And.intro hk hlast)
      clear hy hk
      go_wp2_with (first
        | (go_at_call 64; refine HLD.out.mono ?_; rintro e w7 ⟨rfl, hg7⟩; have HG7 := hid hg7; have HO7 := hid (own_gr HO.out hg7); clear hg7)
        | (at_builtin; refine wpList_append_lies _ rfl _ _ 35 rfl w.heap.size 50 ii _ 1 8 Tryz.underlying35 hii hi0 hi1 hi2 rfl (by decide) (.slice A5 k c5) k (wrds v k) rfl (HO7.out.alloc _) ⟨w7.heap.size, 0, none⟩ 1 1 [.int .u64 (y : Nat)] rfl rfl (World.news_of_block (cs := #[.int .u64 (y : Nat)]) (t := 50) (fr := (0, 0)) (heap_alloc_new w7 (.cells #[.int .u64 (y : Nat)] 50))) (by simp [Value.oneCell']) (by have := HKN.out; omega) (by unfold maxLen; have := HKN.out; omega) (by have := HKN.out; omega) (by have := HT.out.size; have := HG7.out.size; rw [World.size_alloc]; omega) (w7.heap.size + 1) (by simp) ?_; intro g4 c4 w8 hown4 hgrow4 hat4 hlt4; have t4 : Touch (fun k' => (Value.slice A5 k c5).ownBlock = some k') w7 w8 := (((Gr.refl _).alloc _).touch _).trans (grown_touch hgrow4 _ (fun k e _ => e)); have HT4 := hid t4; have HO4 := hid hown4; clear hown4 hgrow4 hat4 hlt4 t4))
      go_round
      case rel =>
        refine ⟨k + 1, _, by have := HKN.out; omega, ⟨by rw [← HSN.out]; exact HO4.out⟩, ⟨(HT.out.trans (HG7.out.touch _)).trans (HT4.out.mono (fun i _ h => (own_lt HO7.out h).1))⟩, rfl, by go_num⟩
      case measure => have := HKN.out; simp [intOf]; omega
    · have hkI : ¬ (k : Int) < (n : Int) := by omega
      obtain rfl : n = k := by omega
      clear hlast hk
      go_wp2
      go_ret
      exact ⟨A5, c5, rfl, touch_old HT.out, HO.out⟩
end Go.Proofs.YtbmidhlilafgeaaGreatDoor
end
section
namespace Go.Proofs.YtbmidhlilafgeaaGreatDoor
open Go.RowKit Word

theorem wrds_congr {u v : Vm} {M : Nat} (h : ∀ a : Nat, a < M → u.ldV a = v.ldV a) : wrds u M = wrds v M := by
  unfold wrds
  apply List.map_congr_left
  intro a ha
  rw [List.mem_range] at ha
  rw [h a ha]
/-- What the law holds on to. -/
structure P25 (W : World) (x : LaidC) (u : Vm) (hp q r gA cA : Nat) (A : Option Addr) (c : Nat) : Prop where
  hb : Rec W hp 37 (heapL x q r (.slice A x.n c))
  wd : Wrds W A c x.n u
  ws : W.ownsRow 0 3 1 (.slice (some ⟨gA, 0, none⟩) x.rs.length cA) x.rs.length (zs x.rs)
theorem P25.gr {W W' : World} {x : LaidC} {u : Vm} {hp q r gA cA : Nat} {A : Option Addr} {c : Nat} (h : P25 W x u hp q r gA cA A c) (g : Gr W W') : P25 W' x u hp q r gA cA A c := ⟨h.hb.gr g, h.wd.gr g, own_gr h.ws g⟩
theorem P25.touch {T : Nat → Prop} {W W' : World} {x : LaidC} {u : Vm} {hp q r gA cA : Nat} {A : Option Addr} {c : Nat} (h : P25 W x u hp q r gA cA A c) (t : Touch T W W') (h1 : ¬ T hp) (h2 : ∀ b, (Value.slice A x.n c).ownBlock = some b → ¬ T b) (h3 : ¬ T gA) : P25 W' x u hp q r gA cA A c :=
  ⟨h.hb.touch t h1, own_touch h.wd t h2, own_touch h.ws t (fun g hg => by cases hg; exact h3)⟩
theorem P25.ints {W : World} {x : LaidC} {u : Vm} {hp q r gA cA : Nat} {A : Option Addr} {c : Nat} (h : P25 W x u hp q r gA cA A c) : IntsAt W (some ⟨gA, 0, none⟩) x.rs := own_ints h.ws rfl
/-- The words lie apart from the roots. -/
theorem words_ne {W : World} {x : LaidC} {u : Vm} {A : Option Addr} {c r g : Nat} {rs : List Int} (h : Wrds W A c x.n u) (hR : RtAt W r g rs) {b : Nat} (hb : (Value.slice A x.n c).ownBlock = some b) : b ≠ g := by
  rintro rfl
  have hp := x.page_pos
  have hn : 0 < x.n := by unfold LaidC.n; omega
  obtain ⟨b', c', ea, -, -, -, -⟩ := own_form h (by omega)
  simp only [Value.slice.injEq] at ea
  obtain ⟨rfl, -, rfl⟩ := ea
  have e : b' = b := Option.some.inj hb
  subst e
  have h1 := own_cell h (wrds_at u hn)
  have h2 := hR.cell (i := 0) (List.length_pos_iff.2 hR.ne)
  rw [h1] at h2
  simp at h2
end Go.Proofs.YtbmidhlilafgeaaGreatDoor
end
section
section
namespace Go.Proofs.YtbmidhlilafgeaaGreatDoor
open Go.RowKit Word

theorem rowC_get (v : Vm) (O : List Int) (t : Nat) (P : List Int) {j m : Nat} (hj : j < P.length) (hm : (m : Int) < v.osz P[j]) : (rowC v O t P).getD ((sumC v (P.take j)).toNat + m) 0 = wdC v O t P[j] m := by
  induction P generalizing j with
  | nil => simp at hj
  | cons b r ih =>
    have hz := osz_nonneg v b
    cases j with
    | zero =>
      have hm : (m : Int) < v.osz b := hm
      have hlt : m < (v.osz b).toNat := by omega
      simp only [List.take_zero, sumC, Int.toNat_zero, Nat.zero_add, rowC, List.getElem_cons_zero]
      rw [List.getD_eq_getElem?_getD, List.getElem?_append_left (by simpa using hlt), List.getElem?_map, List.getElem?_range hlt]
      rfl
    | succ j =>
      have hj' : j < r.length := by simpa using hj
      have := ih hj' (by simpa using hm)
      have hs := sumC_nonneg v (r.take j)
      simp only [List.take_succ_cons, sumC, rowC, List.getElem_cons_succ]
      rw [← this, List.getD_eq_getElem?_getD, List.getElem?_append_right (by simp; omega), List.getD_eq_getElem?_getD]
      congr 2
      simp
      omega
/-- What an object looks like where it went. -/
theorem copied_at {u ub : Vm} {rs O : List Int} {t sz n : Nat} {L : List Ob} (hub : FullN n ub) (hrow : RowO u rs O) (hM : Marks u rs n L) (hval : ∀ i : Nat, i < sz → ub.ldV ((t + i : Nat) : Int) = (rowC u O t O).getD i 0) (hsz : sumC u O = sz) (htn : t + sz ≤ n) (ht : 0 < t) {p : Int} (hp : p ∈ O) :
    ∃ q : Nat, wentC u O t p = q ∧ t ≤ q ∧ (q : Int) + u.osz p ≤ n ∧ ub.rdE q = 0 ∧ ub.rdH q = u.rdH p ∧
      ∀ m : Nat, ((m + 1 : Nat) : Int) < u.osz p → ub.ldV ((q : Int) + 1 + m) = if (m : Int) < (u.rdH p).p then (wentC u O t (u.ldV (p + 1 + m) : Nat)).toNat else u.ldV (p + 1 + m) := by
  obtain ⟨j, hj, rfl⟩ := List.getElem_of_mem hp
  have hrd := hM.sound.rd _ (hrow.rc _ hp)
  have hz := osz_pos hrd
  have h0 := sumC_nonneg u (O.take j)
  have hst := sumC_take u hj
  have hsa := sumC_take_all u O (j + 1)
  have hw := wentC_at u hrow.nd t hj
  have hv : ∀ m : Nat, (m : Int) < u.osz O[j] → ub.ldV (((t + (sumC u (O.take j)).toNat : Nat) : Int) + m) = wdC u O t O[j] m := fun m hm => by
    have h1 := hval ((sumC u (O.take j)).toNat + m) (by omega)
    rw [rowC_get u O t O hj hm] at h1
    rw [← h1]
    congr 1
    push_cast
    omega
  have hv0 := hv 0 (by omega)
  have e0 : wdC u O t O[j] 0 = u.ldV O[j] := by
    unfold wdC
    rw [if_neg (by omega)]
    congr 1
    omega
  rw [e0, show (((t + (sumC u (O.take j)).toNat : Nat) : Int) + ((0 : Nat) : Int)) = ((t + (sumC u (O.take j)).toNat : Nat) : Int) by omega] at hv0
  have hl0 : ub.ldE ((t + (sumC u (O.take j)).toNat : Nat) : Int) = 0 := hub.al _ (by omega)
  refine ⟨t + (sumC u (O.take j)).toNat, by rw [hw]; omega, by omega, by omega, ?_, ?_, fun m hm => ?_⟩
  · unfold Vm.rdE at hrd ⊢
    rw [if_neg (by omega), if_neg (by omega)] at hrd
    rw [if_neg (by omega), if_neg (by omega), if_pos hl0, hv0]
    split at hrd
    · exact hrd
    · rename_i hx; exact absurd hrd hx
  · have h1 := (rdE_zero hrd).2.1
    unfold Vm.rdH
    rw [if_pos ⟨by omega, hl0⟩, if_pos ⟨by omega, h1⟩, hv0]
  · have h1 := hv (m + 1) hm
    rw [show (((t + (sumC u (O.take j)).toNat : Nat) : Int) + 1 + (m : Int)) = (((t + (sumC u (O.take j)).toNat : Nat) : Int) + ((m + 1 : Nat) : Int)) by push_cast; omega, h1]
    unfold wdC
    rw [show O[j] + ((m + 1 : Nat) : Int) = O[j] + 1 + m by push_cast; omega]
    by_cases hm1 : (m : Int) < (u.rdH O[j]).p
    · rw [if_pos ⟨by omega, by push_cast; omega⟩, if_pos hm1]
    · rw [if_neg (fun h => hm1 (by have := h.2; push_cast at this; omega)), if_neg hm1]
end Go.Proofs.YtbmidhlilafgeaaGreatDoor
end

section
namespace Go.Proofs.YtbmidhlilafgeaaGreatDoor
open Go.RowKit Word

def prM (F : Int → Int) (T : List Int) (y : Int) : Option Value := if y = 0 then some (.int .i64 0) else if y ∈ T then some (.int .i64 (F y)) else none
def bkM (F : Int → Int) (T : List Int) (y : Int) : Option Value := if y = 0 then some (.int .i64 0) else (T.find? (fun x => decide (F x = y))).map (fun x => .int .i64 x)
/-- The pairs in memory. -/
structure MtAt (w : World) (B : Nat) (b1 b2 b3 M1 M2 : Nat) (F : Int → Int) (T : List Int) (N : Nat) (vL : Value) : Prop where
  r1 : Rec w b1 104 [.map (some M1)]
  r2 : Rec w b2 104 [.map (some M2)]
  r3 : Rec w b3 30 [vL]
  m1 : MapI Tryz.prog 3 w M1 (N + 1) (prM F T)
  m2 : MapI Tryz.prog 3 w M2 (N + 1) (bkM F T)
  own : w.ownsRow B 3 1 vL N (zs T)
  len : N = T.length
  ne : M1 ≠ M2
theorem MtAt.gr {w w' : World} {B b1 b2 b3 M1 M2 : Nat} {F : Int → Int} {T : List Int} {N : Nat} {vL : Value} (h : MtAt w B b1 b2 b3 M1 M2 F T N vL) (g : Gr w w') : MtAt w' B b1 b2 b3 M1 M2 F T N vL :=
  ⟨h.r1.gr g, h.r2.gr g, h.r3.gr g, h.m1.gr g, h.m2.gr g, own_gr h.own g, h.len, h.ne⟩
/-- What numbers are told apart. -/
structure Inj (F : Int → Int) (O : List Int) : Prop where
  nz : ∀ a ∈ O, F a ≠ 0
  inj : ∀ a ∈ O, ∀ b ∈ O, F a = F b → a = b
theorem bkM_hit {F : Int → Int} {O T : List Int} (h : Inj F O) (hT : ∀ a ∈ T, a ∈ O) {p : Int} (hp : p ∈ T) : bkM F T (F p) = some (.int .i64 p) := by
  unfold bkM
  rw [if_neg (h.nz _ (hT _ hp))]
  have : T.find? (fun x => decide (F x = F p)) = some p := by
    cases hf : T.find? (fun x => decide (F x = F p)) with
    | none => have := List.find?_eq_none.1 hf p hp; simp at this
    | some y =>
      have h1 := List.find?_some hf
      have h2 := List.mem_of_find?_eq_some hf
      rw [h.inj y (hT _ h2) p (hT _ hp) (by simpa using h1)]
  rw [this]; rfl
theorem bkM_miss {F : Int → Int} {O T : List Int} (h : Inj F O) (hT : ∀ a ∈ T, a ∈ O) {p : Int} (hp : p ∈ O) (hn : p ∉ T) : bkM F T (F p) = none := by
  unfold bkM
  rw [if_neg (h.nz _ hp)]
  have : T.find? (fun x => decide (F x = F p)) = none := List.find?_eq_none.2 fun x hx hd => hn (by rw [← h.inj x (hT _ hx) p hp (by simpa using hd)]; exact hx)
  rw [this]; rfl
def MtEnd (w : World) (B b1 b2 b3 M1 M2 : Nat) (F : Int → Int) (T : List Int) (vL : Value) (p : Int) (e : Ending) (w' : World) : Prop :=
  ∃ N' vL', e = .returned (.bool true) ∧ MtAt w' B b1 b2 b3 M1 M2 F (addC T p) N' vL' ∧ Touch (fun b => (b = b3 ∨ b = M1 ∨ b = M2) ∨ vL.ownBlock = some b) w w'
section
variable {w : World} {B b1 b2 b3 M1 M2 N : Nat} {F : Int → Int} {T O : List Int} {vL : Value}
set_option maxRecDepth 100000 in
set_option maxHeartbeats 3200000 in
theorem alike_meet (h : MtAt w B b1 b2 b3 M1 M2 F T N vL) (hI : Inj F O) (hT : ∀ a ∈ T, a ∈ O) {p q : Int} (hp : (p = 0 ∧ q = 0) ∨ (p ∈ O ∧ p ≠ 0 ∧ q = F p)) (hpb : 0 ≤ p ∧ p ≤ 2147483647) (hqb : 0 ≤ q ∧ q ≤ 2147483647) (hN : N ≤ 2000) (hB : B ≤ w.heap.size) :
    Calls Tryz.prog 73 #[.int .i64 p, .int .i64 q, .pointer (some ⟨b1, 0, none⟩), .pointer (some ⟨b2, 0, none⟩), .pointer (some ⟨b3, 0, none⟩)] w (MtEnd w B b1 b2 b3 M1 M2 F T vL p) := by
  have H := hid h
  have l1 := h.m1.look_ok keyed_int Tryz.underlying104 Tryz.underlying3 (zero_int w) (x := p) (WalkArith.wf_i64 (by omega))
  have l2 := h.m2.look_ok keyed_int Tryz.underlying104 Tryz.underlying3 (zero_int w) (x := q) (WalkArith.wf_i64 (by omega))
  have c1 := h.r1.cell (j := 0) rfl
  have c2 := h.r2.cell (j := 0) rfl
  have c3 := h.r3.cell (j := 0) rfl
  by_cases hs : p = 0 ∨ p ∈ T
  · have hadd : addC T p = T := if_pos hs
    have hE : Hid (MtEnd w B b1 b2 b3 M1 M2 F T vL p (.returned (.bool true)) w) := ⟨⟨N, vL, rfl, by rw [hadd]; exact h, Touch.refl _ _⟩⟩
    have hq : prM F T p = some (.int .i64 q) ∧ bkM F T q = some (.int .i64 p) := by
      rcases hp with ⟨rfl, rfl⟩ | ⟨hpO, hp0, rfl⟩
      · exact ⟨if_pos rfl, if_pos rfl⟩
      · have hpT := hs.resolve_left hp0
        exact ⟨by unfold prM; rw [if_neg hp0, if_pos hpT], bkM_hit hI hT hpT⟩
    rw [hq.1] at l1
    rw [hq.2] at l2
    clear h hI hT hp hpb hqb hs hadd hq
    go_enter Tryz.func73, Tryz.ntmps73
    go_wp2
    go_ret
    exact hE.out
  · obtain ⟨hpO, hp0, hqF⟩ := hp.resolve_left (fun h => hs (.inl h.1))
    have hpT : p ∉ T := fun h => hs (.inr h)
    have hadd : addC T p = T ++ [p] := if_neg hs
    have hq1 : prM F T p = none := by unfold prM; rw [if_neg hp0, if_neg hpT]
    have hq2 : bkM F T q = none := by rw [hqF]; exact bkM_miss hI hT hpO hpT
    rw [hq1] at l1
    rw [hq2] at l2
    have HADD := hid hadd
    have HP1 : Hid (∀ y : Int, (if y = p then some (Value.int .i64 q) else prM F T y) = prM F (T ++ [p]) y) := ⟨fun y => by
      unfold prM
      by_cases e : y = p
      · rw [if_pos e, if_neg (by rw [e]; exact hp0), if_pos (by rw [e]; simp), e, hqF]
      · rw [if_neg e]
        by_cases e0 : y = 0
        · rw [if_pos e0, if_pos e0]
        · rw [if_neg e0, if_neg e0]
          by_cases hy : y ∈ T
          · rw [if_pos hy, if_pos (List.mem_append_left _ hy)]
          · rw [if_neg hy, if_neg (fun h => (List.mem_append.1 h).elim hy (fun h => e (List.mem_singleton.1 h)))]⟩
    have HP2 : Hid (∀ y : Int, (if y = q then some (Value.int .i64 p) else bkM F T y) = bkM F (T ++ [p]) y) := ⟨fun y => by
      have hq0 : q ≠ 0 := by rw [hqF]; exact hI.nz _ hpO
      unfold bkM
      by_cases e : y = q
      · subst e
        have hn : T.find? (fun x => decide (F x = y)) = none := List.find?_eq_none.2 fun x hx hd => hpT (by
          have := hI.inj x (hT _ hx) p hpO (by rw [← hqF]; simpa using hd)
          rw [← this]; exact hx)
        rw [if_pos rfl, if_neg hq0, List.find?_append, hn]
        simp [hqF]
      · rw [if_neg e]
        by_cases e0 : y = 0
        · rw [if_pos e0, if_pos e0]
        · rw [if_neg e0, if_neg e0, List.find?_append]
          have : [p].find? (fun x => decide (F x = y)) = none := List.find?_eq_none.2 fun x hx hd => e (by rw [List.mem_singleton.1 hx] at hd; rw [hqF]; exact (by simpa using hd : F p = y).symm)
          rw [this]
          simp⟩
    have HW1 : Hid ((Lit.int .i64 p).wf = true) := ⟨WalkArith.wf_i64 (by omega)⟩
    have HW2 : Hid ((Lit.int .i64 q).wf = true) := ⟨WalkArith.wf_i64 (by omega)⟩
    have HNM : Hid (N + 1 < maxLen) := ⟨by unfold maxLen; omega⟩
    have HNE : Hid (M1 ≠ b1 ∧ M1 ≠ b2 ∧ M1 ≠ b3 ∧ M2 ≠ b1 ∧ M2 ≠ b2 ∧ M2 ≠ b3) := ⟨⟨h.m1.ne (rec_cells h.r1), h.m1.ne (rec_cells h.r2), h.m1.ne (rec_cells h.r3), h.m2.ne (rec_cells h.r1), h.m2.ne (rec_cells h.r2), h.m2.ne (rec_cells h.r3)⟩⟩
    obtain ⟨TA, tc, rfl, hc1, hc2⟩ := own_shape h.own
    unfold maxLen at hc2
    have HRN : Hid (∀ g, (Value.slice TA N tc).ownBlock = some g → g ≠ M1 ∧ g ≠ M2 ∧ g ≠ b1 ∧ g ≠ b2 ∧ g ≠ b3) := ⟨fun g hg => by
      obtain ⟨cs, hcs⟩ := own_type h.own hg
      exact ⟨fun e => h.m1.ne ⟨_, _, hcs⟩ e.symm, fun e => h.m2.ne ⟨_, _, hcs⟩ e.symm, own_ne h.own h.r1 (by decide) hg rfl, own_ne h.own h.r2 (by decide) hg rfl, own_ne h.own h.r3 (by decide) hg rfl⟩⟩
    have h31 : b3 ≠ b1 := own_ne h.r3 h.r1 (by decide) rfl rfl
    have h32 : b3 ≠ b2 := own_ne h.r3 h.r2 (by decide) rfl rfl
    have HB3 := hid (And.intro h31 h32)
    obtain ⟨ii, hii, hi0, hi1, hi2⟩ := info_parts infoIntV
    clear h hI hT hp hpb hqb hs hadd hq1 hq2 hp0 hpT hpO hqF h31 h32
    go_enter Tryz.func73, Tryz.ntmps73
    go_upto_region 5 with (fail)
    obtain ⟨Sx, hSx⟩ : ∃ Sx : World → Prop, Sx = fun W' => W'.cell? ⟨b1, 0, none⟩ = some (.map (some M1)) ∧ W'.cell? ⟨b2, 0, none⟩ = some (.map (some M2)) := ⟨_, rfl⟩
    have x1 : ∀ p : Held Sx, p.w.cell? ⟨b1, 0, none⟩ = some (.map (some M1)) := fun p => (Held.get hSx p).1
    have x2 : ∀ p : Held Sx, p.w.cell? ⟨b2, 0, none⟩ = some (.map (some M2)) := fun p => (Held.get hSx p).2
    have HS : Hid (∀ W', Touch (fun i => i = M1 ∨ i = M2) w W' → Sx W') := ⟨fun W' t => by
      rw [hSx]
      exact ⟨(t.cell H.out.r1.lt (fun h => h.elim (fun e => HNE.out.1 e.symm) (fun e => HNE.out.2.2.2.1 e.symm)) 0).trans c1, (t.cell H.out.r2.lt (fun h => h.elim (fun e => HNE.out.2.1 e.symm) (fun e => HNE.out.2.2.2.2.1 e.symm)) 0).trans c2⟩⟩
    have hS0 := HS.out _ ((Gr.refl w).drew.touch _)
    have inst : Inhabited (Held Sx) := ⟨⟨_, hS0⟩⟩
    clear hSx
    refine wp_region_mixS Sx 7 [([0, 1, 2, 3, 4, 5], 6), ([], 7)] [] (by kernel_rfl) (by kernel_rfl) hS0 ?_
    refine segs_step ?_
    simp only [opsAt, List.getElem?_cons_zero, List.getElem?_cons_succ]
    repeat (go_big_quiet_step (fail))
    refine wpQuiet_nil ?_
    go_wp2_with (at_mapUpdate; refine wpList_mapI _ rfl _ _ _ 104 rfl 3 3 keyed_int Tryz.underlying104 Tryz.underlying3 M1 (N + 1) (prM F T) rfl (H.out.m1.gr (Gr.refl w).drew) HNM.out p (.int .i64 q) rfl rfl HW1.out ?_; intro w3 hm3 ht3; have HM3 := hid (hm3.congr HP1.out); have HT3 : Hid (Touch (fun i => i = M1 ∨ i = M2) w w3) := ⟨((Gr.refl w).drew.touch _).trans (ht3.mono (fun i _ h => .inl h))⟩; have HM32 := hid ((H.out.m2.gr (Gr.refl w).drew).touch ht3 (fun e => H.out.ne e.symm)); clear hm3 ht3)
    refine ⟨.inr (Held.of (HS.out _ HT3.out)), ?_⟩
    refine segs_step ?_
    simp only [opsAt, List.getElem?_cons_zero, List.getElem?_cons_succ]
    refine wpQuiet_nil ?_
    go_wp2_with (at_mapUpdate; refine wpList_mapI _ rfl _ _ _ 104 rfl 3 3 keyed_int Tryz.underlying104 Tryz.underlying3 M2 (N + 1) (bkM F T) rfl HM32.out HNM.out q (.int .i64 p) rfl rfl HW2.out ?_; intro w4 hm4 ht4; have HM4 := hid (hm4.congr HP2.out); have HM41 := hid (HM3.out.touch ht4 H.out.ne); have HT4 : Hid (Touch (fun i => i = M1 ∨ i = M2) w w4) := ⟨HT3.out.trans (ht4.mono (fun i _ h => .inr h))⟩; clear hm4 ht4)
    refine ⟨.inr (Held.of (HS.out _ HT4.out)), ?_⟩
    refine segs_end ?_
    refine wpQuiet_nil ?_
    refine NoPanic.normal ?_
    clear x1 x2 hS0 inst
    clear HS Sx
    have hn1 : ∀ b, b = b1 ∨ b = b2 ∨ b = b3 → ¬ (b = M1 ∨ b = M2) := fun b hb h => by
      obtain ⟨n1, n2, n3, n4, n5, n6⟩ := HNE.out
      rcases hb with rfl | rfl | rfl
      · exact h.elim (fun e => n1 e.symm) (fun e => n4 e.symm)
      · exact h.elim (fun e => n2 e.symm) (fun e => n5 e.symm)
      · exact h.elim (fun e => n3 e.symm) (fun e => n6 e.symm)
    have HR1 := hid (H.out.r1.touch HT4.out (hn1 _ (.inl rfl)))
    have HR2 := hid (H.out.r2.touch HT4.out (hn1 _ (.inr (.inl rfl))))
    have HR3 := hid (H.out.r3.touch HT4.out (hn1 _ (.inr (.inr rfl))))
    have HO4 := hid (own_touch H.out.own HT4.out (fun g hg h => by
      obtain ⟨n1, n2, -⟩ := HRN.out g hg
      exact h.elim n1 n2))
    have HBS : Hid (B ≤ w4.heap.size) := ⟨Nat.le_trans hB HT4.out.size⟩
    have k3 := HR3.out.cell (j := 0) rfl
    have k3l := HR3.out.lt
    clear c1 c2 c3 hn1 hB
    go_wp2_with (at_builtin; refine wpList_append_lies _ rfl _ _ 30 rfl B 3 ii _ 1 8 Tryz.underlying30 hii hi0 hi1 hi2 rfl (by decide) (.slice TA N tc) N (zs T) rfl (HO4.out.alloc _) ⟨w4.heap.size, 0, none⟩ 1 1 [.int .i64 p] rfl rfl (World.news_of_block (cs := #[.int .i64 p]) (t := 3) (fr := (0, 0)) (heap_alloc_new w4 (.cells #[.int .i64 p] 3))) (by simp [Value.oneCell']) (by omega) (by unfold maxLen; omega) (by omega) (by have := HBS.out; rw [World.size_alloc]; omega) (w4.heap.size + 1) (by simp) ?_; intro g5 c5 w5 hown5 hgrow5 hat5 hlt5; have t5 : Touch (fun k => (Value.slice TA N tc).ownBlock = some k) w4 w5 := (((Gr.refl _).alloc _).touch _).trans (grown_touch hgrow5 _ (fun k e _ => e)); have HT5 := hid t5; have HO5 := hid hown5; have HR35 := HR3.out.touch t5 (fun e => (HRN.out _ e).2.2.2.2 rfl); have q0 := HR35.cell (j := 0) rfl; have q1 := HR35.free 0; have ql := HR35.lt; have HR35 := hid HR35; clear hown5 hgrow5 hat5 hlt5 t5)
    go_ret
    have hn := HRN.out
    have t6 : Touch (fun b => b = b3) w5 (w5.setCell ⟨b3, 0, none⟩ (.slice (some ⟨g5, 0, none⟩) (N + 1) c5)) := (Touch.refl (fun b => b = b3) w5).setCell (a := ⟨b3, 0, none⟩) (fun _ => rfl) _
    have hO5 : w5.ownsRow B 3 1 (.slice (some ⟨g5, 0, none⟩) (N + 1) c5) (N + 1) (zs (T ++ [p])) := by unfold zs; rw [List.map_append]; exact HO5.out
    refine ⟨N + 1, .slice (some ⟨g5, 0, none⟩) (N + 1) c5, rfl, ?_, ?_⟩
    · rw [HADD.out]
      obtain ⟨n1, n2, n3, n4, n5, n6⟩ := HNE.out
      refine ⟨(HR1.out.touch HT5.out (fun e => (hn _ e).2.2.1 rfl)).touch t6 (fun e => HB3.out.1 e.symm), (HR2.out.touch HT5.out (fun e => (hn _ e).2.2.2.1 rfl)).touch t6 (fun e => HB3.out.2 e.symm), HR35.out.set 0 _, (HM41.out.touch HT5.out (fun e => (hn _ e).1 rfl)).touch t6 n3, (HM4.out.touch HT5.out (fun e => (hn _ e).2.1 rfl)).touch t6 n6, own_touch hO5 t6 (fun g hg e => own_ne hO5 HR35.out (by decide) hg rfl e), by rw [List.length_append, H.out.len]; rfl, H.out.ne⟩
    · refine ((HT4.out.mono (fun i _ h => ?_)).trans (HT5.out.mono (fun i _ h => .inr h))).trans (t6.mono (fun i _ h => .inl (.inl h)))
      exact .inl (h.elim (fun e => .inr (.inl e)) (fun e => .inr (.inr e)))
end
end Go.Proofs.YtbmidhlilafgeaaGreatDoor
end

section
namespace Go.Proofs.YtbmidhlilafgeaaGreatDoor
open Go.RowKit Word

/-- What an object that went looks like (copied_at). -/
def CopiedAt (u ub : Vm) (F : Int → Int) (n : Nat) (p : Int) : Prop :=
  ∃ q : Nat, F p = q ∧ 0 < q ∧ (q : Int) + u.osz p ≤ n ∧ ub.rdE q = 0 ∧ ub.rdH q = u.rdH p ∧
    ∀ m : Nat, ((m + 1 : Nat) : Int) < u.osz p → ub.ldV ((q : Int) + 1 + m) = if (m : Int) < (u.rdH p).p then (F (u.ldV (p + 1 + m) : Nat)).toNat else u.ldV (p + 1 + m)
section
variable {w : World} {A1 A2 A3 A4 : Option Addr} {c1 c2 c3 c4 n k : Nat} {u ub : Vm} {rs O out : List Int} {L : List Ob} {F : Int → Int}
theorem prM_nil (F : Int → Int) (y : Int) : (if y = 0 then some (Value.int .i64 0) else none) = prM F [] y := by unfold prM; simp
theorem bkM_nil (F : Int → Int) (y : Int) : (if y = 0 then some (Value.int .i64 0) else none) = bkM F [] y := by unfold bkM; simp
set_option maxRecDepth 100000 in
set_option maxHeartbeats 12800000 in
theorem alike25 (hu : FullN n u) (hub : FullN n ub) (hW1 : Wrds w A1 c1 n u) (hW2 : Wrds w A2 c2 n ub) (h3 : IntsAt w A3 rs) (h4 : IntsAt w A4 out) (hout : out = rs.map F) (hlen : rs.length ≤ 64) (hM : Marks u rs n L) (hn : n ≤ 1100) (hOe : O = ordC u rs k) (hk : k = O.length) (hrow : RowO u rs O) (hF0 : F 0 = 0) (hinj : Inj F O) (hcp : ∀ p ∈ O, CopiedAt u ub F n p) :
    Calls Tryz.prog 18 #[.slice A1 n c1, .slice A2 n c2, .slice A3 rs.length c3, .slice A4 rs.length c4] w fun e w' => e = .returned (.bool true) ∧ Gr w w' := by
  have HU := hid hu
  have HUB := hid hub
  have HW1 := hid hW1
  have HW2 := hid hW2
  have H3 := hid h3
  have H4 := hid h4
  have HO := hid hout
  have HM := hid hM
  have HOE := hid (And.intro hOe hk)
  have HROW := hid hrow
  have HCP := hid hcp
  have HINJ := hid hinj
  have HF0 := hid hF0
  obtain ⟨R, hR⟩ : ∃ R, R = rs.length := ⟨_, rfl⟩
  have HR := hid hR
  rw [← hR] at hlen ⊢
  clear hu hub hW1 hW2 h3 h4 hout hM hOe hk hrow hcp hR hF0 hinj
  obtain ⟨w2, hr2, hm2, ht2⟩ := (MapI.made (P := Tryz.prog) (K := 3) w).put keyed_int (t := 104) Tryz.underlying104 Tryz.underlying3 (by decide) 0 (.int .i64 0) (by decide)
  obtain ⟨w3, hr3, hm3, ht3⟩ := (MapI.made (P := Tryz.prog) (K := 3) w2).put keyed_int (t := 104) Tryz.underlying104 Tryz.underlying3 (by decide) 0 (.int .i64 0) (by decide)
  have HM1 := hid (hm2.congr (prM_nil F))
  have HM2 := hid (hm3.congr (bkM_nil F))
  have HT2 := hid ht2
  have HT3 := hid ht3
  clear hm2 hm3 ht2 ht3
  have hmk := @run_makeMap Tryz.prog
  have hmf : ∀ (fn : Fn) (first cap : Array Value) (w : World), (Instr.makeFunc fn first cap).run Tryz.prog w = .ok (.func fn first cap) w := fun _ _ _ _ => rfl
  go_enter Tryz.func18, Tryz.ntmps18
  go_upto_region 4 with (fail)
  have r1 := (Rec.new w3 104 [.map (some w.heap.size)]).gr (((Gr.refl _).alloc (.cells #[.map (some w2.heap.size)] 104)).alloc (.cells #[.slice none 0 0] 30))
  have r2 := (new2 w3 (.cells #[.map (some w.heap.size)] 104) 104 [.map (some w2.heap.size)]).gr ((Gr.refl _).alloc (.cells #[.slice none 0 0] 30))
  have r3 := new2 (w3.alloc (.cells #[.map (some w.heap.size)] 104)) (.cells #[.map (some w2.heap.size)] 104) 30 [.slice none 0 0]
  rw [World.size_alloc] at r3
  have g3 : Gr w3 (((w3.alloc (.cells #[.map (some w.heap.size)] 104)).alloc (.cells #[.map (some w2.heap.size)] 104)).alloc (.cells #[.slice none 0 0] 30)) := (((Gr.refl w3).alloc _).alloc _).alloc _
  obtain ⟨W0, hW0⟩ : ∃ W0, W0 = (((w3.alloc (.cells #[.map (some w.heap.size)] 104)).alloc (.cells #[.map (some w2.heap.size)] 104)).alloc (.cells #[.slice none 0 0] 30)) := ⟨_, rfl⟩
  have hs2 : w.heap.size < w2.heap.size := by have := HT2.out.size; rw [World.size_alloc] at this; omega
  have hs3 : w2.heap.size < w3.heap.size := by have := HT3.out.size; rw [World.size_alloc] at this; omega
  have hT0 : Touch (fun b => w.heap.size ≤ b) w W0 := by
    rw [hW0]
    exact (((((Gr.refl w).alloc _).touch _).trans (HT2.out.mono (fun i _ h => by omega))).trans ((((Gr.refl w2).alloc _).touch _).trans (HT3.out.mono (fun i _ h => by omega)))).trans (g3.touch _)
  have hMT : MtAt W0 w.heap.size w3.heap.size (w3.heap.size + 1) (w3.heap.size + 1 + 1) w.heap.size w2.heap.size F [] 0 (.slice none 0 0) := by
    rw [hW0]
    exact ⟨r1, r2, r3, ((HM1.out.gr ((Gr.refl w2).alloc _)).touch HT3.out (by omega)).gr g3, HM2.out.gr g3, own_nil _ _ _ _, rfl, by omega⟩
  obtain ⟨b1, hb1⟩ : ∃ b, b = w3.heap.size := ⟨_, rfl⟩
  obtain ⟨M2, hM2⟩ : ∃ b, b = w2.heap.size := ⟨_, rfl⟩
  rw [← hb1, ← hM2] at hMT
  have HMT := hid hMT
  have HB1 : Hid (w.heap.size ≤ b1 ∧ w.heap.size ≤ M2) := ⟨by omega⟩
  have HT0 := hid hT0
  have HBD : Hid (∀ a, a = 0 ∨ a ∈ O → (0 ≤ a ∧ a ≤ 1100) ∧ (0 ≤ F a ∧ F a ≤ 1100)) := ⟨fun a ha => by
    rcases ha with rfl | ha
    · rw [HF0.out]; omega
    · obtain ⟨q, hq, htq, hqn, -⟩ := HCP.out a ha
      have h1 := osz_pos (HM.out.sound.rd a (HROW.out.rc a ha))
      have h2 := HM.out.sound.rm a (HROW.out.rc a ha)
      rw [hq]
      omega⟩
  have HNL : Hid (O.length ≤ 1100) := ⟨Nat.le_trans (HROW.out.len HM.out) hn⟩
  clear r1 r2 r3 g3 hs2 hs3 hT0 hMT hr2 hr3 HM1 HM2
  go_upto_region 5 with (fail)
  rw [← hW0]
  rw [← hb1, ← hM2]
  clear hW0 hb1 hM2
  go_wp2_with (fail)
  clear hmk hmf
  go_loopw [36] (fun s36 wr => ∃ (i N : Nat) (T : List Int) (vL : Value), i ≤ R ∧ Hid (MtAt wr w.heap.size b1 (b1 + 1) (b1 + 1 + 1) w.heap.size M2 F T N vL) ∧ Hid (T = addsC [] (rs.take i) ∧ ∀ a ∈ T, a ∈ O) ∧ Hid (Touch (fun b => w.heap.size ≤ b) w wr) ∧ s36 = .int .i64 i) (fun s36 _ => R - (intOf s36).toNat)
  case atStart => exact ⟨0, 0, [], _, Nat.zero_le _, HMT, ⟨⟨rfl, fun a h => by cases h⟩⟩, HT0, rfl⟩
  case round =>
    obtain ⟨i, N, T, vL, hi, HMx, HTx, HTT, rfl⟩ := hrel
    clear HMT HT0
    by_cases hlt : i < R
    · have hil : i < rs.length := by have := HR.out; omega
      obtain ⟨bb, oo, rfl, hbb, e00⟩ := H3.out i hil
      have hio : i < out.length := by rw [HO.out, List.length_map]; exact hil
      obtain ⟨bo, oq, rfl, hbo, f00⟩ := H4.out i hio
      have e0 := (HTT.out.cell hbb (by omega) _).trans e00
      have f0 := (HTT.out.cell hbo (by omega) _).trans f00
      clear e00 f00
      have hoe : out[i] = F rs[i] := by
        have e : out[i]? = some (F rs[i]) := by rw [HO.out, List.getElem?_map, List.getElem?_eq_getElem hil]; rfl
        exact Option.some.inj ((List.getElem?_eq_getElem hio).symm.trans e)
      have hmem : rs[i] = 0 ∨ rs[i] ∈ O := by
        by_cases h0 : rs[i] = 0
        · exact .inl h0
        · right; rw [HOE.out.1]; exact ordC_roots u rs k _ (List.getElem_mem hil) h0
      have hNl : N ≤ 2000 := by
        have h1 := HMx.out.len
        have h2 : RowO u rs T := ⟨by rw [HTx.out.1]; exact addsC_nodup List.nodup_nil _, fun a ha => HROW.out.rc a (HTx.out.2 a ha)⟩
        have := h2.len HM.out
        omega
      obtain ⟨⟨p1, p2⟩, p3, p4⟩ := HBD.out _ hmem
      have HCALL := hid (alike_meet (HMx.out.gr (Gr.refl wr).drew) HINJ.out HTx.out.2 (p := rs[i]) (q := F rs[i]) (by
        rcases hmem with h | h
        · left; rw [h]; exact ⟨rfl, HF0.out⟩
        · by_cases h0 : rs[i] = 0
          · left; rw [h0]; exact ⟨rfl, HF0.out⟩
          · exact .inr ⟨h, h0, rfl⟩) ⟨p1, by omega⟩ ⟨p3, by omega⟩ hNl (by have := HTT.out.size; exact this))
      unfold MtEnd at HCALL
      have HNX : Hid (addC T rs[i] = addsC [] (rs.take (i + 1)) ∧ ∀ a ∈ addC T rs[i], a ∈ O) := ⟨by rw [take_snoc hil, addsC_snoc, ← HTx.out.1], fun a ha => by
        rcases mem_addC.1 ha with h | ⟨h, h0⟩
        · exact HTx.out.2 a h
        · rw [h]; exact hmem.resolve_left h0⟩
      have HBLK : Hid (∀ b, ((b = b1 + 1 + 1 ∨ b = w.heap.size ∨ b = M2) ∨ vL.ownBlock = some b) → w.heap.size ≤ b) := ⟨fun b h => by
        have := HB1.out
        rcases h with (h | h | h) | h
        · omega
        · omega
        · omega
        · exact (own_lt HMx.out.own h).1⟩
      rw [hoe] at f0
      obtain ⟨a, ha⟩ : ∃ a, a = rs[i] := ⟨_, rfl⟩
      obtain ⟨q, hq⟩ : ∃ q, q = F rs[i] := ⟨_, rfl⟩
      rw [← ha] at e0 HCALL HNX
      rw [← hq] at f0
      rw [← ha] at hq
      rw [← hq] at HCALL
      have hiI : (i : Int) < (R : Int) := by omega
      have HLT := hid hlt
      have hbl1 := Nat.lt_of_lt_of_le hbb HTT.out.size
      have hbl2 := Nat.lt_of_lt_of_le hbo HTT.out.size
      have HBB := hid (And.intro hbb hbo)
      have KE := hid (And.intro (((Gr.refl wr).drew.cell hbl1 (oo + i)).trans e0) (((Gr.refl wr).drew.cell hbl2 (oq + i)).trans f0))
      clear hoe hmem p1 p2 p3 p4 ha hq hil hio hlt hbb hbo
      go_upto_region 9 with (fail)
      obtain ⟨Sx, hSx⟩ : ∃ Sx : World → Prop, Sx = fun W' => W'.cell? ⟨bb, oo + i, none⟩ = some (.int .i64 a) ∧ W'.cell? ⟨bo, oq + i, none⟩ = some (.int .i64 q) := ⟨_, rfl⟩
      have x1 : ∀ p : Held Sx, p.w.cell? ⟨bb, oo + i, none⟩ = some (.int .i64 a) := fun p => (Held.get hSx p).1
      have x2 : ∀ p : Held Sx, p.w.cell? ⟨bo, oq + i, none⟩ = some (.int .i64 q) := fun p => (Held.get hSx p).2
      have hS0 : Sx wr.drew := by rw [hSx]; exact ⟨e0, f0⟩
      have inst : Inhabited (Held Sx) := ⟨⟨_, hS0⟩⟩
      have HSX := hid hSx
      clear hSx
      refine wp_region_mixS Sx 11 [([0, 1, 2, 3, 4, 5, 6, 7, 8], 9)] [10] (by kernel_rfl) (by kernel_rfl) hS0 ?_
      refine segs_step ?_
      simp only [opsAt, List.getElem?_cons_zero, List.getElem?_cons_succ]
      repeat (go_big_quiet_step (fail))
      refine wpQuiet_nil ?_
      go_wp2_with (go_at_call 73; refine HCALL.out.mono ?_; rintro e w5 ⟨N', vL', rfl, hm5, ht5⟩; have HM5 := hid hm5; have HT5 := hid ht5; clear hm5 ht5)
      have hS5 : Sx w5 := by
        have hz := (Gr.refl wr).drew.size
        have h1 := HBB.out
        rw [HSX.out]
        exact ⟨(HT5.out.cell (by omega) (fun h => by have := HBLK.out _ h; omega) _).trans KE.out.1, (HT5.out.cell (by omega) (fun h => by have := HBLK.out _ h; omega) _).trans KE.out.2⟩
      refine ⟨.inr (Held.of hS5), ?_⟩
      refine segs_end ?_
      simp only [opsAt, List.getElem?_cons_zero, List.getElem?_cons_succ]
      repeat (go_big_quiet_step (fail))
      refine wpQuiet_nil ?_
      refine NoPanic.normal ?_
      clear x1 x2 hS0 hS5 inst
      clear HSX Sx
      go_wp2
      go_round
      case rel => exact ⟨i + 1, N', _, vL', HLT.out, HM5, HNX, ⟨(HTT.out.trans ((Gr.refl wr).drew.touch _)).trans (HT5.out.mono (fun b _ h => HBLK.out b h))⟩, by go_num⟩
      case measure => have := HLT.out; simp [intOf]; omega
    · have hiI : ¬ (i : Int) < (R : Int) := by omega
      have hiR : i = R := by omega
      have HS : Hid (T = ordC u rs 0 ∧ ∀ a ∈ T, a ∈ O) := ⟨by have := HTx.out.1; rwa [hiR, HR.out, List.take_length] at this, HTx.out.2⟩
      clear hlt hiR HTx
      have y3 := HMx.out.r3.cell (j := 0) rfl
      go_wp2_with (fail)
      clear y3
      go_loopw [14] (fun s14 wx => ∃ (j N : Nat) (T : List Int) (vL : Value), j ≤ N ∧ Hid (MtAt wx w.heap.size b1 (b1 + 1) (b1 + 1 + 1) w.heap.size M2 F T N vL) ∧ Hid (T = ordC u rs j ∧ ∀ a ∈ T, a ∈ O) ∧ Hid (Touch (fun b => w.heap.size ≤ b) w wx) ∧ s14 = .int .i64 j) (fun s14 _ => 1101 - (intOf s14).toNat)
      case atStart => exact ⟨0, N, T, vL, Nat.zero_le _, HMx, HS, HTT, rfl⟩
      case round =>
        clear HMx HS HTT
        obtain ⟨j, N, T, vL, hj, HMx, HTx, HTT, rfl⟩ := hrel
        have y3 := HMx.out.r3.cell (j := 0) rfl
        obtain ⟨TA, tc, rfl, hc1, hc2⟩ := own_shape HMx.out.own
        have hNl : N ≤ 1100 := by
          have h1 := HMx.out.len
          have h2 : RowO u rs T := ⟨by rw [HTx.out.1]; exact ordC_nodup u rs j, fun a ha => HROW.out.rc a (HTx.out.2 a ha)⟩
          have := h2.len HM.out
          omega
        by_cases hlt : j < N
        · have hjI : (j : Int) < (N : Int) := by omega
          have hjT : j < T.length := by have := HMx.out.len; omega
          obtain ⟨gb, tc9, ea, -, -, -, hgb⟩ := own_form HMx.out.own (by omega)
          simp only [Value.slice.injEq] at ea
          obtain ⟨rfl, -, rfl⟩ := ea
          have k0 := own_cell HMx.out.own (zs_at hjT)
          have hmO := HTx.out.2 _ (List.getElem_mem hjT)
          have hra := HROW.out.rc _ hmO
          obtain ⟨a, p, f, kk, hae, hE, hh, hs, hin, hap, hoz, hpts⟩ := rch_obj HM.out.sound hra
          obtain ⟨q, hq, htq, hqn, hqE, hqH, hqV⟩ := HCP.out _ hmO
          have hpr : prM F T T[j] = some (.int .i64 q) := by
            unfold prM
            rw [if_neg (by rw [hae]; omega), if_pos (List.getElem_mem hjT)]
            show some (Value.int .i64 (F T[j])) = _
            rw [hq]
          have HGD : Hid (j < (ordC u rs j).length ∧ (ordC u rs j).getD j 0 = (a : Int)) := ⟨by
            rw [← HTx.out.1]
            exact ⟨hjT, by rw [List.getD_eq_getElem?_getD, List.getElem?_eq_getElem hjT, hae]; rfl⟩⟩
          rw [hae] at k0 hE hh hoz hpts hq hqn hqH hqV hpr hmO hra
          have hlk : ∀ W', Gr wr W' → (Instr.lookup 104 (.map (some w.heap.size)) (.int .i64 a) false).run Tryz.prog W' = .ok (.int .i64 q) W' := fun W' g => by
            rw [(HMx.out.m1.gr g).look keyed_int Tryz.underlying104 Tryz.underlying3 (zero_int W') (WalkArith.wf_i64 (by omega)), hpr]
            rfl
          have HB2 := hid (And.intro hap (And.intro hin hs))
          have HB3 := hid (And.intro htq hqn)
          rw [hoz] at HB3
          have HQV := hid hqV
          rw [hh, hoz] at HQV
          have HMO := hid hmO
          have HPT := hid hpts
          have HNXT : Hid (∀ b ∈ ptsC u (a : Int), b ≠ 0 → b ∈ O) := ⟨by
            obtain ⟨j', hj', e⟩ := List.getElem_of_mem hmO
            have h1 := ordC_closed u rs k j' (by rw [HOE.out.2]; exact hj') (by rw [← HOE.out.1]; exact hj')
            simp only [← HOE.out.1, e] at h1
            exact h1⟩
          have HPL : Hid ((ptsC u (a : Int)).length = p) := ⟨by rw [ptsC_len, hh]; exact Int.toNat_natCast p⟩
          have HRD1 := hid (fun (W : World) (g : Touch (fun b => w.heap.size ≤ b) w W) => ref15n_read HU.out (own_touch HW1.out g (fun gg hg h => by have := (own_lt HW1.out hg).2; omega)) (a : Int))
          have HRD2 := hid (fun (W : World) (g : Touch (fun b => w.heap.size ≤ b) w W) => ref15n_read HUB.out (own_touch HW2.out g (fun gg hg h => by have := (own_lt HW2.out hg).2; omega)) (q : Int))
          rw [hh, hE] at HRD1
          rw [hqH, hqE, hh] at HRD2
          unfold hdrV at HRD1 HRD2
          have HHH := hid hh
          have HLT := hid hlt
          have HJT := hid hjT
          have hRec := hid (fun W => Rec.new W 90 [.int .i64 p, .int .i64 f, .int .i64 kk])
          simp only [List.toArray] at hRec
          clear hE hh hoz hpts hq hqn hqH hqV hpr hmO hra htq hap hin hs hae hlt hjT
          go_upto_region 15 with (fail)
          clear y3
          obtain ⟨Sx, hSx⟩ : ∃ Sx : World → Prop, Sx = fun W' => Gr wr W' := ⟨_, rfl⟩
          have x1 : ∀ p : Held Sx, p.w.cell? ⟨b1 + 1 + 1, 0, none⟩ = some (.slice (some ⟨gb, 0, none⟩) N tc) := fun p => by have h := Held.get hSx p; exact (HMx.out.r3.gr h).cell (j := 0) rfl
          have x2 : ∀ p : Held Sx, p.w.cell? ⟨gb, j, none⟩ = some (.int .i64 a) := fun p => by have h := Held.get hSx p; exact (h.cell hgb j).trans k0
          have x3 : ∀ p : Held Sx, p.w.cell? ⟨b1, 0, none⟩ = some (.map (some w.heap.size)) := fun p => by have h := Held.get hSx p; exact (HMx.out.r1.gr h).cell (j := 0) rfl
          have x4 : ∀ p : Held Sx, (Instr.lookup 104 (.map (some w.heap.size)) (.int .i64 a) false).run Tryz.prog p.w = .ok (.int .i64 q) p.w := fun p => by have h := Held.get hSx p; exact hlk _ h
          have HS : Hid (∀ W', Gr wr W' → Sx W') := ⟨fun W' h => by rw [hSx]; exact h⟩
          have hS0 := HS.out _ ((Gr.refl wr).drew)
          have inst : Inhabited (Held Sx) := ⟨⟨_, hS0⟩⟩
          clear hSx
          refine wp_region_mixS Sx 12 [] [0, 1, 2, 3, 4, 5, 6, 7, 8, 9, 10, 11] (by kernel_rfl) (by kernel_rfl) hS0 ?_
          refine segs_end ?_
          try simp only [opsAt, List.getElem?_cons_zero, List.getElem?_cons_succ]
          repeat (go_big_quiet_step (fail))
          refine wpQuiet_nil ?_
          refine NoPanic.normal ?_
          clear x1 x2 x3 x4 hS0 inst
          clear HS Sx
          clear k0 hlk
          have HTD := hid (HTT.out.trans ((Gr.refl wr).drew.touch _))
          go_upto_region 17 with (go_at_call 74; refine (HRD1.out _ HTD.out).mono ?_; rintro e w1 ⟨rfl, hg1⟩; have HG1 := hid ((Gr.refl wr).drew.trans hg1); clear hg1)
          obtain ⟨w4, hw4⟩ : ∃ w4, w4 = w1.alloc (.cells #[.int .i64 p, .int .i64 f, .int .i64 kk] 90) := ⟨_, rfl⟩
          have R4 := hRec.out w1
          obtain ⟨h1, hh1⟩ : ∃ h1, h1 = w1.heap.size := ⟨_, rfl⟩
          have HH1 : Hid (wr.heap.size ≤ h1) := ⟨by rw [hh1]; exact HG1.out.size⟩
          have hg4 : Gr wr w4 := by rw [hw4]; exact HG1.out.alloc _
          rw [← hh1] at R4 ⊢
          rw [← hw4] at R4 ⊢
          have HTD4 := hid (HTT.out.trans (hg4.touch _))
          have HR4 := hid R4
          have HG4 := hid hg4
          clear hw4 HG1 R4 hg4 hh1
          go_upto_region 18 with (go_at_call 74; refine (HRD2.out _ HTD4.out).mono ?_; rintro e w5 ⟨rfl, hg5⟩; have HG5 := hid hg5; clear hg5)
          obtain ⟨w6, hw6⟩ : ∃ w6, w6 = w5.alloc (.cells #[.int .i64 p, .int .i64 f, .int .i64 kk] 90) := ⟨_, rfl⟩
          have R6 := hRec.out w5
          obtain ⟨h2, hh2⟩ : ∃ h2, h2 = w5.heap.size := ⟨_, rfl⟩
          have hg6 : Gr w4 w6 := by rw [hw6]; exact HG5.out.alloc _
          rw [← hh2] at R6 ⊢
          rw [← hw6] at R6 ⊢
          have y0 := (HR4.out.gr hg6).cell (j := 0) rfl
          have y1 := (HR4.out.gr hg6).cell (j := 1) rfl
          have y2 := (HR4.out.gr hg6).cell (j := 2) rfl
          have z0 := R6.cell (j := 0) rfl
          have z1 := R6.cell (j := 1) rfl
          have z2 := R6.cell (j := 2) rfl
          have HR6 := hid (HR4.out.gr hg6)
          have HM6 := hid (HMx.out.gr (HG4.out.trans hg6))
          have HT6 := hid (HTD4.out.trans (hg6.touch _))
          have HZ6 : Hid (wr.heap.size ≤ h1 ∧ h1 < w6.heap.size ∧ w.heap.size ≤ h1) := ⟨HH1.out, HR6.out.lt, Nat.le_trans HTT.out.size HH1.out⟩
          have HU0 : Hid (T = addsC T ((ptsC u (a : Int)).take (min 0 p)) ∧ ∀ b ∈ T, b ∈ O) := ⟨⟨by rw [Nat.zero_min]; rfl, HTx.out.2⟩⟩
          have HML : Hid (w.heap.size < wr.heap.size ∧ b1 + 1 + 1 < wr.heap.size ∧ M2 < wr.heap.size) := ⟨⟨HMx.out.m1.lt, HMx.out.r3.lt, HMx.out.m2.lt⟩⟩
          clear hw6 hh2 HG5 R6 hg6 HR4 HTD4 HRD1 HRD2 hRec
          go_upto_region 20 with (fail)
          clear z0 z1 z2
          have hb22 := HB2.out.2.2
          go_wp2_with (fail)
          go_loopw [98] (fun s98 wy => ∃ (m N' : Nat) (U : List Int) (vL : Value), m ≤ p + f + kk ∧ Hid (MtAt wy w.heap.size b1 (b1 + 1) (b1 + 1 + 1) w.heap.size M2 F U N' vL) ∧ Hid (U = addsC T ((ptsC u (a : Int)).take (min m p)) ∧ ∀ b ∈ U, b ∈ O) ∧ Hid (Rec wy h1 90 [.int .i64 p, .int .i64 f, .int .i64 kk]) ∧ Hid (Touch (fun b => w.heap.size ≤ b) w wy) ∧ s98 = .int .i64 m) (fun s98 _ => p + f + kk - (intOf s98).toNat)
          case atStart => exact ⟨0, N, T, _, Nat.zero_le _, HM6, HU0, HR6, HT6, rfl⟩
          case round =>
            clear y0 y1 y2 HM6 HU0 HR6 HT6
            obtain ⟨m, N', U, vL', hm, HMy, HUy, HRy, HTy, rfl⟩ := hrel
            obtain ⟨b20, b21, b22⟩ := HB2.out
            obtain ⟨b30, b31⟩ := HB3.out
            by_cases hlt : m < p + f + kk
            · have hmI : (m : Int) < (p : Int) + (f : Int) + (kk : Int) := by omega
              have HLT2 := hid hlt
              have hW1y := own_touch HW1.out HTy.out (fun gg hg h => by have := (own_lt HW1.out hg).2; omega)
              have hW2y := own_touch HW2.out HTy.out (fun gg hg h => by have := (own_lt HW2.out hg).2; omega)
              have hi1 : a + 1 + m < n := by omega
              have hi2 : q + 1 + m < n := by omega
              obtain ⟨gw, cw, ew, -, -, -, hgw⟩ := own_form hW1y (by omega)
              simp only [Value.slice.injEq] at ew
              obtain ⟨rfl, -, rfl⟩ := ew
              obtain ⟨gv, cv, ev, -, -, -, hgv⟩ := own_form hW2y (by omega)
              simp only [Value.slice.injEq] at ev
              obtain ⟨rfl, -, rfl⟩ := ev
              have k5 := own_cell hW1y (wrds_at u hi1)
              have k6 := own_cell hW2y (wrds_at ub hi2)
              have hqv := HQV.out m (by push_cast; omega)
              rw [show (q : Int) + 1 + (m : Int) = ((q + 1 + m : Nat) : Int) by omega, show (a : Int) + 1 + (m : Int) = ((a + 1 + m : Nat) : Int) by omega] at hqv
              have y0 := HRy.out.cell (j := 0) rfl
              have haI : (a : Int) + 1 + (m : Int) < (n : Int) := by omega
              have ha0 : (0 : Int) ≤ (a : Int) + 1 + (m : Int) := by omega
              have haN : ((a : Int) + 1 + (m : Int)).toNat = a + 1 + m := by omega
              have hqI : (q : Int) + 1 + (m : Int) < (n : Int) := by omega
              have hq0 : (0 : Int) ≤ (q : Int) + 1 + (m : Int) := by omega
              have hqN : ((q : Int) + 1 + (m : Int)).toNat = q + 1 + m := by omega
              have haI' : ¬ (n : Int) ≤ (a : Int) + 1 + (m : Int) := by omega
              have hqI' : ¬ (n : Int) ≤ (q : Int) + 1 + (m : Int) := by omega
              have HXL : Hid (u.ldV ((a + 1 + m : Nat) : Int) < 18446744073709551616 ∧ (m < p → u.ldV ((a + 1 + m : Nat) : Int) ≤ 2147483647)) := ⟨HU.out.ok.ldV_lt _, fun h => by
                have := (HPT.out m h).2.1
                rwa [show (a : Int) + 1 + (m : Int) = ((a + 1 + m : Nat) : Int) by omega] at this⟩
              have HXM : Hid (m < p → (ptsC u (a : Int)).take (m + 1) = (ptsC u (a : Int)).take m ++ [((u.ldV ((a + 1 + m : Nat) : Int) : Nat) : Int)] ∧ ((u.ldV ((a + 1 + m : Nat) : Int) : Nat) : Int) ∈ ptsC u (a : Int)) := ⟨fun h => by
                have hql : m < (ptsC u (a : Int)).length := by rw [HPL.out]; exact h
                have e : (ptsC u (a : Int))[m] = ((u.ldV ((a + 1 + m : Nat) : Int) : Nat) : Int) := by rw [ptsC_at, show (a : Int) + 1 + (m : Int) = ((a + 1 + m : Nat) : Int) by omega]
                exact ⟨by rw [List.take_succ_eq_append_getElem hql, e], by rw [← e]; exact List.getElem_mem hql⟩⟩
              have hNl' : N' ≤ 2000 := by
                have h1 := HMy.out.len
                have h2 : RowO u rs U := ⟨by rw [HUy.out.1]; exact addsC_nodup (by rw [HTx.out.1]; exact ordC_nodup u rs j) _, fun a ha => HROW.out.rc a (HUy.out.2 a ha)⟩
                have := h2.len HM.out
                omega
              obtain ⟨x, hx⟩ : ∃ x, x = u.ldV ((a + 1 + m : Nat) : Int) := ⟨_, rfl⟩
              obtain ⟨y, hy⟩ : ∃ y, y = ub.ldV ((q + 1 + m : Nat) : Int) := ⟨_, rfl⟩
              rw [← hx] at k5 HXL HXM hqv
              rw [← hy] at k6 hqv
              have HQY := hid hqv
              have HGW := hid (And.intro hgw hgv)
              clear hx hy hqv hW1y hW2y hi1 hi2 hgw hgv hlt hm
              go_upto_region 25 with (fail)
              obtain ⟨Sx, hSx⟩ : ∃ Sx : World → Prop, Sx = fun W' => W'.cell? ⟨gw, a + 1 + m, none⟩ = some (.int .u64 x) ∧ W'.cell? ⟨gv, q + 1 + m, none⟩ = some (.int .u64 y) := ⟨_, rfl⟩
              have x1 : ∀ p : Held Sx, p.w.cell? ⟨gw, a + 1 + m, none⟩ = some (.int .u64 x) := fun p => by have h := Held.get hSx p; exact h.1
              have x2 : ∀ p : Held Sx, p.w.cell? ⟨gv, q + 1 + m, none⟩ = some (.int .u64 y) := fun p => by have h := Held.get hSx p; exact h.2
              have HS : Hid (∀ W', W'.cell? ⟨gw, a + 1 + m, none⟩ = some (.int .u64 x) ∧ W'.cell? ⟨gv, q + 1 + m, none⟩ = some (.int .u64 y) → Sx W') := ⟨fun W' h => by rw [hSx]; exact h⟩
              have hS0 := HS.out (wr.drew) (⟨k5, k6⟩)
              have inst : Inhabited (Held Sx) := ⟨⟨_, hS0⟩⟩
              clear hSx
              refine wp_region_mixS Sx 16 [] [0, 1, 2, 3, 4, 5, 6, 7, 8, 9, 10, 11, 12, 13, 14, 15] (by kernel_rfl) (by kernel_rfl) hS0 ?_
              refine segs_end ?_
              try simp only [opsAt, List.getElem?_cons_zero, List.getElem?_cons_succ]
              repeat (go_big_quiet_step (fail))
              refine wpQuiet_nil ?_
              refine NoPanic.normal ?_
              clear x1 x2 hS0 inst
              clear HS Sx
              clear haI ha0 haN hqI hq0 hqN haI' hqI' k5 k6 b20 b21 b30 b31
              by_cases hp1 : m < p
              · have hx31 := HXL.out.2 hp1
                obtain ⟨htk, hmem⟩ := HXM.out hp1
                have hxO : (x : Int) = 0 ∨ (x : Int) ∈ O := by
                  by_cases h0 : (x : Int) = 0
                  · exact .inl h0
                  · exact .inr (HNXT.out _ hmem h0)
                obtain ⟨⟨p1, p2⟩, p3, p4⟩ := HBD.out _ hxO
                have hyx : (y : Int) = F (x : Int) := by
                  have := HQY.out
                  rw [if_pos (by omega)] at this
                  omega
                have HCALL := hid (alike_meet (HMy.out.gr (Gr.refl wr).drew) HINJ.out HUy.out.2 (p := (x : Int)) (q := (y : Int)) (by
                  by_cases h0 : (x : Int) = 0
                  · left; exact ⟨h0, by rw [hyx, h0]; exact HF0.out⟩
                  · exact .inr ⟨hxO.resolve_left h0, h0, hyx⟩) ⟨by omega, by omega⟩ ⟨by omega, by omega⟩ hNl' HTy.out.size)
                unfold MtEnd at HCALL
                have HNX : Hid (addC U (x : Int) = addsC T ((ptsC u (a : Int)).take (min (m + 1) p)) ∧ ∀ b ∈ addC U (x : Int), b ∈ O) := ⟨by
                  have := HUy.out.1
                  rw [show min m p = m by omega] at this
                  rw [show min (m + 1) p = m + 1 by omega, htk, addsC_snoc, ← this], fun b hb => by
                  rcases mem_addC.1 hb with h | ⟨h, h0⟩
                  · exact HUy.out.2 b h
                  · rw [h]; exact hxO.resolve_left h0⟩
                have HBLK : Hid (∀ b, ((b = b1 + 1 + 1 ∨ b = w.heap.size ∨ b = M2) ∨ vL'.ownBlock = some b) → w.heap.size ≤ b ∧ b ≠ h1) := ⟨fun b h => by
                  have g1 := HB1.out
                  have g2 := HML.out
                  have g3 := HZ6.out
                  rcases h with (h | h | h) | h
                  · omega
                  · omega
                  · omega
                  · exact ⟨(own_lt HMy.out.own h).1, own_ne HMy.out.own HRy.out (by decide) h rfl⟩⟩
                have y0 := (HRy.out.gr (Gr.refl wr).drew).cell (j := 0) rfl
                have hmp : (m : Int) < (p : Int) := by omega
                have hmp' : ¬ (p : Int) ≤ (m : Int) := by omega
                have hx3 : (x : Int) ≤ 1100 := by omega
                have hy3 : (y : Int) ≤ 1100 := by omega
                have d4 : decide (2147483648 ≤ (x : Int)) = false := decide_eq_false (by omega)
                have d5 : decide (2147483648 ≤ (y : Int)) = false := decide_eq_false (by omega)
                have hwx : IntKind.i64.wrap (x : Int) = (x : Int) := IntWalk.i64_in _ (by omega)
                have hwy : IntKind.i64.wrap (y : Int) = (y : Int) := IntWalk.i64_in _ (by omega)
                clear hx31 htk hmem hxO p1 p2 p3 p4 hyx hp1 hNl' hx3 hy3
                go_wp2_with (go_at_call 73; refine HCALL.out.mono ?_; rintro e w5 ⟨N5, vL5, rfl, hm5, ht5⟩; have HM5 := hid hm5; have HT5 := hid ht5; clear hm5 ht5)
                go_round
                case rel => exact ⟨m + 1, N5, _, vL5, HLT2.out, HM5, HNX, ⟨(HRy.out.gr (Gr.refl wr).drew).touch HT5.out (fun h => (HBLK.out _ h).2 rfl)⟩, ⟨(HTy.out.trans ((Gr.refl wr).drew.touch _)).trans (HT5.out.mono (fun b _ h => (HBLK.out b h).1))⟩, by go_num⟩
                case measure => have := HLT2.out; simp [intOf]; omega
              · have hyx : y = x := by
                  have := HQY.out
                  rw [if_neg (by omega)] at this
                  exact this
                have HNX : Hid (U = addsC T ((ptsC u (a : Int)).take (min (m + 1) p)) ∧ ∀ b ∈ U, b ∈ O) := ⟨by
                  have := HUy.out.1
                  rw [show min m p = p by omega] at this
                  rw [show min (m + 1) p = p by omega, ← this], HUy.out.2⟩
                have y0 := (HRy.out.gr (Gr.refl wr).drew).cell (j := 0) rfl
                have hmp : ¬ (m : Int) < (p : Int) := by omega
                have hmp' : (p : Int) ≤ (m : Int) := by omega
                subst hyx
                clear hp1 hNl'
                go_wp2
                go_round
                case rel => exact ⟨m + 1, N', U, vL', HLT2.out, ⟨HMy.out.gr (Gr.refl wr).drew⟩, HNX, ⟨HRy.out.gr (Gr.refl wr).drew⟩, ⟨HTy.out.trans ((Gr.refl wr).drew.touch _)⟩, by go_num⟩
                case measure => have := HLT2.out; simp [intOf]; omega
            · have hmI : ¬ (m : Int) < (p : Int) + (f : Int) + (kk : Int) := by omega
              have hme : m = p + f + kk := by omega
              have HNX : Hid (U = ordC u rs (j + 1) ∧ ∀ b ∈ U, b ∈ O) := ⟨by
                refine ⟨?_, HUy.out.2⟩
                rw [ord_next HGD.out.1, HGD.out.2, ← HTx.out.1]
                have := HUy.out.1
                rwa [show (ptsC u (a : Int)).take (min m p) = ptsC u (a : Int) by rw [show min m p = p by omega, ← HPL.out, List.take_length]] at this⟩
              have hjN : j + 1 ≤ N' := by
                obtain ⟨X, hX⟩ := addsC_ext T ((ptsC u (a : Int)).take (min m p))
                have h1 := HMy.out.len
                have h2 := HMx.out.len
                rw [HUy.out.1, hX, List.length_append] at h1
                omega
              have HJ1 := hid hjN
              have HJN := hid (And.intro hNl hjI)
              clear hme hjN hm hlt
              go_wp2
              go_round
              case rel => exact ⟨j + 1, N', U, vL', HJ1.out, HMy, HNX, HTy, by go_num⟩
              case measure => have := HJN.out; simp [intOf]; omega
        · have hjI : ¬ (j : Int) < (N : Int) := by omega
          clear hlt
          go_wp2
          go_ret
          exact ⟨rfl, touch_old HTT.out⟩
end
end Go.Proofs.YtbmidhlilafgeaaGreatDoor
end

section
namespace Go.Proofs.YtbmidhlilafgeaaGreatDoor
open Go.RowKit Word

theorem row_ord {v : Vm} {rs : List Int} {n : Nat} {L : List Ob} (hM : Marks v rs n L) (k : Nat) : RowO v rs (ordC v rs k) := by
  refine ⟨ordC_nodup v rs k, ?_⟩
  have hpts : ∀ b, Rch v rs b → ∀ a ∈ ptsC v b, a ≠ 0 → Rch v rs a := fun b hb a ha h0 => by
    obtain ⟨i, hi, rfl⟩ := List.getElem_of_mem ha
    rw [ptsC_at] at h0 ⊢
    rw [ptsC_len] at hi
    have hrd := hM.sound.rd _ hb
    have hp := hdr_p hrd
    have hpt := hM.sound.pt _ hb i (by omega)
    have he := ptV_of hpt
    exact hb.step ⟨hrd, i, by omega, hpt, by rw [he.1]; omega, by rw [he.1]⟩
  induction k with
  | zero => exact rch_adds (fun a h => by cases h) (fun a ha h0 => Rch.root ha h0)
  | succ k ih =>
    unfold ordC
    split
    · rename_i hk
      refine rch_adds ih (hpts _ (ih _ ?_))
      rw [List.getD_eq_getElem?_getD, List.getElem?_eq_getElem hk]
      exact List.getElem_mem hk
    · exact ih
/-- The order comes to an end. -/
theorem ord_ends {v : Vm} {rs : List Int} {n : Nat} {L : List Ob} (hM : Marks v rs n L) : ∃ k, k = (ordC v rs k).length := by
  have h : ∀ m, (∃ k, k = (ordC v rs k).length) ∨ m < (ordC v rs m).length := fun m => by
    induction m with
    | zero =>
      rcases Nat.eq_zero_or_pos (ordC v rs 0).length with h | h
      · exact .inl ⟨0, h.symm⟩
      · exact .inr h
    | succ m ih =>
      rcases ih with h | h
      · exact .inl h
      · obtain ⟨X, hX⟩ := ordC_ext v rs m
        have := congrArg List.length hX
        rw [List.length_append] at this
        rcases Nat.lt_or_ge (m + 1) (ordC v rs (m + 1)).length with h' | h'
        · exact .inr h'
        · exact .inl ⟨m + 1, by omega⟩
  rcases h n with h | h
  · exact h
  · have := (row_ord hM n).len hM
    omega
section
variable {w : World}
end
end Go.Proofs.YtbmidhlilafgeaaGreatDoor
end
end
section
namespace Go.Proofs.YtbmidhlilafgeaaGreatDoor
open Go.RowKit Word

/-- The objects, side by side. -/
def packO : Nat → List Ob → List Ob
  | _, [] => []
  | f, o :: r => (f, o.2) :: packO (f + o.2) r
theorem packO_len (f : Nat) (L : List Ob) : (packO f L).length = L.length := by
  induction L generalizing f with
  | nil => rfl
  | cons o r ih => simp only [packO, List.length_cons, ih]
theorem packO_get (f : Nat) (L : List Ob) {j : Nat} (hj : j < L.length) : (packO f L)[j]'(by rw [packO_len]; exact hj) = (f + sizes (L.take j), L[j].2) := by
  induction L generalizing f j with
  | nil => simp at hj
  | cons o r ih =>
    cases j with
    | zero => simp [packO, sizes]
    | succ j =>
      have hj' : j < r.length := by simpa using hj
      simp only [packO, List.getElem_cons_succ, ih (f + o.2) hj', List.take_succ_cons, sizes]
      rw [Nat.add_assoc]
theorem packO_sizes (f : Nat) (L : List Ob) : sizes (packO f L) = sizes L := by
  induction L generalizing f with
  | nil => rfl
  | cons o r ih => simp only [packO, sizes, ih]
theorem packO_take (f : Nat) (L : List Ob) (j : Nat) : (packO f L).take j = packO f (L.take j) := by
  induction L generalizing f j with
  | nil => simp [packO]
  | cons o r ih =>
    cases j with
    | zero => rfl
    | succ j => simp only [packO, List.take_succ_cons, ih]
theorem take_sizes (f : Nat) (L : List Ob) (j : Nat) : sizes ((packO f L).take j) = sizes (L.take j) := by rw [packO_take, packO_sizes]
theorem packO_mem {f : Nat} {L : List Ob} {o : Ob} (h : o ∈ packO f L) : ∃ j, ∃ hj : j < L.length, o = (f + sizes (L.take j), L[j].2) := by
  obtain ⟨j, hj, rfl⟩ := List.getElem_of_mem h
  rw [packO_len] at hj
  exact ⟨j, hj, packO_get f L hj⟩
theorem packO_in (f : Nat) (L : List Ob) {j : Nat} (hj : j < L.length) : (f + sizes (L.take j), L[j].2) ∈ packO f L := by
  rw [← packO_get f L hj]
  exact List.getElem_mem _
theorem take_mono (L : List Ob) {i j : Nat} (h : i ≤ j) : sizes (L.take i) ≤ sizes (L.take j) := by
  induction j with
  | zero => rw [Nat.le_zero.1 h]; exact Nat.le_refl _
  | succ j ih =>
    rcases Nat.lt_or_ge j i with h' | h'
    · obtain rfl : i = j + 1 := by omega
      exact Nat.le_refl _
    · refine Nat.le_trans (ih h') ?_
      rcases Nat.lt_or_ge j L.length with hj | hj
      · rw [sizes_take hj]; omega
      · rw [List.take_of_length_le (by omega), List.take_of_length_le (by omega)]; exact Nat.le_refl _
theorem packO_good {n : Nat} {L : List Ob} (hg : Good n L) {f : Nat} (hf : f + sizes L ≤ n) : Good n (packO f L) := by
  refine ⟨List.pairwise_iff_getElem.2 fun i j hi hj hij => ?_, fun o ho => ?_⟩
  · rw [packO_len] at hi hj
    rw [packO_get f L hi, packO_get f L hj]
    show f + sizes (L.take i) + L[i].2 ≤ f + sizes (L.take j)
    have h1 := sizes_take hi
    have h2 := take_mono L (show i + 1 ≤ j by omega)
    omega
  · obtain ⟨j, hj, rfl⟩ := packO_mem ho
    have h1 := (hg.sz _ (List.getElem_mem hj)).1
    have h2 := sizes_mid hj
    exact ⟨h1, by show f + sizes (L.take j) + L[j].2 ≤ n; omega⟩
theorem rd_move {v v' : Vm} {a a' : Int} (ha : 0 < a) (ha' : 0 < a') (h1 : v'.ldE a = v.ldE a') (h2 : v'.ldV a = v.ldV a') : v'.rdE a = v.rdE a' ∧ v'.rdH a = v.rdH a' := by
  unfold Vm.rdE Vm.rdH
  rw [h1, h2, if_neg (show ¬ a = 0 by omega), if_neg (show ¬ a' = 0 by omega), if_neg (show ¬ a < 0 by omega), if_neg (show ¬ a' < 0 by omega)]
  refine ⟨rfl, ?_⟩
  by_cases h : v.ldE a' = 0
  · rw [if_pos ⟨ha, h⟩, if_pos ⟨ha', h⟩]
  · rw [if_neg (fun hx => h hx.2), if_neg (fun hx => h hx.2)]
/-- A memory that holds the packed words. -/
structure Packed (u a : Vm) (rs : List Int) (L : List Ob) (f n : Nat) : Prop where
  mks : Marks u rs n L
  un : u.n = n
  ok : VmOk u
  f1 : 1 ≤ f
  top : f + sizes L ≤ n
  n2 : n ≤ 524288
  ge : ∀ o ∈ L, f ≤ o.1
  ld : ∀ i, i < sizes L → a.ldE ((f + i : Nat) : Int) = 0
  wd : ∀ i, i < sizes L → a.ldV ((f + i : Nat) : Int) = (rowP u L f L).getD i 0
section
variable {u a : Vm} {rs : List Int} {L : List Ob} {f n : Nat}
theorem Packed.to (h : Packed u a rs L f n) {b : Int} (hb : Hs L b) : ∃ j, ∃ hj : j < L.length, (L[j].1 : Int) = b ∧ toV L f b = ((f + sizes (L.take j) : Nat) : Int) := by
  obtain ⟨o, ho, he⟩ := hb
  obtain ⟨j, hj, rfl⟩ := List.getElem_of_mem ho
  refine ⟨j, hj, he, ?_⟩
  have h1 := (h.mks.mkd.good.sz _ (List.getElem_mem hj)).1
  have := (toV_at h.mks.mkd.good (base := f) hj (a := b) (by omega) (by omega)).1
  rw [this]
  omega
theorem Packed.zero (h : Packed u a rs L f n) : toV L f 0 = 0 := by
  have hn : ¬ findO L 0 < L.length := fun hx => by
    have h1 := findO_yes hx
    have h2 := h.ge _ (List.getElem_mem hx)
    have := h.f1
    omega
  exact (toV_no hn).1
/-- An object's words behind it. -/
theorem Packed.word (h : Packed u a rs L f n) {j m : Nat} (hj : j < L.length) (hm : m < L[j].2) : a.ldE ((f + sizes (L.take j) + m : Nat) : Int) = 0 ∧ a.ldV ((f + sizes (L.take j) + m : Nat) : Int) = pkW u L f L[j].1 m := by
  have h2 := sizes_mid hj
  have e : f + sizes (L.take j) + m = f + (sizes (L.take j) + m) := by omega
  rw [e]
  exact ⟨h.ld _ (by omega), by rw [h.wd _ (by omega), rowP_get u L f L hj hm]⟩
/-- An object behind it: its header and pointers. -/
theorem Packed.ob (h : Packed u a rs L f n) {j : Nat} (hj : j < L.length) : ∃ p ff k : Nat, u.rdH (L[j].1 : Nat) = ⟨p, ff, k⟩ ∧ p + ff + k ≤ 255 ∧ L[j].2 = 1 + p + ff + k ∧ u.rdE (L[j].1 : Nat) = 0 ∧
    a.rdE ((f + sizes (L.take j) : Nat) : Int) = 0 ∧ a.rdH ((f + sizes (L.take j) : Nat) : Int) = ⟨p, ff, k⟩ ∧
    ∀ m : Nat, m < p → u.ldV ((L[j].1 + 1 + m : Nat) : Int) ≤ 2147483647 ∧ (u.ldV ((L[j].1 + 1 + m : Nat) : Int) ≠ 0 → Hs L (u.ldV ((L[j].1 + 1 + m : Nat) : Int) : Nat)) ∧
      u.ptE (L[j].1 : Nat) m = 0 ∧ u.ptV (L[j].1 : Nat) m = u.ldV ((L[j].1 + 1 + m : Nat) : Int) ∧
      a.ptE ((f + sizes (L.take j) : Nat) : Int) m = 0 ∧ (a.ptV ((f + sizes (L.take j) : Nat) : Int) m : Int) = toV L f (u.ldV ((L[j].1 + 1 + m : Nat) : Int) : Nat) := by
  obtain ⟨hr, hrd, hz⟩ := h.mks.mkd.ats _ (List.getElem_mem hj)
  obtain ⟨b, p, ff, k, he, -, hh, hs, -, -, hoz, hp⟩ := rch_obj h.mks.sound hr
  have hsz : L[j].2 = 1 + p + ff + k := by omega
  obtain ⟨w1, w2⟩ := h.word hj (m := 0) (by omega)
  rw [Nat.add_zero] at w1 w2
  have hl0 := (rdE_zero hrd).2.1
  have e0 : pkW u L f L[j].1 0 = u.ldV (L[j].1 : Nat) := by
    rw [pkW_at u L f L[j].1 0 rfl, if_neg (fun hx => by have := hx.1.1; omega)]
    rfl
  rw [e0] at w2
  obtain ⟨r1, r2⟩ := rd_move (v := u) (v' := a) (a := ((f + sizes (L.take j) : Nat) : Int)) (a' := (L[j].1 : Nat)) (by have := h.f1; omega) (rdE_zero hrd).1 (by rw [w1, hl0]) w2
  refine ⟨p, ff, k, hh, hs, hsz, hrd, r1.trans hrd, r2.trans hh, fun m hm => ?_⟩
  obtain ⟨q1, q2, q3⟩ := hp m hm
  rw [show ((L[j].1 : Nat) : Int) + 1 + (m : Int) = ((L[j].1 + 1 + m : Nat) : Int) by omega] at q1 q2 q3
  have hs' : u.ldV ((L[j].1 + 1 + m : Nat) : Int) ≠ 0 → Hs L (u.ldV ((L[j].1 + 1 + m : Nat) : Int) : Nat) := fun h0 => h.mks.all _ (q3 h0)
  have e1 : ((L[j].1 : Nat) : Int) + 1 + (m : Int) = ((L[j].1 + 1 + m : Nat) : Int) := by omega
  have u1 := ptE_of (v := u) (a := (L[j].1 : Nat)) (i := m) hrd (by rw [hh]; show (m : Int) < (p : Int); omega) (by rw [e1]; exact q1) (by rw [e1]; exact q2)
  have u2 := (ptV_of u1.1).1
  rw [e1] at u2
  obtain ⟨x1, x2⟩ := h.word hj (m := 1 + m) (by omega)
  rw [pkW_at u L f L[j].1 (1 + m) (x := u.ldV ((L[j].1 + 1 + m : Nat) : Int)) (by rw [Nat.add_assoc])] at x2
  have e2 : ((f + sizes (L.take j) : Nat) : Int) + 1 + (m : Int) = ((f + sizes (L.take j) + (1 + m) : Nat) : Int) := by omega
  have hval : (a.ldV ((f + sizes (L.take j) + (1 + m) : Nat) : Int) : Int) = toV L f (u.ldV ((L[j].1 + 1 + m : Nat) : Int) : Nat) ∧ a.ldV ((f + sizes (L.take j) + (1 + m) : Nat) : Int) ≤ 2147483647 := by
    by_cases h0 : u.ldV ((L[j].1 + 1 + m : Nat) : Int) = 0
    · rw [x2, if_neg (fun hx => hx.2 h0), h0]
      exact ⟨h.zero.symm, by decide⟩
    · obtain ⟨i, hi, -, et⟩ := h.to (hs' h0)
      rw [x2, if_pos ⟨⟨by omega, by rw [hh]; show ((1 + m : Nat) : Int) ≤ (p : Int); omega⟩, h0⟩, et, Int.toNat_natCast]
      have := sizes_mid hi
      have := h.top
      have := h.n2
      exact ⟨rfl, by omega⟩
  have v1 := ptE_of (v := a) (a := ((f + sizes (L.take j) : Nat) : Int)) (i := m) (r1.trans hrd) (by rw [r2, hh]; show (m : Int) < (p : Int); omega) (by rw [e2]; exact x1) (by rw [e2]; exact hval.2)
  have v2 := (ptV_of v1.1).1
  rw [e2] at v2
  exact ⟨q2, hs', u1.1, u2, v1.1, by rw [v2]; exact hval.1⟩
/-- What is reached goes to what is reached. -/
theorem Packed.rch (h : Packed u a rs L f n) {b : Int} (hb : Rch u rs b) : Rch a (rs.map (toV L f)) (toV L f b) := by
  refine (hb (fun b => Hs L b ∧ Rch a (rs.map (toV L f)) (toV L f b)) (fun r hr h0 => ?_) ?_).2
  · have hs := h.mks.all _ (Rch.root hr h0)
    refine ⟨hs, Rch.root (List.mem_map_of_mem hr) ?_⟩
    obtain ⟨j, hj, -, e⟩ := h.to hs
    rw [e]
    have := h.f1
    omega
  · rintro x y ⟨hx, hxr⟩ ⟨-, i, hi, h0, h1, rfl⟩
    obtain ⟨j, hj, rfl, e⟩ := h.to hx
    obtain ⟨p, ff, k, hh, hs, hsz, -, r1, r2, hp⟩ := h.ob hj
    rw [hh] at hi
    have hi' : i < p := by have : (i : Int) < (p : Int) := hi; omega
    obtain ⟨q2, q3, q4, q5, q6, q7⟩ := hp i hi'
    rw [q5] at h1 ⊢
    refine ⟨q3 h1, ?_⟩
    rw [e] at hxr
    refine hxr.step ⟨r1, i, by rw [r2]; show (i : Int) < (p : Int); omega, q6, ?_, q7.symm⟩
    obtain ⟨j', hj', -, e'⟩ := h.to (q3 h1)
    rw [e'] at q7
    have := h.f1
    omega
/-- The packed heap's objects. -/
theorem Packed.marks (h : Packed u a rs L f n) : Marks a (rs.map (toV L f)) n (packO f L) := by
  have hg := packO_good h.mks.mkd.good h.top
  have hhs : ∀ b, Hs L b → Hs (packO f L) (toV L f b) := fun b hb => by
    obtain ⟨j, hj, -, e⟩ := h.to hb
    exact ⟨_, packO_in f L hj, by rw [e]⟩
  refine Marks.of ⟨hg, fun o ho => ?_⟩ (fun r hr h0 => ?_) (fun o ho i hi => ?_)
  · obtain ⟨j, hj, rfl⟩ := packO_mem ho
    obtain ⟨hr, -, -⟩ := h.mks.mkd.ats _ (List.getElem_mem hj)
    obtain ⟨p, ff, k, hh, hs, hsz, -, r1, r2, -⟩ := h.ob hj
    refine ⟨?_, r1, ?_⟩
    · have := h.rch hr
      obtain ⟨j', hj', e1, e2⟩ := h.to (h.mks.all _ hr)
      have e3 := (toV_at h.mks.mkd.good (base := f) hj (a := ((L[j].1 : Nat) : Int)) (by omega) (by have := (h.mks.mkd.good.sz _ (List.getElem_mem hj)).1; omega)).1
      rw [e3, show (f : Int) + sizes (L.take j) + ((L[j].1 : Nat) : Int) - (L[j].1 : Nat) = ((f + sizes (L.take j) : Nat) : Int) by push_cast; omega] at this
      exact this
    · unfold Vm.osz
      rw [r2, show hdrN ⟨p, ff, k⟩ = 1 + (p : Int) + ff + k from if_pos (hdrE_of hs)]
      show ((L[j].2 : Nat) : Int) = _
      omega
  · obtain ⟨r', hr', rfl⟩ := List.mem_map.1 hr
    have h1 : r' ≠ 0 := fun e => h0 (by rw [e]; exact h.zero)
    exact hhs _ (h.mks.all _ (Rch.root hr' h1))
  · obtain ⟨j, hj, rfl⟩ := packO_mem ho
    obtain ⟨p, ff, k, hh, hs, hsz, -, r1, r2, hp⟩ := h.ob hj
    have hi' : i < p := by rw [r2] at hi; have : (i : Int) < (p : Int) := hi; omega
    obtain ⟨q2, q3, q4, q5, q6, q7⟩ := hp i hi'
    refine ⟨q6, fun h0 => ?_⟩
    rw [q7]
    refine hhs _ (q3 fun e => h0 ?_)
    rw [e, show toV L f ((0 : Nat) : Int) = 0 from h.zero] at q7
    show a.ptV ((f + sizes (L.take j) : Nat) : Int) i = 0
    omega
/-- Packed again nothing goes elsewhere. -/
theorem Packed.same (h : Packed u a rs L f n) {b : Int} (hb : Hs (packO f L) b) : toV (packO f L) f b = b := by
  obtain ⟨o, ho, rfl⟩ := hb
  obtain ⟨j, hj, e⟩ := List.getElem_of_mem ho
  have hg := packO_good h.mks.mkd.good h.top
  have h1 := (hg.sz _ (List.getElem_mem hj)).1
  rw [← e]
  have h2 := (toV_at hg (base := f) hj (a := (((packO f L)[j].1 : Nat) : Int)) (by omega) (by omega)).1
  rw [h2]
  have hj' : j < L.length := by rwa [packO_len] at hj
  have e2 := packO_get f L hj'
  have e3 := take_sizes f L j
  rw [e3, e2]
  show (f : Int) + sizes (L.take j) + ((f + sizes (L.take j) : Nat) : Int) - ((f + sizes (L.take j) : Nat) : Int) = _
  push_cast
  omega
theorem Packed.zero2 (h : Packed u a rs L f n) : toV (packO f L) f 0 = 0 := by
  have hn : ¬ findO (packO f L) 0 < (packO f L).length := fun hx => by
    have h1 := findO_yes hx
    obtain ⟨j, hj, e⟩ := packO_mem (List.getElem_mem hx)
    rw [e] at h1
    have h3 : ((f + sizes (L.take j) : Nat) : Int) ≤ 0 := h1.1
    have := h.f1
    omega
  exact (toV_no hn).1
end
end Go.Proofs.YtbmidhlilafgeaaGreatDoor
end
section
namespace Go.Proofs.YtbmidhlilafgeaaGreatDoor
open Go.RowKit Word

/-- What a run leaves is packed. -/
theorem pk_packed {v v1 v2 u : Vm} {rs : List Int} {L : List Ob} {f t j : Nat} (d : PkDone v rs f t L v1 v2 j) (h : VmOk v) (hE : needE v f ((f + sizes L : Nat) : Int) = 0) (hn : f + sizes L ≤ v.n) (hM : Marks v rs v.n L) (hu : FullN v.n u) (huv : ∀ a : Nat, a < v.n → u.ldV a = v.ldV a) :
    Packed u (pkUm v v2 f (f + sizes L) j) rs L f v.n := by
  have hp := h.page
  have hw := ghost_wider hu rfl huv
  have hw1 := d.gr.wider h
  refine ⟨hw.marks hM, hu.n, hu.ok, d.cx.fr1, hn, h.n2, fun o ho => (d.cx.inn o ho).1, fun i hi => ?_, fun i hi => ?_⟩
  · refine (d.ldE h hE hn (by omega)).2 ⟨.inr ⟨by omega, Nat.div_le_div_right (by omega), Nat.div_le_div_right (by omega)⟩, fun hx => ?_⟩
    have h1 := (pgUp_le (nt := f + sizes L) (pg := v.pl.pg) hp.1).2 hx.1
    have := Nat.div_mul_le_self (f + i) v.pl.pg
    omega
  · rw [d.word h hn hi, rowP_wider hw hM huv (Nat.le_refl _) L f L (fun _ h => h), rowP_wider hw1 hM (fun a ha => d.gr.ldV_all h ha) (Nat.le_refl _) L f L (fun _ h => h)]
section
variable {u a : Vm} {rs : List Int} {L : List Ob} {f n : Nat}
theorem Packed.ghost (h : Packed u a rs L f n) {ub : Vm} (hub : FullN n ub) (hv : ∀ b : Nat, b < n → ub.ldV b = a.ldV b) : Packed u ub rs L f n :=
  ⟨h.mks, h.un, h.ok, h.f1, h.top, h.n2, h.ge, fun i hi => hub.al _ (by have := h.top; omega), fun i hi => by rw [hv _ (by have := h.top; omega)]; exact h.wd i hi⟩
theorem Packed.copied (h : Packed u a rs L f n) {p : Int} (hp : Hs L p) : CopiedAt u a (toV L f) n p := by
  obtain ⟨j, hj, rfl, e⟩ := h.to hp
  obtain ⟨pp, ff, k, hh, hs, hsz, hr, r1, r2, hq⟩ := h.ob hj
  have ho : u.osz ((L[j].1 : Nat) : Int) = 1 + (pp : Int) + ff + k := by unfold Vm.osz; rw [hh]; exact if_pos (hdrE_of hs)
  have hm := sizes_mid hj
  have ht := h.top
  refine ⟨f + sizes (L.take j), e, by have := h.f1; omega, by rw [ho]; omega, r1, by rw [r2, hh], fun m hm' => ?_⟩
  rw [ho] at hm'
  obtain ⟨x1, x2⟩ := h.word hj (m := 1 + m) (by omega)
  rw [pkW_at u L f L[j].1 (1 + m) (x := u.ldV ((L[j].1 + 1 + m : Nat) : Int)) (by rw [Nat.add_assoc])] at x2
  rw [show ((f + sizes (L.take j) : Nat) : Int) + 1 + (m : Int) = ((f + sizes (L.take j) + (1 + m) : Nat) : Int) by omega, x2, hh, show ((L[j].1 : Nat) : Int) + 1 + (m : Int) = ((L[j].1 + 1 + m : Nat) : Int) by omega]
  by_cases h1 : (m : Int) < (pp : Int)
  · rw [if_pos (show (m : Int) < (⟨pp, ff, k⟩ : Hdr).p from h1)]
    by_cases h0 : u.ldV ((L[j].1 + 1 + m : Nat) : Int) = 0
    · rw [if_neg (fun hx => hx.2 h0), h0, show toV L f ((0 : Nat) : Int) = 0 from h.zero]
      rfl
    · rw [if_pos ⟨⟨by omega, by show ((1 + m : Nat) : Int) ≤ (pp : Int); omega⟩, h0⟩]
  · rw [if_neg (show ¬ (m : Int) < (⟨pp, ff, k⟩ : Hdr).p from h1), if_neg (fun hx => by have h2 : ((1 + m : Nat) : Int) ≤ (pp : Int) := hx.1.2; omega)]
theorem Packed.inj (h : Packed u a rs L f n) {O : List Int} (hO : ∀ b ∈ O, Hs L b) : Inj (toV L f) O := by
  refine ⟨fun b hb => ?_, fun b hb c hc hbc => ?_⟩
  · obtain ⟨j, hj, -, e⟩ := h.to (hO b hb)
    rw [e]
    have := h.f1
    omega
  · obtain ⟨j, hj, e1, e2⟩ := h.to (hO b hb)
    obtain ⟨j', hj', e3, e4⟩ := h.to (hO c hc)
    have hs : ∀ i k, ∀ hi : i < L.length, ∀ hk : k < L.length, i < k → sizes (L.take i) < sizes (L.take k) := fun i k hi hk hik => by
      have h1 := sizes_take hi
      have h2 := take_mono L (show i + 1 ≤ k by omega)
      have h3 := (h.mks.mkd.good.sz _ (List.getElem_mem hi)).1
      omega
    have : j = j' := by
      rcases Nat.lt_trichotomy j j' with hlt | heq | hlt
      · have := hs j j' hj hj' hlt; omega
      · exact heq
      · have := hs j' j hj' hj hlt; omega
    subst this
    rw [← e1, ← e3]
/-- Packed again nothing is changed. -/
theorem Packed.again (h : Packed u a rs L f n) (ha : VmOk a) (hn : a.n = n) {room : Int} (h1 : 1 ≤ room) (h2 : room ≤ 4096) {W w' : World} {S : Nat → Prop} {q r g : Nat} {e : Ending}
    (hE : PkEnd W S q r g a (rs.map (toV L f)) (f : Nat) ((f + sizes L : Nat) : Int) room e w') :
    e = .returned (.tuple #[.int .i64 ((f + sizes L : Nat) : Int), .int .i64 0]) ∧ Touch (fun b => b = g ∨ S b) W w' ∧ ∃ b, VmAt w' (plus S W) q b ∧ b.n = n ∧ (∀ i : Nat, i < n → b.ldV i = a.ldV i) ∧ RtAt w' r g (rs.map (toV L f)) := by
  have hM := h.marks
  have htop := h.top
  have hf1 := h.f1
  have hp := ha.page
  have hin : PkIn a (rs.map (toV L f)) (f : Nat) ((f + sizes L : Nat) : Int) (packO f L) := ⟨by rw [hn]; exact hM, fun o ho => by
    obtain ⟨j, hj, rfl⟩ := packO_mem ho
    have := sizes_mid hj
    exact ⟨by show (f : Int) ≤ ((f + sizes (L.take j) : Nat) : Int); omega, by show ((f + sizes (L.take j) : Nat) : Int) + ((L[j].2 : Nat) : Int) ≤ _; omega⟩⟩
  have hld : ∀ i : Nat, f ≤ i → i < f + sizes L → a.ldE i = 0 := fun i hi1 hi2 => by
    have := h.ld (i - f) (by omega)
    rwa [show f + (i - f) = i by omega] at this
  have hnd : needE a f ((f + sizes L : Nat) : Int) = 0 := need_in ha (by omega) hld
  obtain ⟨ht, hc⟩ := hE
  rcases hc with ⟨h0, -⟩ | ⟨-, (⟨h0, -⟩ | ⟨L', f', t', hI, hf, htt, hc⟩)⟩
  · rw [pkArg_true.2 ⟨by omega, by omega, by omega, h1, h2⟩] at h0; cases h0
  · exact absurd hin (h0 _)
  · obtain rfl : f = f' := by omega
    obtain rfl : f + sizes L = t' := by omega
    have hu := hI.1.unique hin.1
    subst hu
    rw [packO_sizes] at hc
    rcases hc with ⟨h0, -⟩ | ⟨-, rfl, v1, v2, j, hD, hv, hrt⟩
    · exact absurd hnd h0
    · have hb := hD.base
      rw [packO_sizes] at hb
      refine ⟨rfl, ht, _, hv, hb.1.trans hn, fun i hi => ?_, ?_⟩
      · have hno : ¬ (pgUp (f + sizes L) a.pl.pg ≤ i / a.pl.pg ∧ i / a.pl.pg < f / a.pl.pg + j) := fun hx => by
          have e1 := (pgUp_le (nt := f + sizes L) (pg := a.pl.pg) hp.1).2 hx.1
          have e2 := hD.q1 (i / a.pl.pg - f / a.pl.pg)
          rcases Nat.lt_or_ge (i / a.pl.pg) (f / a.pl.pg) with h3 | h3
          · have h4 := Nat.mul_le_mul_right a.pl.pg (show i / a.pl.pg ≤ f / a.pl.pg by omega)
            have h5 := Nat.div_mul_le_self f a.pl.pg
            have h6 := Nat.mul_le_mul_right a.pl.pg (show i / a.pl.pg + 1 ≤ f / a.pl.pg by omega)
            rw [Nat.add_mul] at h6
            omega
          · have := e2 (by omega)
            rw [show f / a.pl.pg + (i / a.pl.pg - f / a.pl.pg) = i / a.pl.pg by omega] at this
            omega
        have e0 := hD.ldV (a := i) (by omega) (by rw [packO_sizes]; exact hno)
        rw [packO_sizes] at e0
        rw [e0]
        have hst := hD.st
        rw [packO_sizes] at hst
        have hv1 : ∀ b : Nat, b < a.n → v1.ldV b = a.ldV b := fun b hb => hD.gr.ldV_all ha hb
        rcases Nat.lt_or_ge i f with h3 | h3
        · rw [hst.out i (.inl h3), hv1 i (by omega)]
        · rcases Nat.lt_or_ge i (f + sizes L) with h4 | h4
          · have e5 := hst.row (i - f) (by omega)
            rw [show f + (i - f) = i by omega] at e5
            rw [e5, rowP_wider (hD.gr.wider ha) hin.1 hv1 (Nat.le_refl _) _ f _ (fun _ h => h)]
            clear e0 e5
            obtain ⟨jj, hjj, m, hm, e6, -⟩ : ∃ jj, ∃ hjj : jj < (packO f L).length, ∃ m, m < ((packO f L)[jj]'hjj).2 ∧ i - f = sizes ((packO f L).take jj) + m ∧ True := by
              have hq : i - f < sizes (packO f L) := by rw [packO_sizes]; omega
              obtain ⟨h7, i', h8, h9, -⟩ := placeO_spec hq
              exact ⟨_, h7, i', h8, h9, trivial⟩
            rw [e6, rowP_get a (packO f L) f (packO f L) hjj hm]
            have hjL : jj < L.length := by rwa [packO_len] at hjj
            have e7 := packO_get f L hjL
            have e8 := take_sizes f L jj
            have e9 : ((packO f L)[jj]'hjj).1 = f + sizes (L.take jj) := by rw [e7]
            rw [e9]
            have e10 : f + sizes (L.take jj) + m = i := by rw [e8] at e6; omega
            rw [pkW_at a (packO f L) f _ m rfl, e10]
            split
            · rename_i hx
              have hcl := hM.cl _ (List.getElem_mem hjj)
              rw [e9] at hcl
              obtain ⟨-, hr2, -⟩ := hM.mkd.ats _ (List.getElem_mem hjj)
              rw [e9] at hr2
              obtain ⟨c1, c2⟩ := hcl (m - 1) (by omega)
              have c3 := (ptV_of c1).1
              rw [show ((f + sizes (L.take jj) : Nat) : Int) + 1 + ((m - 1 : Nat) : Int) = (i : Int) by omega] at c3
              rw [c3] at c2
              rw [h.same (c2 hx.2), Int.toNat_natCast]
            · rfl
          · rw [hst.out i (.inr h4), hv1 i (by omega)]
      · rw [show (rs.map (toV L f)).map (toV (packO f L) f) = rs.map (toV L f) by
          rw [List.map_map]
          apply List.map_congr_left
          intro b hb
          show toV (packO f L) f (toV L f b) = toV L f b
          by_cases hb0 : b = 0
          · rw [hb0, h.zero, h.zero2]
          · have := h.mks.all _ (Rch.root hb hb0)
            obtain ⟨jj, hjj, -, e2⟩ := h.to this
            exact h.same ⟨_, packO_in f L hjj, by rw [e2]⟩] at hrt
        exact hrt
end
end Go.Proofs.YtbmidhlilafgeaaGreatDoor
end
section
namespace Go.Proofs.YtbmidhlilafgeaaGreatDoor
open Go.RowKit Go.Shelf Word
attribute [local go_sem] Oper.semAt_some

/-- A laid heap is packed. -/
theorem pk24_run {w w' : World} {x : LaidC} {rm q r g : Nat} {v0 : Vm} {SV : Nat → Prop} {rs : List Int} (hr : Run24 x rm v0) (hV : VmAt w' SV q (layC x v0)) (hR : RtAt w' r g rs) (hT : TabAt w) (hg : Gr w w') (hsv : ∀ i, SV i → w.heap.size ≤ i) (h1 : ¬ SV r) (h2 : ¬ SV g) (fr tp room : Int) :
    Calls Tryz.prog 28 #[.pointer (some ⟨q, 0, none⟩), .pointer (some ⟨r, 0, none⟩), .int .i64 fr, .int .i64 tp, .int .i64 room] w' (PkEnd w' SV q r g (layC x v0) rs fr tp room) := by
  have hs := hr.stays (Stays.layC hr.ok x)
  exact pk_run hV (by rw [hs.n]; have := x.page_pos; unfold LaidC.n; omega) hR (hg.tab hT.lt hT) (fun h => by have := hsv _ h; have := hT.lt; omega) h1 h2 fr tp room
/-- All of it is packed. -/
theorem run26_ok {x : LaidC} {rm : Nat} {v0 : Vm} {L : List Ob} (hr : Run24 x rm v0) (hM : Marks (layC x v0) x.rs x.n L) {room : Int} (h1 : 1 ≤ room) (h2 : room ≤ 4096)
    {W w' : World} {S : Nat → Prop} {q r g : Nat} {e : Ending} (h : PkEnd W S q r g (layC x v0) x.rs x.page x.top room e w') :
    e = .returned (.tuple #[.int .i64 ((x.page + sizes L : Nat) : Int), .int .i64 0]) ∧ Touch (fun b => b = g ∨ S b) W w' ∧ needE (layC x v0) x.page ((x.page + sizes L : Nat) : Int) = 0 ∧ x.page + sizes L ≤ x.top ∧
      ∃ v1 v2 j, PkDone (layC x v0) x.rs x.page x.top L v1 v2 j ∧ VmAt w' (plus S W) q (pkUm (layC x v0) v2 x.page (x.page + sizes L) j) ∧ RtAt w' r g (x.rs.map (toV L x.page)) := by
  have hst := Stays.layC hr.ok x
  have hs := hr.stays hst
  have hLI := laid_in (x := x) hr.ok hr.map
  have hmk := hLI.marks hr.map hM
  have ht := x.top_le
  have hp := x.page_pos
  have hn : x.n = x.page + 1024 := rfl
  have hin : PkIn (layC x v0) x.rs x.page x.top L := ⟨by rw [hs.n]; exact hM, fun o ho => by have := hmk.1 o ho; omega⟩
  have hall : x.page + sizes L ≤ x.top := by
    rcases Nat.eq_zero_or_pos L.length with h0 | h0
    · have : L = [] := List.eq_nil_of_length_eq_zero h0
      subst this
      simp only [sizes]; omega
    · have hj : L.length - 1 < L.length := by omega
      have e1 := pk_le hM.mkd.good (fun o ho => (hmk.1 o ho).1) hj
      have e2 := hmk.1 _ (List.getElem_mem hj)
      have e3 := sizes_take hj
      rw [show L.length - 1 + 1 = L.length by omega, List.take_length] at e3
      omega
  have hE : needE (layC x v0) x.page ((x.page + sizes L : Nat) : Int) = 0 := need_in hs.ok (by rw [hs.n]; omega) (fun a h1 h2 => by
    rw [hs.le a (by omega)]
    have := x.up_le
    rw [if_pos ⟨h1, by omega⟩])
  obtain ⟨ht', hc⟩ := h
  rcases hc with ⟨h0, -⟩ | ⟨-, (⟨h0, -⟩ | ⟨L', f, t, hI, hf, htt, hc⟩)⟩
  · rw [pkArg_true.2 ⟨by omega, by omega, by rw [hs.n]; omega, h1, h2⟩] at h0; cases h0
  · exact absurd hin (h0 L)
  · obtain rfl : x.page = f := by omega
    obtain rfl : x.top = t := by omega
    have e := hI.1.unique hin.1
    subst e
    rcases hc with ⟨h0, -⟩ | ⟨-, rfl, v1, v2, j, hD, hv, hrt⟩
    · exact absurd hE h0
    · exact ⟨rfl, ht', hE, hall, v1, v2, j, hD, hv, hrt⟩
/-- What packing the example leaves. -/
theorem live26_end {w w' : World} {q r g : Nat} {v0 : Vm} {S : Nat → Prop} {e : Ending} (h : Run24 x25 (5 + 0) v0) (hE : PkEnd w S q r g (layC x25 v0) x25.rs 4 16 9 e w') :
    e = .returned (.tuple #[.int .i64 8, .int .i64 0]) ∧ Touch (fun b => b = g ∨ S b) w w' ∧ (∃ v, VmAt w' (plus S w) q v ∧ v.pl.used = 1) ∧ RtAt w' r g [4] := by
  obtain ⟨e1, e2, e3, e4, e5, e6, e7⟩ := x25_k
  have hs := h.stays (Stays.layC h.ok x25)
  have hM := live25 h
  have hE' : PkEnd w S q r g (layC x25 v0) x25.rs (x25.page : Nat) (x25.top : Nat) 9 e w' := by rw [e2, e5]; exact hE
  obtain ⟨rfl, ht, hnd, hall, v1, v2, j, hD, hv, hrt⟩ := run26_ok h hM (by decide) (by decide) hE'
  have hz : sizes [(8, 4)] = 4 := rfl
  rw [e2, hz] at hnd hv hall
  rw [e5] at hall
  rw [e2, e5] at hD
  have hb := hD.base
  rw [hz] at hb
  have hpg : (layC x25 v0).pl.pg = 4 := by rw [hs.pg, e2]
  have hn : (layC x25 v0).n = 1028 := by rw [hs.n, e7]
  refine ⟨by rw [e2, hz]; rfl, ht, ⟨_, hv, ?_⟩, ?_⟩
  · refine used_run hb.2.2.2.1 (p0 := 1) (k := 1) (by rw [hb.2.1, hpg, hb.1, hn]; decide) (fun a ha => ?_)
    rw [hb.1, hn] at ha
    have h1 := hD.ldE hs.ok (a := a) (by rw [hz]; exact hnd) (by rw [hz, hn]; decide) (by rw [hn]; exact ha)
    rw [hz] at h1
    rw [h1, hpg, hb.2.1, hpg]
    have h2 := hs.le a (by rw [e7]; exact ha)
    rw [e2, e5, show upN 16 4 = 16 from rfl] at h2
    have h3 := hD.q2
    rw [hpg] at h3
    have h4 : pgUp (4 + 4) 4 = 2 := rfl
    rw [h4, h2]
    constructor
    · rintro ⟨(hx | ⟨-, hx⟩), hy⟩
      · split at hx
        · omega
        · cases hx
      · omega
    · intro hx
      exact ⟨.inl (if_pos (by omega)), by omega⟩
  · rw [e6, e2] at hrt
    exact hrt
set_option maxRecDepth 100000 in
set_option maxHeartbeats 3200000 in
theorem lives26 {w : World} (hT : TabAt w) : Gets Tryz.prog 27 #[] w (.bool true) := by
  have HT := hid hT
  clear hT
  unfold Gets
  go_enter Tryz.func27, Tryz.ntmps27
  have g1 : Gr w ((w.alloc (.cells #[.int .i64 0, .int .i64 0, .int .i64 3, .int .i64 0, .int .i64 0, .int .i64 3, .int .i64 0, .int .i64 0, .int .i64 3] 90)).alloc (.cells #[.int .u8 1] 5)) := ((Gr.refl w).alloc _).alloc _
  have r1 := (Rec.new w 90 [.int .i64 0, .int .i64 0, .int .i64 3, .int .i64 0, .int .i64 0, .int .i64 3, .int .i64 0, .int .i64 0, .int .i64 3]).gr ((Gr.refl _).alloc (.cells #[.int .u8 1] 5))
  have r2 := new2 w (.cells #[.int .i64 0, .int .i64 0, .int .i64 3, .int .i64 0, .int .i64 0, .int .i64 3, .int .i64 0, .int .i64 0, .int .i64 3] 90) 5 [.int .u8 1]
  have HL := hid (lay24_walk (w := ((w.alloc (.cells #[.int .i64 0, .int .i64 0, .int .i64 3, .int .i64 0, .int .i64 0, .int .i64 3, .int .i64 0, .int .i64 0, .int .i64 3] 90)).alloc (.cells #[.int .u8 1] 5))) (x := x25) (A1 := some ⟨w.heap.size, 0, none⟩) (A2 := none) (A3 := some ⟨w.heap.size + 1, 0, none⟩) (c1 := 3) (c2 := 0) (c3 := 1) (more := 0)
    ⟨fun i hi => by
        have hi : i < 3 := hi
        refine ⟨w.heap.size, 0, rfl, r1.lt, ?_⟩
        rcases (by omega : i = 0 ∨ i = 1 ∨ i = 2) with rfl | rfl | rfl
        · exact ⟨r1.cell (j := 0) rfl, r1.cell (j := 1) rfl, r1.cell (j := 2) rfl⟩
        · exact ⟨r1.cell (j := 3) rfl, r1.cell (j := 4) rfl, r1.cell (j := 5) rfl⟩
        · exact ⟨r1.cell (j := 6) rfl, r1.cell (j := 7) rfl, r1.cell (j := 8) rfl⟩, fun i hi => absurd hi (Nat.not_lt_zero _), fun i hi => by
        have hi : i < 1 := hi
        refine ⟨w.heap.size + 1, 0, rfl, r2.lt, ?_⟩
        obtain rfl : i = 0 := by omega
        exact ⟨show (1 : Nat) < 256 by decide, r2.cell (j := 0) rfl⟩, by decide, by decide, by decide, by decide, by decide, by decide, by decide⟩ (by decide))
  have HG1 := hid g1
  clear g1 r1 r2
  unfold laidV at HL
  go_upto_region 4 with (go_at_call 13; refine HL.out.mono ?_; rintro e w1 ⟨hp, q, r, g, A, c, v0, SV, rfl, hg1, hrn, hz0, hvm, hrt, hrec, hwr, hsv, hs1, hs2, hs3, hs4, hs5⟩; have HG := hid (HG1.out.trans hg1); have HV := hid hvm; have HRN := hid hrn; have HRT := hid hrt; have HRC := hid hrec; have HSV := hid (And.intro hsv (And.intro hs1 (And.intro hs2 (And.intro hs3 hs4)))); have HGL := hid hg1; clear hg1 hrn hz0 hvm hrt hrec hwr hsv hs1 hs2 hs3 hs4 hs5)
  have HCR : Hid (∀ W, Gr w1 W → Calls Tryz.prog 28 #[.pointer (some ⟨q, 0, none⟩), .pointer (some ⟨r, 0, none⟩), .int .i64 4, .int .i64 (x25.cf.tp : Nat), .int .i64 9] W fun e w' => e = .returned (.tuple #[.int .i64 8, .int .i64 0]) ∧ Touch (fun b => b = g ∨ SV b) W w' ∧ (∃ v, VmAt w' (plus SV W) q v ∧ v.pl.used = 1) ∧ RtAt w' r g [4]) := ⟨fun W hW =>
    (pk24_run HRN.out (HV.out.gr hW) (HRT.out.gr hW) HT.out (HG.out.trans hW) (fun i hi => by have := (HSV.out.1 i hi).1; have := HG1.out.size; omega) HSV.out.2.2.1 HSV.out.2.2.2.1 4 (x25.cf.tp : Nat) 9).mono (fun e w' h => live26_end HRN.out (by rw [show x25.cf.tp = 16 by decide +kernel] at h; exact h))⟩
  have HRK : Hid (∀ W W', Gr w1 W → Touch (fun b => b = g ∨ SV b) W W' → Rec W' hp 37 (heapL x25 q r (.slice A x25.n c))) := ⟨fun W W' hW t => (HRC.out.gr hW).touch t (fun h => by
    rcases h with h | h
    · exact own_ne HRT.out.row HRC.out (by decide) rfl rfl h.symm
    · exact HSV.out.2.1 h)⟩
  have HFG : Hid (∀ W', Touch (fun b => b = g ∨ SV b) w1.drew W' → Gr w W') := ⟨fun W' t => by
    have t1 : Touch (fun b => b = g ∨ SV b) w W' := ((HG.out.drew).touch _).trans t
    refine (t1.mono (T := fun _ => False) (fun i hi h => ?_)).gr
    have hz := HG1.out.size
    rcases h with h | h
    · have := HSV.out.2.2.2.2.2.2; omega
    · have := (HSV.out.1 i h).1; omega⟩
  unfold heapL at HRC HRK
  obtain ⟨cf, hcf⟩ : ∃ cf, cf = x25.cf := ⟨_, rfl⟩
  obtain ⟨pg, hpg⟩ : ∃ pg, pg = x25.page := ⟨_, rfl⟩
  obtain ⟨nn, hnn⟩ : ∃ nn, nn = x25.n := ⟨_, rfl⟩
  rw [← hcf, ← hpg, ← hnn] at HRC HRK
  rw [← hcf] at HCR
  clear hcf hpg hnn
  have z0 := HRC.out.cell (j := 0) rfl
  have z1 := HRC.out.cell (j := 1) rfl
  have z2 := HRC.out.cell (j := 2) rfl
  have z3 := HRC.out.cell (j := 3) rfl
  have z4 := HRC.out.cell (j := 4) rfl
  have z5 := HRC.out.cell (j := 5) rfl
  have z6 := HRC.out.cell (j := 6) rfl
  have z7 := HRC.out.cell (j := 7) rfl
  have z8 := HRC.out.cell (j := 8) rfl
  clear z0 z1 z2 z3 z4 z5 z6 z7 z8
  obtain ⟨Sx, hSx⟩ : ∃ Sx : World → Prop, Sx = fun W' => Rec W' hp 37 ([.pointer (some ⟨q, 0, none⟩), .pointer (some ⟨r, 0, none⟩), .int .i64 cf.fr, .int .i64 cf.tp, .int .i64 cf.to, .int .i64 cf.lm, .int .i64 cf.bk, .int .i64 cf.st, .int .i64 cf.ah, .slice A nn c, .int .i64 (pg : Nat)]) := ⟨_, rfl⟩
  have x0 : ∀ p : Held Sx, p.w.cell? ⟨hp, 0, none⟩ = some (.pointer (some ⟨q, 0, none⟩)) := fun p => by have h := Held.get hSx p; exact h.cell (j := 0) rfl
  have x1 : ∀ p : Held Sx, p.w.cell? ⟨hp, 1, none⟩ = some (.pointer (some ⟨r, 0, none⟩)) := fun p => by have h := Held.get hSx p; exact h.cell (j := 1) rfl
  have x3 : ∀ p : Held Sx, p.w.cell? ⟨hp, 3, none⟩ = some (.int .i64 cf.tp) := fun p => by have h := Held.get hSx p; exact h.cell (j := 3) rfl
  have HS : Hid (∀ W', Rec W' hp 37 ([.pointer (some ⟨q, 0, none⟩), .pointer (some ⟨r, 0, none⟩), .int .i64 cf.fr, .int .i64 cf.tp, .int .i64 cf.to, .int .i64 cf.lm, .int .i64 cf.bk, .int .i64 cf.st, .int .i64 cf.ah, .slice A nn c, .int .i64 (pg : Nat)]) → Sx W') := ⟨fun W' h => by rw [hSx]; exact h⟩
  have hS0 := HS.out _ (HRC.out.gr (Gr.refl w1).drew)
  have inst : Inhabited (Held Sx) := ⟨⟨_, hS0⟩⟩
  clear hSx
  refine wp_region_mixS Sx 19 [([0, 1, 2, 3, 4, 5, 6, 7, 8, 9, 10, 11, 12], 13)] [14, 15, 16, 17, 18] (by kernel_rfl) (by kernel_rfl) hS0 ?_
  refine segs_step ?_
  try simp only [opsAt, List.getElem?_cons_zero, List.getElem?_cons_succ]
  repeat (go_big_quiet_step (fail))
  refine wpQuiet_nil ?_
  go_wp2_with ((go_at_call 28; refine (HCR.out _ (Gr.refl _).drew).mono ?_; rintro e w2 ⟨rfl, ht2, hv2, hr2⟩; have HT2 := hid ht2; have HV2 := hid hv2; have HR2 := hid hr2; clear ht2 hv2 hr2))
  refine ⟨.inr (Held.of (HS.out _ (HRK.out _ _ (Gr.refl w1).drew HT2.out))), ?_⟩
  refine segs_end ?_
  try simp only [opsAt, List.getElem?_cons_zero, List.getElem?_cons_succ]
  repeat (go_big_quiet_step (fail))
  refine wpQuiet_nil ?_
  refine NoPanic.normal ?_
  clear x0 x1 x3 hS0 inst
  clear HS Sx
  have hb := HRK.out _ _ (Gr.refl w1).drew HT2.out
  have y0 := hb.cell (j := 0) rfl
  have y1 := hb.cell (j := 1) rfl
  obtain ⟨v2, hv2, hu2⟩ := HV2.out
  have HV3 := hid (vm_used hv2)
  have HGT := hid (rt_get HR2.out (i := 0) (by decide))
  have hbl := hb.lt
  have HV2' := hid hv2
  have HFW := hid (HFG.out _ HT2.out)
  clear hb hv2 HV3
  go_wp2_with (first
    | (go_at_call 65; refine HGT.out.mono ?_; rintro e w3 ⟨rfl, hg3⟩; have HG3 := hid hg3; have HV4 := hid (vm_used (HV2'.out.gr hg3)); rw [hu2] at HV4; have y0 := (hg3.cell hbl 0).trans y0; clear hg3 hu2)
    | (go_at_call 20; refine HV4.out.mono ?_; rintro e w4 ⟨rfl, rfl⟩))
  go_ret
  exact ⟨rfl, HFW.out.trans HG3.out⟩
/-! Of nobody. -/
end Go.Proofs.YtbmidhlilafgeaaGreatDoor
end
