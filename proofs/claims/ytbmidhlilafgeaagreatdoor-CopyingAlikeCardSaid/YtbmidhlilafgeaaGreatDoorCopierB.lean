/- Package copying: turn. -/
import Derived.Test.YtbmidhlilafgeaaGreatDoorCopier
namespace Go.Proofs.YtbmidhlilafgeaaGreatDoor
open Go.RowKit Word

structure TurnI (w wr : World) (S Si : Nat → Prop) (K M q hb : Nat) (v : Vm) (rs : List Int) (L : List Ob) (to : Nat) (O : List Int) (k : Nat) (ob : Int) (p f c i : Nat) (Oi : List Int) (vi : Vm) : Prop where
  cat : CpyAt wr Si K M q v to Oi vi
  st : CpS v rs L to Oi k i vi
  oi : Oi = addsC O ((ptsC v ob).take i)
  sub : ∀ b, Si b → plus S w b
  rh : Rec wr hb 90 [.int .i64 p, .int .i64 f, .int .i64 c]
  nh : ¬ Si hb
  lh : w.heap.size ≤ hb
  t : Touch (fun b => (b = K ∨ b = M) ∨ S b) w wr
def CpyTurn (w : World) (S : Nat → Prop) (K M q : Nat) (v : Vm) (rs : List Int) (L : List Ob) (to : Nat) (O : List Int) (k : Nat) (e : Ending) (w' : World) : Prop :=
  ∃ v'', e = .returned (.int .i64 ((to : Int) + sumC v (O.take (k + 1)))) ∧ Touch (fun b => (b = K ∨ b = M) ∨ S b) w w' ∧ CpyAt w' (plus S w) K M q v to (addsC O (ptsC v (O.getD k 0))) v'' ∧ CpS v rs L to (addsC O (ptsC v (O.getD k 0))) (k + 1) 0 v''
theorem take_snoc {l : List Int} {i : Nat} (h : i < l.length) : l.take (i + 1) = l.take i ++ [l[i]] := by rw [List.take_add_one, List.getElem?_eq_getElem h]; rfl
section
variable {w : World} {S : Nat → Prop} {K M q : Nat} {v v' : Vm} {rs : List Int} {L : List Ob} {to : Nat} {O : List Int} {k i : Nat}
theorem addC_at {l : List Int} {j : Nat} (hj : j < l.length) (a : Int) : ∃ h : j < (addC l a).length, (addC l a)[j] = l[j] ∧ (addC l a).take j = l.take j := by
  obtain ⟨Y, hY⟩ := addC_ext l a
  refine ⟨by rw [hY, List.length_append]; omega, ?_, by rw [hY, List.take_append_of_le_length (Nat.le_of_lt hj)]⟩
  simp only [hY, List.getElem_append_left hj]
/-- A pointer's place in a copied object. -/
theorem CpS.field (c : CopyCtx v rs L to) (hs : CpS v rs L to O k i v') {l : List Int} {j : Nat} (hj : j < l.length) {b : Int} (hO : O = addC l b) {a t : Int} (ha : l[j] = a) (ht : t = to + sumC v (l.take j)) {m : Nat} (hm : (m : Int) < (v.rdH a).p) :
    v'.plE t m 1 = 0 ∧ v'.ldE (t + 1 + m) = 0 := by
  obtain ⟨h1, h2, h3⟩ := addC_at hj b
  subst hO
  have := (Cpd.copy c hs.nd hs.rch hs.cp h1 (t := t) (by rw [h3]; exact ht)).2.2.2 m
  rw [h2, ha] at this
  exact this hm
set_option maxRecDepth 100000 in
set_option maxHeartbeats 3200000 in
theorem cpy_turn (hC : CpyAt w S K M q v to O v') (c : CopyCtx v rs L to) (hf : FullOb v L) (hs : CpS v rs L to O k 0 v') (hk : k < O.length) :
    Calls Tryz.prog 70 #[.pointer (some ⟨K, 0, none⟩), .int .i64 ((to : Int) + sumC v (O.take k))] w (CpyTurn w S K M q v rs L to O k) := by
  obtain ⟨ob, hob⟩ : ∃ ob, ob = O.getD k 0 := ⟨_, rfl⟩
  have hobk : O[k] = ob := by rw [hob, List.getD_eq_getElem?_getD, List.getElem?_eq_getElem hk]; rfl
  obtain ⟨t, ht⟩ : ∃ t : Nat, (t : Int) = to + sumC v (O.take k) := ⟨((to : Int) + sumC v (O.take k)).toNat, by have := sumC_nonneg v (O.take k); omega⟩
  have hr := hs.rch _ (List.getElem_mem hk)
  rw [hobk] at hr
  have hrd := c.mks.sound.rd _ hr
  obtain ⟨-, -, p, f, cc, hh, hsz⟩ := rdE_zero hrd
  have hosz : v.osz ob = ((1 + p + f + cc : Nat) : Int) := by unfold Vm.osz; rw [hh, show hdrN ⟨p, f, cc⟩ = 1 + (p : Int) + f + cc from if_pos (hdrE_of hsz)]; push_cast; rfl
  have hcp0 := Cpd.copy c hs.nd hs.rch hs.cp hk ht
  rw [hobk] at hcp0
  have HRD := hid (fun (W : World) (g : Gr w W) => obj_read (hC.vm.gr g) (t : Int))
  rw [hcp0.1, hcp0.2.1, hh] at HRD
  have HSZ := hid (fun W => hdr_size ⟨p, f, cc⟩ W)
  rw [show hdrN ⟨p, f, cc⟩ = 1 + (p : Int) + f + cc from if_pos (hdrE_of hsz)] at HSZ
  have hplen : (ptsC v ob).length = p := by rw [ptsC_len, hh]; rfl
  have htot : (to : Int) + sumC v (O.take (k + 1)) = (t : Int) + (1 + p + f + cc) := by
    rw [sumC_take v hk, hobk, hosz, ht]; push_cast; omega
  have hlast : (t : Int) + (1 + p + f + cc) ≤ v.n := by
    have h1 := c.sum hs.nd hs.rch
    have h2 := sumC_take_all v O (k + 1)
    have := c.top
    omega
  have hn2 := c.ok.n2
  have c0 := hC.rc.cell (j := 0) rfl
  have HC := hid hC
  have HS := hid hs
  have HCX := hid (And.intro c hf)
  have HOB := hid (And.intro hob (And.intro (show ∀ h : k < O.length, O[k] = ob from fun _ => hobk) (And.intro hr (And.intro hh (And.intro hsz hplen)))))
  have HK := hid hk
  have HT := hid ht
  have HTOT := hid htot
  have hKl := hC.lt
  rw [← ht]
  have hplast : p ≤ 255 := by omega
  unfold hdrV at HRD HSZ
  unfold spV at HRD
  clear hC hs c hf hob hobk hr hrd hh hosz hcp0 hplen htot ht hk
  go_enter Tryz.func70, Tryz.ntmps70
  go_upto_region 2 with (first
    | (go_at_call 108; refine (HRD.out _ (Gr.refl w)).mono ?_; rintro e w1 ⟨rfl, hg1⟩; have HG1 := hid hg1; have HH1 := hid (Rec.new w1 90 [.int .i64 p, .int .i64 f, .int .i64 cc]); clear hg1))
  have e0 := HH1.out.cell (j := 0) rfl
  have el := HH1.out.lt
  have hz1 := HG1.out.size
  have HI0 : Hid (TurnI w (w1.alloc (.cells #[.int .i64 p, .int .i64 f, .int .i64 cc] 90)) S (cutS S w) K M q w1.heap.size v rs L to O k ob p f cc 0 O v') := ⟨
    ⟨⟨(HC.out.gr (HG1.out.alloc _)).rc, (HC.out.gr (HG1.out.alloc _)).mp, (HC.out.vm.cut.gr (HG1.out.alloc _)), fun h => HC.out.nK h.1, fun h => HC.out.nM h.1⟩, HS.out, by simp [addsC], fun b hb => .inl hb.1, HH1.out, fun h => by have := h.2; omega, hz1, (HG1.out.alloc _).touch _⟩⟩
  obtain ⟨hb, hhb⟩ : ∃ hb, hb = w1.heap.size := ⟨_, rfl⟩
  rw [← hhb] at e0 el HI0 ⊢
  clear hhb
  go_wp2
  go_loopw [22] (fun s22 wr => ∃ (i : Nat) (Oi : List Int) (vi : Vm) (Si : Nat → Prop), i ≤ p ∧ Hid (TurnI w wr S Si K M q hb v rs L to O k ob p f cc i Oi vi) ∧ s22 = .int .i64 i) (fun s22 _ => p - (intOf s22).toNat)
  case atStart => exact ⟨0, O, v', _, by omega, HI0, rfl⟩
  case round =>
    obtain ⟨i, Oi, vi, Si, hi, HI, rfl⟩ := hrel
    clear e0 el HI0 c0
    obtain ⟨X, hX⟩ := addsC_ext O ((ptsC v ob).take i)
    rw [← HI.out.oi] at hX
    have hkl : k < Oi.length := by rw [hX, List.length_append]; have := HK.out; omega
    have hOk : Oi[k] = ob := by
      have := HOB.out.2.1 HK.out
      simp only [hX, List.getElem_append_left HK.out]
      exact this
    have htk : (t : Int) = to + sumC v (Oi.take k) := by rw [HT.out, hX, List.take_append_of_le_length (Nat.le_of_lt HK.out)]
    by_cases hlast : i = p
    · subst hlast
      have x0 := HI.out.rh.cell (j := 0) rfl
      have x1 := HI.out.rh.cell (j := 1) rfl
      have x2 := HI.out.rh.cell (j := 2) rfl
      have hnx := Cpd.next HI.out.st.cp HI.out.st.kn hkl (by rw [hOk, HOB.out.2.2.2.1])
      have hoi : Oi = addsC O (ptsC v (O.getD k 0)) := by rw [← HOB.out.1, HI.out.oi, List.take_of_length_le (by rw [HOB.out.2.2.2.2.2]; exact Nat.le_refl _)]
      have HNX := hid hnx
      have HOI := hid hoi
      have HKL := hid hkl
      clear hnx hoi hX hkl hOk htk
      go_wp2_with (go_at_call 55; refine (HSZ.out _).mono ?_; rintro e w3 ⟨rfl, hg3⟩; have HG3 := hid hg3; clear hg3)
      go_ret
      have hc := HI.out.cat.gr HG3.out
      refine ⟨vi, ?_, HI.out.t.trans (HG3.out.touch _), ?_, ?_⟩
      · rw [HTOT.out]; rfl
      · rw [← HOI.out]
        exact ⟨hc.rc, hc.mp, hc.vm.mono HI.out.sub, fun h => h.elim HC.out.nK (fun h => by have := hKl.1; omega), fun h => h.elim HC.out.nM (fun h => by have := hKl.2; omega)⟩
      · rw [← HOI.out]
        exact ⟨HI.out.st.nd, HI.out.st.rch, HNX.out.1, HNX.out.2, by have := HKL.out; omega⟩
    · have hcp := Cpd.copy HCX.out.1 HI.out.st.nd HI.out.st.rch HI.out.st.cp hkl htk
      rw [hOk] at hcp
      have hip : (i : Int) < (v.rdH ob).p := by rw [HOB.out.2.2.2.1]; show (i : Int) < (p : Int); omega
      obtain ⟨pp1, pp2⟩ := hcp.2.2.1 rfl i (Nat.le_refl _) hip
      have hpt := HCX.out.1.mks.sound.pt _ HOB.out.2.2.1 i hip
      have hpv := ptV_of hpt
      have HPT := hid (fun (W : World) (g : Gr wr W) => obj_pointer (HI.out.cat.vm.gr g) (t : Int) i)
      rw [pp1, pp2] at HPT
      have hpi : i < (ptsC v ob).length := by rw [HOB.out.2.2.2.2.2]; omega
      have hpa := ptsC_at v ob hpi
      have hsn := take_snoc hpi
      rw [hpa] at hsn
      have hpr : v.ldV (ob + 1 + i) = 0 ∨ Rch v rs (v.ldV (ob + 1 + i) : Nat) := by
        by_cases h0 : v.ldV (ob + 1 + i) = 0
        · exact .inl h0
        · right
          have hh := HOB.out.2.2.1
          exact hh.step ⟨HCX.out.1.mks.sound.rd _ hh, i, hip, hpt, by rw [hpv.1]; exact h0, by rw [hpv.1]⟩
      have hle := hpv.2.1
      obtain ⟨pv, hpve⟩ : ∃ pv, pv = v.ldV (ob + 1 + i) := ⟨_, rfl⟩
      rw [← hpve] at HPT hsn hpr hle
      have hnd' := addC_nodup HI.out.st.nd (pv : Int)
      have hrch' : ∀ b ∈ addC Oi (pv : Int), Rch v rs b := fun b hb => by
        rcases mem_addC.1 hb with h | ⟨rfl, h0⟩
        · exact HI.out.st.rch b h
        · exact hpr.resolve_left (by omega)
      obtain ⟨xN, hxN, hx2⟩ : ∃ xN : Nat, (xN : Int) = wentC v (addC Oi (pv : Int)) to pv ∧ xN ≤ 2147483647 := by
        by_cases h0 : pv = 0
        · refine ⟨0, ?_, by omega⟩
          rw [h0, wentC_none v _ (fun h => by have := (osz_pos (HCX.out.1.mks.sound.rd _ (hrch' _ (by rw [h0]; exact h)))).1; omega)]; rfl
        · have h1 := wentC_in v (to : Int) (mem_addC (O := Oi).2 (.inr ⟨rfl, (by omega : (pv : Int) ≠ 0)⟩))
          have h2 := HCX.out.1.sum hnd' hrch'
          have h3 := HCX.out.1.top
          have h4 := osz_nonneg v (pv : Int)
          exact ⟨(wentC v (addC Oi (pv : Int)) to pv).toNat, by omega, by omega⟩
      have HTK := hid (fun (W : World) (g : Gr wr W) => cpy_take (HI.out.cat.gr g) HCX.out.1 HCX.out.2 HI.out.st hpr hle)
      unfold CpyEnd at HTK
      rw [← hxN] at HTK
      have HPVE := hid hpve
      have HXN := hid (And.intro hxN hx2)
      have HSN := hid hsn
      have HKL := hid (And.intro hkl (And.intro htk (And.intro hX (show ∀ h : k < Oi.length, Oi[k] = ob from fun _ => hOk))))
      have HIP := hid hip
      have y0 := HI.out.cat.rc.cell (j := 0) rfl
      have yl := HI.out.cat.rc.lt
      have x0 := HI.out.rh.cell (j := 0) rfl
      have HLAST := hid hlast
      have hiI : (i : Int) < (p : Int) := by omega
      have x0l := HI.out.rh.lt
      unfold spV at HPT
      clear hcp hip pp1 pp2 hpt hpv hpi hpa hsn hpr hle hpve hnd' hrch' hxN hx2 hkl htk hX hOk hlast
      go_upto_region 6 with (go_at_call 134; refine (HPT.out _ (Gr.refl _)).mono ?_; rintro e w2 ⟨rfl, hg2⟩; have HG2 := hid hg2; have y0' := (hg2.cell yl 0).trans y0; clear hg2)
      have KS : Hid (∀ W', Gr w2 W' → W'.cell? ⟨K, 0, none⟩ = some (.pointer (some ⟨q, 0, none⟩))) := ⟨fun W' h => (h.cell (Nat.lt_of_lt_of_le yl HG2.out.size) 0).trans y0'⟩
      obtain ⟨Sx, hSx⟩ : ∃ Sx : World → Prop, Sx = fun W' => W'.cell? ⟨K, 0, none⟩ = some (.pointer (some ⟨q, 0, none⟩)) := ⟨_, rfl⟩
      have z1 : ∀ p' : Held Sx, p'.w.cell? ⟨K, 0, none⟩ = some (.pointer (some ⟨q, 0, none⟩)) := fun p => Held.get hSx p
      have hS0 : Sx w2.drew := by rw [hSx]; exact y0'
      have HSX := hid hSx
      have inst : Inhabited (Held Sx) := ⟨⟨_, hS0⟩⟩
      clear hSx y0 y0' x0 x0l
      refine wp_region_mixS Sx 10 [([0, 1, 2, 3, 4, 5, 6, 7, 8], 9), ([], 10)] [] (by kernel_rfl) (by kernel_rfl) hS0 ?_
      refine segs_step ?_
      simp only [opsAt, List.getElem?_cons_zero, List.getElem?_cons_succ]
      repeat (go_big_quiet_step (fail))
      refine wpQuiet_nil ?_
      go_wp2_with (go_at_call 69; refine (HTK.out _ HG2.out.drew).mono ?_; rintro e w3 ⟨v2, rfl, ht3, hc3, hs3⟩; have HT3 := hid ht3; have HC3 := hid hc3; have HS3 := hid hs3; have HP3 := hid (CpS.field HCX.out.1 hs3 HKL.out.1 rfl (HKL.out.2.2.2 HKL.out.1) HKL.out.2.1 HIP.out); have u0 := hc3.rc.cell (j := 0) rfl; clear ht3 hc3 hs3)
      refine ⟨.inr (Held.of (by rw [HSX.out]; exact u0)), ?_⟩
      refine segs_step ?_
      simp only [opsAt, List.getElem?_cons_zero, List.getElem?_cons_succ]
      refine wpQuiet_nil ?_
      go_wp2_with (go_at_call 135; have hsp := obj_setp HC3.out.vm HP3.out.1 HXN.out.2; unfold spV at hsp; refine hsp.mono ?_; rintro e w4 ⟨rfl, ht4, hv4⟩; have HT4 := hid ht4; have HV4 := hid hv4; clear ht4 hv4)
      refine ⟨.inl trivial, ?_⟩
      refine segs_end ?_
      refine wpQuiet_nil ?_
      refine NoPanic.normal ?_
      clear z1 hS0 inst u0
      go_wp2
      have hzr := HI.out.t.size
      have hz2 := HG2.out.size
      have hz3 := HT3.out.size
      have hz4 := HT4.out.size
      have hzd : w2.drew.heap.size = w2.heap.size := rfl
      have hbl := HI.out.rh.lt
      have hKr := HI.out.cat.lt
      go_round
      case rel =>
        have hst := Cpd.set HCX.out.1 HS3.out.nd HS3.out.rch HS3.out.cp HS3.out.kn (addC_at HKL.out.1 (pv : Int)).1 (t := (t : Int)) (by rw [(addC_at HKL.out.1 (pv : Int)).2.2]; exact HKL.out.2.1) (by rw [(addC_at HKL.out.1 (pv : Int)).2.1, HKL.out.2.2.2 HKL.out.1]; exact HIP.out)
          (by rw [(addC_at HKL.out.1 (pv : Int)).2.1, HKL.out.2.2.2 HKL.out.1, ← HPVE.out]; by_cases h0 : (pv : Int) = 0; (· exact .inl h0); (· exact .inr (mem_addC.2 (.inr ⟨rfl, h0⟩)))) (x := xN) (by rw [(addC_at HKL.out.1 (pv : Int)).2.1, HKL.out.2.2.2 HKL.out.1, ← HPVE.out]; exact HXN.out.1) (by have := HXN.out.2; omega)
        refine ⟨i + 1, addC Oi (pv : Int), v2.st ((t : Int) + 1 + i) xN, plus (plus Si w2.drew) w3, by have := HLAST.out; omega, ⟨⟨⟨?_, ?_, HV4.out, ?_, ?_⟩, ⟨HS3.out.nd, HS3.out.rch, hst.1, hst.2, .inl (addC_at HKL.out.1 (pv : Int)).1⟩, ?_, ?_, ?_, ?_, HI.out.lh, ?_⟩⟩, by go_num⟩
        · exact HC3.out.rc.touch HT4.out HC3.out.nK
        · exact HC3.out.mp.touch HT4.out HC3.out.nM
        · exact fun h => h.elim HC3.out.nK (fun h => by have := HC3.out.lt.1; omega)
        · exact fun h => h.elim HC3.out.nM (fun h => by have := HC3.out.lt.2; omega)
        · rw [HSN.out, addsC_snoc, ← HI.out.oi]
        · intro b hb
          rcases hb with (h | h) | h
          · exact HI.out.sub b h
          · right; omega
          · right; omega
        · refine (((HI.out.rh.gr HG2.out.drew).touch HT3.out (fun h => ?_))).touch HT4.out (fun h => ?_)
          · have := HI.out.lh
            rcases h with (h | h) | h
            · omega
            · omega
            · exact HI.out.nh h
          · rcases h with h | h
            · exact HI.out.nh h
            · omega
        · intro h
          rcases h with (h | h) | h
          · exact HI.out.nh h
          · omega
          · omega
        · have t2 := HI.out.t.trans (HG2.out.drew.touch _)
          have t3 := t2.trans' HT3.out (fun b hb h => by
            rcases h with h | h
            · exact .inl h
            · exact (HI.out.sub b h).elim .inr (fun h => by omega))
          refine t3.trans' HT4.out (fun b hb h => ?_)
          rcases h with h | h
          · exact (HI.out.sub b h).elim .inr (fun h => by omega)
          · omega
      case measure => simp [intOf]; omega
end
end Go.Proofs.YtbmidhlilafgeaaGreatDoor
