/- Package mark: run. -/
import Derived.Test.YtlkifhoedfjlaaaGreatDoorMarkC
namespace Go.Proofs.YtlkifhoedfjlaaaGreatDoor
open Go.RowKit Word

theorem MkAt.cut {w : World} {SV G SW : Nat → Prop} {c : MkC} {v : Vm} {s : MkS} {r vi : Int} (h : MkAt w SV G SW c v s r vi) : MkAt w SV (cutS G w) SW c v s r vi := by
  have hs := h.sep
  have key : ∀ i, i < c.B ∧ ¬ c.T G i → i < c.B ∧ ¬ c.T (cutS G w) i := fun i hi => ⟨hi.1, fun ht => hi.2 (ht.imp id (fun h => h.imp id (fun h => h.1)))⟩
  exact ⟨h.vm, h.ext, h.stk.cut, h.wk, h.row, h.tab, ⟨fun i hi => key i (hs.sv' i hi), fun i hi => key i (hs.sw' i hi), key _ hs.tab', key _ hs.p1', key _ hs.p2', hs.k1, fun h => hs.k2 h.1, hs.kB, fun i hi h => hs.mg i hi h.1, hs.mB⟩, h.bB⟩
/-- The starts of some objects, from the j-th on. -/
def fromS (L : List Ob) (j : Nat) (a : Int) : Prop := ∃ o ∈ L.drop j, (o.1 : Int) = a
theorem fromS_zero {L : List Ob} {a : Int} (h : Hs L a) : fromS L 0 a := h
theorem fromS_succ {L : List Ob} {j : Nat} (h : j < L.length) {a : Int} (ha : fromS L j a) : fromS L (j + 1) a ∨ a = (L[j].1 : Int) := by
  obtain ⟨o, ho, rfl⟩ := ha
  rw [List.drop_eq_getElem_cons h] at ho
  rcases List.mem_cons.1 ho with rfl | ho
  · exact .inr rfl
  · exact .inl ⟨o, ho, rfl⟩
theorem fromS_end {L : List Ob} (a : Int) : ¬ fromS L L.length a := by
  rintro ⟨o, ho, -⟩
  rw [List.drop_length] at ho
  cases ho
theorem MarkInv.found {v : Vm} {rs : List Int} {n R : Nat} {X : Int → Prop} {s : MkS} (h : MarkInv v rs n R X s) : MarkInv v rs n R (fromS s.L 0) ⟨s.L, s.st, false⟩ := ⟨h.mkd, h.st, h.r, fun _ ha => .inr (.inr (.inr (fromS_zero ha)))⟩
section
variable {w : World} {SV G SW : Nat → Prop} {c : MkC} {v : Vm} {rs : List Int}
def s0 : MkS := ⟨[], [], false⟩
/-- Between two roots. -/
def RunI (v : Vm) (rs : List Int) (c : MkC) (j : Nat) (s : MkS) (r vi : Int) : Prop := MarkInv v rs c.n c.R (fun _ => False) s ∧ s.st = [] ∧ (∀ x ∈ rs.take j, x ≠ 0 → Hs s.L x) ∧ NilOk s r vi ∧ (s.lost = true → s.L ≠ [])
def RunP (v : Vm) (rs : List Int) (c : MkC) (s : MkS) (r vi : Int) : Prop := Marks v rs c.n s.L ∧ NilOk s r vi
set_option maxRecDepth 100000 in
set_option maxHeartbeats 6400000 in
theorem mk_run (h : MkAt w SV G SW c v s0 0 0) {A : Option Addr} {cp : Nat} (hA : IntsOff (c.T G) w A rs) (hlen : rs.length ≤ maxLen) :
    Calls Tryz.prog 31 #[.pointer (some ⟨c.k, 0, none⟩), .slice A rs.length cp] w (MkEnd w SV G SW c v (RunP v rs c) (¬ Sound v rs c.n)) := by
  have H := hid h
  have HA := hid hA
  have c6 := h.row.cell (j := 6) rfl
  have kf := h.row.free 6
  obtain ⟨N, hN⟩ : ∃ N, N = rs.length := ⟨_, rfl⟩
  rw [← hN] at hlen ⊢
  have HN := hid hN
  unfold maxLen at hlen
  clear h hA hN
  go_enter Tryz.func31, Tryz.ntmps31
  go_wp2
  have HM1 : Hid (MkAt (w.setCell ⟨c.k, 6, none⟩ (.int .i64 1)) SV (plus G w) SW c v s0 1 0) := ⟨(H.out.set (r' := 1) (vi' := 0) rfl).up H.out.bB⟩
  have HT1 : Hid (Touch (c.T G) w (w.setCell ⟨c.k, 6, none⟩ (.int .i64 1))) := ⟨touch_k 6 _⟩
  obtain ⟨w1, hw1⟩ : ∃ w1, w1 = w.setCell ⟨c.k, 6, none⟩ (.int .i64 1) := ⟨_, rfl⟩
  rw [← hw1] at HM1 HT1 ⊢
  clear c6 kf hw1
  go_loopw [14] (fun s14 wr => ∃ (j : Nat) (s : MkS) (r vi : Int), j ≤ N ∧ Hid (MkAt wr SV (plus G w) SW c v s r vi) ∧ Hid (Touch (c.T G) w wr) ∧ Hid (RunI v rs c j s r vi) ∧ s14 = .int .i64 j) (fun s14 _ => N - (intOf s14).toNat)
  case atStart => exact ⟨0, s0, 1, 0, Nat.zero_le _, HM1, HT1, ⟨⟨Mk.nil _ _ _, (fun _ h => by cases h), Nat.zero_le _, (fun a ha => absurd rfl (hs_ne ha))⟩, rfl, (fun x hx => by cases hx), (fun _ => ⟨rfl, rfl⟩), (fun h => by cases h)⟩, rfl⟩
  case round =>
    obtain ⟨j, s, r, vi, hj, HM, HT, HJ, rfl⟩ := hrel
    by_cases hlast : j = N
    · subst hlast
      have HJ2 : Hid (RunI v rs c rs.length s r vi) := ⟨by have := HJ.out; rwa [HN.out] at this⟩
      clear HJ hj
      go_wp2
      go_loopg [] (c.n + 1) (fun k wr => ∃ (s : MkS) (r vi : Int), Hid (MkAt wr SV (plus G w) SW c v s r vi) ∧ Hid (Touch (c.T G) w wr) ∧ Hid (RunI v rs c rs.length s r vi) ∧ Hid (s.lost = true → c.n + 1 ≤ s.L.length + k))
      case atStart => exact ⟨s, r, vi, HM, HT, HJ2, ⟨fun _ => by omega⟩⟩
      case round =>
        clear HM HT HJ2
        clear s r vi
        obtain ⟨wo, rfl⟩ : ∃ wo : World, wo = wr := ⟨_, rfl⟩
        obtain ⟨s, r, vi, HM, HT, HJ, HK⟩ := hrel
        have k2 := HM.out.row.cell (j := 2) rfl
        obtain ⟨L, st, lost⟩ := s
        have HLO := hid (stk_lost HM.out.stk)
        cases lost with
        | false =>
          go_wp2_with (go_at_call 61; refine HLO.out.mono ?_; rintro e w2 ⟨rfl, rfl⟩)
          refine bodyPost_end (results_none rfl _ _ _) rfl ?_
          obtain ⟨q1, q2, q3, q4, q5⟩ := HJ.out
          exact MkEnd.ok HT.out HM.out ⟨q1.marks (fun _ h => h) q2 rfl (fun x hx h0 => q3 x (by rw [List.take_length]; exact hx) h0), q4⟩
        | true =>
          have hst : st = [] := HJ.out.2.1
          subst hst
          have HMC := hid HM.out.cut
          obtain ⟨G1, hG1⟩ : ∃ G1, G1 = cutS (plus G w) wo := ⟨_, rfl⟩
          rw [← hG1] at HMC
          have HG1 : Hid (∀ i, G1 i → plus G w i ∧ i < wo.heap.size) := ⟨fun i hi => by rw [hG1] at hi; exact hi⟩
          have hne := HJ.out.2.2.2.2 rfl
          have hgd := HJ.out.1.mkd.good
          have hln : L.length ≤ 1048576 := Nat.le_trans hgd.len HM.out.ext.nb.2
          obtain ⟨LN, hLN⟩ : ∃ LN, LN = L.length := ⟨_, rfl⟩
          have HLN := hid hLN
          rw [← hLN] at hln
          clear hG1 hgd hLN
          go_wp2_with (first
            | (go_at_call 61; refine HLO.out.mono ?_; rintro e w2 ⟨rfl, rfl⟩)
            | (go_at_call 62; refine (stk_found HMC.out.stk).mono ?_; rintro e w2 ⟨rfl, ht2, hs2⟩; have HM2 := hid (MkAt.popped (L := L) (st := []) (lost := true) HMC.out ht2 hs2); have k6 := HM2.out.row.cell (j := 6) rfl; have k1 := HM2.out.row.cell (j := 1) rfl; have kf := HM2.out.row.free 6; have HT2 := hid ht2; clear ht2 hs2)
            | (go_at_call 63; have HMS := hid (fun x : Int => HM2.out.set (j := 6) (u := .int .i64 x) (r' := x) (vi' := vi) rfl); refine (mk_starts (HMS.out _).ext (HMS.out _).tab ((HMS.out _).row.cell (j := 1) rfl)).mono ?_; rintro e w3 ⟨vL, rfl, hg3, ho3⟩; have HM3 := hid ((HMS.out _).gr hg3); have HG3 := hid hg3; obtain ⟨A3, cc3, rfl, h31, h32⟩ := own_shape ho3; have HO3 := hid ho3; rw [← HLN.out] at HO3; rw [← HLN.out] at h31; clear hg3 ho3))
          have hz2 : wo.heap.size ≤ w2.heap.size := HT2.out.size
          have hz3 : w2.heap.size ≤ w3.heap.size := by simpa using HG3.out.size
          have hzw : w.heap.size ≤ wo.heap.size := HT.out.size
          have hBw : c.B ≤ w.heap.size := H.out.bB
          have HGN : Hid (∀ g, (Value.slice A3 LN cc3).ownBlock = some g → ¬ c.T (plus G1 w3) g) := ⟨fun g hg ht => by
            obtain ⟨a1, a2⟩ := own_lt HO3.out hg
            have a1 : w2.heap.size ≤ g := by simpa using a1
            rcases ht with h1 | h1 | h1 | h1
            · have := H.out.sep.kB; omega
            · have := H.out.sep.mB g h1; omega
            · have := (HG1.out g h1).2; omega
            · omega⟩
          have HS1 : Hid (MkSep c SV G1 SW) := ⟨HM3.out.sep⟩
          have HTT : Hid (Touch (c.T G1) wo w3) := ⟨((HT2.out.mono (fun i _ h => .inr (.inr h))).trans (touch_k 6 _)).trans (HG3.out.touch _)⟩
          clear k1 k2 k6 kf
          rw [← HLN.out]
          go_loopw [46] (fun s46 wy => ∃ (j : Nat) (s' : MkS) (r' vi' : Int), j ≤ LN ∧ Hid (MkAt wy SV (plus G1 w3) SW c v s' r' vi') ∧ Hid (Touch (c.T G1) w3 wy) ∧ Hid (wy.ownsRow 0 3 1 (.slice A3 LN cc3) LN (stsL L LN)) ∧ Hid (MarkInv v rs c.n c.R (fromS L j) s' ∧ Later ⟨L, [], false⟩ s' ∧ s'.st = []) ∧ s46 = .int .i64 j) (fun s46 _ => LN - (intOf s46).toNat)
          case atStart =>
            exact ⟨0, ⟨L, [], false⟩, _, vi, Nat.zero_le _, ⟨HM3.out.up (w := w3) HM3.out.bB⟩, ⟨Touch.refl _ _⟩, ⟨own_base HO3.out (Nat.zero_le _)⟩, ⟨HJ.out.1.found, Later.refl _, rfl⟩, rfl⟩
          case round =>
            obtain ⟨j, s', r', vi', hj, HMy, HTy, HOy, HJy, rfl⟩ := hrel
            by_cases hlast : j = LN
            · subst hlast
              go_wp2
              have hgk : 1 ≤ gk := by
                have := HK.out (by simp)
                have h2 := HJ.out.1.mkd.good.len
                have h2 : L.length ≤ c.n := h2
                have h3 : c.n + 1 ≤ L.length + gk := this
                omega
              go_roundg (gk - 1)
              case measure => omega
              case rel =>
                obtain ⟨q1, q2, q3⟩ := HJy.out
                have hla := q2.len
                have hla : L.length ≤ s'.L.length := hla
                have hT1 : Touch (c.T (plus G w)) wo wr := (HTT.out.trans HTy.out).mono (fun i _ h => h.imp id (fun h => h.imp id (fun h => (HG1.out i h).1)))
                have hL' : s'.L ≠ [] := fun e => by have h1 := hla; rw [e] at h1; exact hne (List.eq_nil_of_length_eq_zero (Nat.le_zero.1 h1))
                refine ⟨s', r', vi', ⟨HMy.out.sub (fun i h => h.elim (fun h => (HG1.out i h).1) (fun h => .inr (by omega))) (H.out.sep.plus H.out.bB)⟩, ⟨touch_plus HT.out hT1⟩, ⟨q1.weak (fun a h => absurd h (by rw [HLN.out]; exact fromS_end a)), q3, fun x hx h0 => q2.sub _ (HJ.out.2.2.1 x hx h0), fun h => absurd h hL', fun _ => hL'⟩, ⟨fun hl => ?_⟩⟩
                have h5 := HK.out (by simp)
                have h5 : c.n + 1 ≤ L.length + gk := h5
                rcases q2.los hl with h | h
                · cases h
                · have h : L.length < s'.L.length := h
                  omega
            · have hjn : j < L.length := by have := HLN.out; omega
              have hjl : (j : Int) < (LN : Int) := by omega
              obtain ⟨g, cc', ea, -, -, -, -⟩ := own_form HOy.out (by omega)
              simp only [Value.slice.injEq] at ea
              obtain ⟨rfl, -, rfl⟩ := ea
              obtain ⟨a, ha⟩ : ∃ a : Int, a = (L[j].1 : Nat) := ⟨_, rfl⟩
              have kc := own_cell HOy.out (j := j) (u := .int .i64 a) (by rw [ha]; unfold stsL zs; rw [HLN.out, List.take_length]; simp [hjn])
              have HHS : Hid (Hs L a ∧ a = (L[j].1 : Nat)) := ⟨⟨L[j], List.getElem_mem hjn, ha.symm⟩, ha⟩
              have HJL := hid (And.intro hj (And.intro hlast hjn))
              have HBK : Hid (∀ (W : World) (t : MkS) (x y : Int), MkAt W SV (plus G1 w3) SW c v t x y → Touch (c.T G1) w3 W → MkAt W SV (plus G w) SW c v t x y ∧ Touch (c.T G) w W) := ⟨fun W t x y hm ht => ⟨hm.sub (fun i h => h.elim (fun h => (HG1.out i h).1) (fun h => .inr (by omega))) (H.out.sep.plus H.out.bB), touch_plus HT.out ((HTT.out.trans ht).mono (fun i _ h => h.imp id (fun h => h.imp id (fun h => (HG1.out i h).1))))⟩⟩
              clear hj hlast ha
              go_wp2_with (first
                | (go_at_call 64; refine (mk_visit HMy.out HJy.out.1 (HJy.out.2.1.sub a HHS.out.1)).mono ?_; rintro e w4 ⟨ht4, (⟨rfl, s4, r4, vi4, hm4, hp4⟩ | ⟨rfl, hp4, s4, r4, vi4, hm4⟩)⟩ <;> (have HO4 := hid (own_touch HOy.out ht4 HGN.out); have HT4 := hid (touch_plus HTy.out ht4); have HM4 := hid (hm4.back HTy.out.size HS1.out HM3.out.bB); have HP4 := hid hp4; clear ht4 hm4 hp4))
                | (go_at_call 60; refine (mk_drain HM4.out (HP4.out.1.done HP4.out.2.2.1 (Y := fromS L (j + 1)) (fun x hx => by rw [HHS.out.2]; exact fromS_succ HJL.out.2.2 hx))).mono ?_; rintro e w5 ⟨ht5, (⟨rfl, s5, r5, vi5, hm5, hp5⟩ | ⟨rfl, hp5, s5, r5, vi5, hm5⟩)⟩ <;> (have HO5 := hid (own_touch HO4.out ht5 HGN.out); have HT5 := hid (touch_plus HT4.out ht5); have HM5 := hid (hm5.back HT4.out.size HS1.out HM3.out.bB); have HP5 := hid hp5; clear ht5 hm5 hp5)))
              · go_round
                case rel =>
                  obtain ⟨p1, p2, p3, p4⟩ := HP4.out
                  obtain ⟨t1, t2, t3, t4⟩ := HP5.out
                  refine ⟨j + 1, s5, r5, vi5, by have := HJL.out; omega, HM5, HT5, HO5, ⟨t1, (HJy.out.2.1.trans p2).trans t2, t3⟩, by go_num⟩
                case measure => have := HJL.out; simp [intOf]; omega
              · exact ⟨rfl, MkEnd.no (HBK.out _ _ _ _ HM5.out HT5.out).2 (HBK.out _ _ _ _ HM5.out HT5.out).1 HP5.out⟩
              · exact ⟨rfl, MkEnd.no (HBK.out _ _ _ _ HM4.out HT4.out).2 (HBK.out _ _ _ _ HM4.out HT4.out).1 HP4.out⟩
    · have hjl : (j : Int) < (N : Int) := by omega
      have hjn : j < rs.length := by have := HN.out; omega
      obtain ⟨b, o, rfl, hb, hbT, e0⟩ := HA.out j hjn
      have i0 := (HT.out.cell hb hbT (o + j)).trans e0
      obtain ⟨a, ha⟩ : ∃ a, a = rs[j] := ⟨_, rfl⟩
      rw [← ha] at i0 e0
      have HRA : Hid (a ≠ 0 → Rch v rs a) := ⟨fun h0 => Rch.root (by rw [ha]; exact List.getElem_mem hjn) h0⟩
      have HTK : Hid (∀ x, x ∈ rs.take (j + 1) → x ∈ rs.take j ∨ x = a) := ⟨fun x hx => by
        rw [List.take_succ_eq_append_getElem hjn] at hx
        exact (List.mem_append.1 hx).imp id (fun h => by rw [ha]; exact List.mem_singleton.1 h)⟩
      have HJL := hid (And.intro hj hlast)
      clear hj hlast hjn ha e0 hbT
      go_wp2_with (first
        | (go_at_call 59; refine (mk_reach HM.out HJ.out.1 HRA.out).mono ?_; rintro e w4 ⟨ht4, (⟨rfl, s4, r4, vi4, hm4, hp4⟩ | ⟨rfl, hp4, s4, r4, vi4, hm4⟩)⟩ <;> (have HT4 := hid (touch_plus HT.out ht4); have HM4 := hid (hm4.back HT.out.size H.out.sep H.out.bB); have HP4 := hid hp4; clear ht4 hm4 hp4))
        | (go_at_call 60; refine (mk_drain HM4.out HP4.out.1).mono ?_; rintro e w5 ⟨ht5, (⟨rfl, s5, r5, vi5, hm5, hp5⟩ | ⟨rfl, hp5, s5, r5, vi5, hm5⟩)⟩ <;> (have HT5 := hid (touch_plus HT4.out ht5); have HM5 := hid (hm5.back HT4.out.size H.out.sep H.out.bB); have HP5 := hid hp5; clear ht5 hm5 hp5)))
      · go_round
        case rel =>
          obtain ⟨q1, q2, q3, q4, q5⟩ := HJ.out
          obtain ⟨p1, p2, p3, rfl, rfl⟩ := HP4.out
          obtain ⟨t1, t2, t3, t4⟩ := HP5.out
          have hla := p2.trans t2
          refine ⟨j + 1, s5, r5, vi5, by have := HJL.out; omega, HM5, HT5, ⟨t1, t3, fun x hx h0 => ?_, t4 (fun h => q4 ?_), fun hl => ?_⟩, by go_num⟩
          · rcases HTK.out x hx with h | rfl
            · exact hla.sub _ (q3 x h h0)
            · exact t2.sub _ (p3 h0)
          · have := p2.len
            rw [h] at this
            exact List.eq_nil_of_length_eq_zero (by simpa using this)
          · have h5 := hla.len
            rcases hla.los hl with h | h
            · exact fun e => q5 h (List.eq_nil_of_length_eq_zero (by rw [e] at h5; simpa using h5))
            · intro e; rw [e] at h; simp at h
        case measure => have := HJL.out; simp [intOf]; omega
      · exact ⟨rfl, MkEnd.no HT5.out HM5.out HP5.out⟩
      · exact ⟨rfl, MkEnd.no HT4.out HM4.out HP4.out⟩
end
end Go.Proofs.YtlkifhoedfjlaaaGreatDoor
