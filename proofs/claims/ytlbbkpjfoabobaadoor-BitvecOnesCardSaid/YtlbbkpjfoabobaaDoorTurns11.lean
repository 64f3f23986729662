/- BitvecOnes: the walk. -/
import Derived.Test.YtlbbkpjfoabobaaDoorPlays11
import Derived.Test.YtlbbkpjfoabobaaDoorOnes
import Derived.Deep.OwnRows
import Derived.Stop.RegionWithIn
import Derived.Sort.CutIn
namespace Go.Proofs.YtlbbkpjfoabobaaDoor
open Go.RowKit Go.Shelf Word
attribute [local go_sem] Oper.semAt_some

theorem bools_made (w : World) (N : Nat) (hN : N ≤ 1048576) (t : TypeId) : Bools (w.alloc (.cells (madeCells #[.bool false] N) t)) w.heap.size (List.replicate N false) := by
  refine ⟨by simp, by simpa using hN, fun i hi => ?_, fun i => ?_⟩
  · rw [List.length_replicate] at hi
    have h1 : (w.alloc (.cells (madeCells #[.bool false] N) t)).cell? ⟨w.heap.size, i, none⟩ = (madeCells #[.bool false] N)[i]? := World.cell?_alloc_new ..
    rw [h1, ← Array.getElem?_toList, made_bools]
    simp [at_, hi, List.getD_eq_getElem?_getD]
  · unfold World.frozen?
    rw [show (w.alloc (.cells (madeCells #[.bool false] N) t)).heap[(⟨w.heap.size, i, none⟩ : Addr).block]? = some (.cells (madeCells #[.bool false] N) t) from World.alloc_heap_new w _]
    simp

/-- Between two turns. -/
def OnI (W0 : World) (S : Nat → Prop) (p b g c13 c14 N : Nat) (st : List Bool × Nat) (W : World) : Prop :=
  Touch S W0 W ∧ Vec W p b st.1 ∧ st.1.length = N ∧ Bools W g st.1 ∧ st.2 ≤ N ∧ (∃ last : Int, last + 1 = st.2 ∧ W.cell? ⟨c13, 0, none⟩ = some (.int .i64 last)) ∧ W.frozen? ⟨c13, 0, none⟩ = false ∧
    (∃ k : Nat, k ≤ st.2 ∧ W.cell? ⟨c14, 0, none⟩ = some (.int .i64 k)) ∧ W.frozen? ⟨c14, 0, none⟩ = false
/-- Left by a return of true. -/
def OnX (W0 : World) (S : Nat → Prop) (cR : Nat) (c : Code) (W : World) : Prop := c = .ret ∧ Touch (fun i => S i ∨ i = cR) W0 W ∧ W.cell? ⟨cR, 0, none⟩ = some (.bool true)
theorem OnI.stays {W0 A B : World} {S : Nat → Prop} {p b g c13 c14 N : Nat} {st : List Bool × Nat} (h : OnI W0 S p b g c13 c14 N st A) (t : Touch (fun k => W0.heap.size ≤ k) A B)
    (hp : p < W0.heap.size ∧ b < W0.heap.size ∧ g < W0.heap.size ∧ c13 < W0.heap.size ∧ c14 < W0.heap.size) : OnI W0 S p b g c13 c14 N st B := by
  obtain ⟨h1, h2, h3, h4, h5, ⟨last, h6, h7⟩, h8, ⟨k, h9, h10⟩, h11⟩ := h
  have hs := h1.size
  refine ⟨h1.trans' t (fun i hi hge => absurd hge (by omega)), h2.touch t (by omega) (by omega), h3, h4.touch t (by omega), h5, ⟨last, h6, ?_⟩, ?_, ⟨k, h9, ?_⟩, ?_⟩
  · rw [t.cell (b := c13) (by omega) (by omega)]; exact h7
  · rw [t.frozen (b := c13) (by omega) (by omega)]; exact h8
  · rw [t.cell (b := c14) (by omega) (by omega)]; exact h10
  · rw [t.frozen (b := c14) (by omega) (by omega)]; exact h11
theorem OnX.stays {W0 A B : World} {S : Nat → Prop} {cR : Nat} {c : Code} (h : OnX W0 S cR c A) (t : Touch (fun k => W0.heap.size ≤ k) A B) (hp : cR < W0.heap.size) : OnX W0 S cR c B := by
  obtain ⟨h1, h2, h3⟩ := h
  have hs := h2.size
  refine ⟨h1, h2.trans' t (fun i hi hge => absurd hge (by omega)), ?_⟩
  rw [t.cell (b := cR) (by omega) (by omega)]; exact h3

set_option maxRecDepth 100000 in
set_option maxHeartbeats 12800000 in
theorem turns_in {W : World} (hT : TabAt W) (n : Nat) (hn : n ≤ 255) (A : Option Addr) (cap : Nat) (l : List ActD) (hA : ActsAt W A l) (h100 : l.length ≤ 100)
    (A' : Option Addr) (cap' : Nat) (l' : List ActD) (hA' : ActsAt W A' l') (h100' : l'.length ≤ 100) (stop : Nat) (hstop : stop ≤ 255) :
    Gets Tryd.prog 4 #[.int .u8 n, .slice A l.length cap, .agg #[.slice A' l'.length cap', .int .u8 stop]] W (.bool true) := by
  obtain ⟨i0, hi, hz0, hz1, hz2⟩ := info_parts infoBool
  have hmk : ∀ w : World, (Instr.makeSlice 41 (.int .i64 ((n : Int) + 1)) (.int .i64 ((n : Int) + 1))).run Tryd.prog w = .ok (.slice (some ⟨w.heap.size, 0, none⟩) (n + 1) (n + 1)) (w.alloc (.cells (madeCells #[.bool false] (n + 1)) 4)) := fun w =>
    run_make_row (P := Tryd.prog) 41 4 i0 (.bool false) Tryd.underlying41 hi hz0 hz1 rfl .i64 .i64 (n + 1) (by rw [hz2]; omega) (by omega) w
  have HBM := hid (fun w : World => bools_made w (n + 1) (by omega) 4)
  obtain ⟨mk, hmk0⟩ : ∃ mk, mk = madeCells #[.bool false] (n + 1) := ⟨_, rfl⟩
  rw [← hmk0] at hmk HBM
  have HT := hid hT
  have HN := hid hn
  have HS := hid hstop
  have hn' : (n : Int) ≤ 255 := by omega
  have HA := hid hA
  have HA' := hid hA'
  have d1 : decide ((100 : Int) < (l.length : Int)) = false := by simp; omega
  have d2 : decide ((100 : Int) < (l'.length : Int)) = false := by simp; omega
  clear hT hA hA' hn hstop hmk0 hi hz0 hz1 hz2
  unfold Gets
  refine (callsIn_wide (n := 5)).1 ?_
  refine callsIn_of_wp_marks Tryd.func4 rfl trivial ?_ rfl
  simp only [Tryd.ntmps4, List.size_toArray, List.length_cons, List.length_nil, Nat.reduceAdd, Nat.reduceSub, Array.replicate_succ, Array.replicate_zero, List.push_toArray, List.append_toArray, List.nil_append, List.cons_append]
  gi_wp2_with (first
    | (refine ⟨trivial, ?_⟩; gi_at_call 16; refine (callsIn_wide.2 (new_vec (n + 1) (by omega) (Nat.le_trans (Nat.succ_le_succ HN.out) (by decide)) _)).mono ?_; rintro e w1 ⟨p, b, rfl, hg1, hV1, hp, hb⟩))
  obtain ⟨s, hs⟩ : ∃ s, s = W.heap.size := ⟨_, rfl⟩
  obtain ⟨Wt, hWt⟩ : ∃ Wt, Wt = (((W.alloc (.cells #[.slice A' l'.length cap', .int .u8 stop] 40)).alloc (.cells #[.bool false] 4)).alloc (.cells #[.slice A' l'.length cap'] 23)) := ⟨_, rfl⟩
  have hgt : Gr W Wt := by rw [hWt]; exact (((Gr.refl W).alloc _).alloc _).alloc _
  have hst : Wt.heap.size = s + 3 := by rw [hWt, hs]; simp
  have t0 : Wt.cell? ⟨s, 0, none⟩ = some (.slice A' l'.length cap') ∧ Wt.cell? ⟨s, 1, none⟩ = some (.int .u8 stop) := by
    have hh := (((Gr.refl (W.alloc (.cells #[.slice A' l'.length cap', .int .u8 stop] 40))).alloc (.cells #[.bool false] 4)).alloc (.cells #[.slice A' l'.length cap'] 23)).cell (b := W.heap.size) (by simp)
    rw [hWt, hs, hh, hh]
    exact ⟨World.cell?_alloc_new .., World.cell?_alloc_new ..⟩
  have tR : Boxed Wt (s + 1) 4 (.bool false) := by
    rw [hWt, hs]
    have := Boxed.new (W.alloc (.cells #[.slice A' l'.length cap', .int .u8 stop] 40)) 4 (.bool false)
    rw [World.size_alloc] at this
    exact this.alloc _
  have tL : Wt.cell? ⟨s + 1 + 1, 0, none⟩ = some (.slice A' l'.length cap') := by
    rw [hWt, hs]
    have := Boxed.new ((W.alloc (.cells #[.slice A' l'.length cap', .int .u8 stop] 40)).alloc (.cells #[.bool false] 4)) 23 (.slice A' l'.length cap')
    rw [World.size_alloc, World.size_alloc] at this
    exact this.cell
  rw [← hWt] at hg1 hp hb
  have tRc := tR.cell
  have tRf := tR.frozen
  have HG1 := hid hg1
  have HGT := hid hgt
  have HTT := hid t0
  have HTR := hid (And.intro tRc tRf)
  have HTL := hid tL
  have HP := hid (And.intro hst (And.intro hp (And.intro hb (And.intro hV1.ne (And.intro hV1.hp hV1.hb)))))
  clear hg1 hgt t0 tRc tRf tR tL hst hp hb hWt
  obtain ⟨W2, hW2⟩ : ∃ W2, W2 = ((w1.alloc (.cells #[.pointer (some ⟨p, 0, none⟩)] 26)).alloc (.cells mk 4)).alloc (.cells #[.slice (some ⟨w1.heap.size + 1, 0, none⟩) (n + 1) (n + 1)] 41) := ⟨_, rfl⟩
  have hg2 : Gr w1 W2 := by rw [hW2]; exact (((Gr.refl w1).alloc _).alloc _).alloc _
  have hs2 : W2.heap.size = w1.heap.size + 3 := by rw [hW2]; simp
  have u8 : W2.cell? ⟨w1.heap.size, 0, none⟩ = some (.pointer (some ⟨p, 0, none⟩)) := by rw [hW2]; exact (((Boxed.new w1 _ _).alloc _).alloc _).cell
  have u10 : W2.cell? ⟨w1.heap.size + 1 + 1, 0, none⟩ = some (.slice (some ⟨w1.heap.size + 1, 0, none⟩) (n + 1) (n + 1)) := by
    rw [hW2]
    have := Boxed.new ((w1.alloc (.cells #[.pointer (some ⟨p, 0, none⟩)] 26)).alloc (.cells mk 4)) 41 (.slice (some ⟨w1.heap.size + 1, 0, none⟩) (n + 1) (n + 1))
    rw [World.size_alloc, World.size_alloc] at this
    exact this.cell
  have hB2 : Bools W2 (w1.heap.size + 1) (List.replicate (n + 1) false) := by
    have := (HBM.out (w1.alloc (.cells #[.pointer (some ⟨p, 0, none⟩)] 26))).gr ((Gr.refl _).alloc (.cells #[.slice (some ⟨w1.heap.size + 1, 0, none⟩) (n + 1) (n + 1)] 41))
    rw [World.size_alloc] at this
    rw [hW2]; exact this
  have HV2 := hid (hV1.gr hg2)
  have HB2 := hid hB2
  have HG2 := hid ((HGT.out.trans HG1.out).trans hg2)
  have HP2 := hid hs2
  have HU := hid (And.intro u8 u10)
  have HC2 := hid (show W2.cell? ⟨s, 0, none⟩ = some (.slice A' l'.length cap') ∧ W2.cell? ⟨s, 1, none⟩ = some (.int .u8 stop) ∧ W2.cell? ⟨s + 1, 0, none⟩ = some (.bool false) ∧ W2.frozen? ⟨s + 1, 0, none⟩ = false ∧ W2.cell? ⟨s + 1 + 1, 0, none⟩ = some (.slice A' l'.length cap') from by
    have hh := HG1.out.trans hg2
    have h1 := HP.out.1
    exact ⟨(hh.cell (by omega) _).trans HTT.out.1, (hh.cell (by omega) _).trans HTT.out.2, (hh.cell (by omega) _).trans HTR.out.1, (hh.frozen (by omega) _).trans HTR.out.2, (hh.cell (by omega) _).trans HTL.out⟩)
  rw [← hW2, ← hs]
  have HSZ := hid hs
  clear hs hW2 hg2 hs2 u8 u10 hB2 hV1
  gi_loopw [46] (fun i wr => ∃ k : Nat, k ≤ l.length ∧ (∃ q : List Bool, q.length = n + 1 ∧ Hid (Vec wr p b q) ∧ Hid (Bools wr (w1.heap.size + 1) q)) ∧ Hid (Touch (fun i => i = b ∨ i = w1.heap.size + 1) W2 wr) ∧ i = .int .i64 k) (fun i _ => l.length - (intOf i).toNat)
  case atStart => exact ⟨0, by omega, ⟨_, by simp, HV2, HB2⟩, hid (Touch.refl _ _), rfl⟩
  case round =>
    rename World => wa
    obtain ⟨k, hk, ⟨q, hq, hV, hB⟩, hTc, rfl⟩ := hrel
    have HG := hid ((HG2.out.touch (fun _ => False)).trans' hTc.out (fun i hi (h : i = b ∨ i = w1.heap.size + 1) => by have := HP.out; have := HG1.out.size; have := HSZ.out; omega)).gr
    have HQ := hid hq
    have HZ := hid (show s + 3 ≤ b ∧ s + 3 ≤ p ∧ b < w1.heap.size ∧ p < w1.heap.size ∧ w1.heap.size + 3 = W2.heap.size from by have := HP.out; have := HP2.out; omega)
    have c8 := (hTc.out.cell (b := w1.heap.size) (by have := HZ.out; omega) (by have := HZ.out; omega) 0).trans HU.out.1
    have c10 := (hTc.out.cell (b := w1.heap.size + 1 + 1) (by have := HZ.out; omega) (by have := HZ.out; omega) 0).trans HU.out.2
    clear hq
    by_cases hlt : k < l.length
    · obtain ⟨hok, ab, ao, rfl, hab, c0, c1, c2⟩ := HA.out k hlt
      have q0 := (HG.out.cell hab _).trans c0
      have q1 := (HG.out.cell hab _).trans c1
      have q2 := (HG.out.cell hab _).trans c2
      have HOK := hid hok
      clear c0 c1 c2 hok
      generalize l[k] = act at *
      obtain ⟨ka, aa, bb⟩ := act
      simp only [] at q0 q1 q2
      have HGA := hid ((Gr.refl wa).alloc (.cells #[.int .u8 ka, .int .i64 aa, .int .i64 bb] 31))
      have hwl : W2.heap.size ≤ wa.heap.size := hTc.out.size
      have c8' := (HGA.out.cell (b := w1.heap.size) (by have := HZ.out; omega) 0).trans c8
      have c10' := (HGA.out.cell (b := w1.heap.size + 1 + 1) (by have := HZ.out; omega) 0).trans c10
      gi_wp2_with (first
        | (refine ⟨trivial, ?_⟩; gi_at_call 22; have hc := done_any (c := n + 1) (hV.out.gr HGA.out) (hB.out.gr HGA.out) (by have := HZ.out; omega) (by have := HZ.out; omega) ⟨ka, aa, bb⟩ HOK.out; rw [HQ.out] at hc; refine (callsIn_wide.2 hc).mono ?_; rintro e w3 ⟨rfl, ht3, hv3, hb3⟩; have HV3 := hid hv3; have HB3 := hid hb3; have HT3 := hid ht3; clear hc ht3 hv3 hb3))
      go_roundw
      case rel => exact ⟨k + 1, by omega, ⟨_, (actL_length ..).trans HQ.out, HV3, HB3⟩, ⟨(hTc.out.trans (HGA.out.touch _)).trans HT3.out⟩, by go_num⟩
      case measure => simp [intOf]; omega
    · have hwl : W2.heap.size ≤ wa.heap.size := hTc.out.size
      have HGA := hid (((Gr.refl wa).alloc (.cells #[.int .i64 (-1)] 3)).alloc (.cells #[.int .i64 0] 3))
      have c8' := (HGA.out.cell (b := w1.heap.size) (by have := HZ.out; omega) 0).trans c8
      gi_wp2_with (first
        | (refine ⟨trivial, ?_⟩; gi_at_call 23; refine (callsIn_wide.2 (ones_call (some ⟨p, 0, none⟩))).mono ?_; rintro e w1 ⟨rfl, rfl⟩))
      obtain ⟨W0, hW0⟩ : ∃ W0, W0 = ((wa.alloc (.cells #[.int .i64 (-1)] 3)).alloc (.cells #[.int .i64 0] 3)).alloc (.cells #[.pointer (some ⟨p, 0, none⟩)] 26) := ⟨_, rfl⟩
      have hg0 : Gr wa W0 := by rw [hW0]; exact ((((Gr.refl wa).alloc _).alloc _).alloc _)
      have hs0 : W0.heap.size = wa.heap.size + 3 := by rw [hW0]; simp
      have b13 : Boxed W0 wa.heap.size 3 (.int .i64 (-1)) := by rw [hW0]; exact ((Boxed.new wa _ _).alloc _).alloc _
      have b14 : Boxed W0 (wa.heap.size + 1) 3 (.int .i64 0) := by
        rw [hW0]
        have := Boxed.new (wa.alloc (.cells #[.int .i64 (-1)] 3)) 3 (.int .i64 0)
        rw [World.size_alloc] at this
        exact this.alloc _
      have bI : Boxed W0 (wa.heap.size + 1 + 1) 26 (.pointer (some ⟨p, 0, none⟩)) := by
        rw [hW0]
        have := Boxed.new ((wa.alloc (.cells #[.int .i64 (-1)] 3)).alloc (.cells #[.int .i64 0] 3)) 26 (.pointer (some ⟨p, 0, none⟩))
        rw [World.size_alloc, World.size_alloc] at this
        exact this
      rw [← hW0]
      obtain ⟨S, hS⟩ : ∃ S : Nat → Prop, S = fun i => i = b ∨ i = w1.heap.size + 1 ∨ i = wa.heap.size ∨ i = wa.heap.size + 1 := ⟨_, rfl⟩
      have HS4 := hid (show ∀ i, S i ↔ (i = b ∨ i = w1.heap.size + 1 ∨ i = wa.heap.size ∨ i = wa.heap.size + 1) from fun i => by rw [hS])
      clear hS
      have h00 : OnI W0 S p b (w1.heap.size + 1) wa.heap.size (wa.heap.size + 1) (n + 1) (q, 0) W0 :=
        ⟨Touch.refl _ _, hV.out.gr hg0, HQ.out, hB.out.gr hg0, Nat.zero_le _, ⟨-1, rfl, b13.cell⟩, b13.frozen, ⟨0, Nat.le_refl _, b14.cell⟩, b14.frozen⟩
      have HI0 := hid h00
      have HBI := hid bI.cell
      have HL := hid (show W2.heap.size ≤ wa.heap.size ∧ W0.heap.size = wa.heap.size + 3 from ⟨hwl, hs0⟩)
      have tc := fun {k : Nat} (hk : k < W2.heap.size) (h1 : k ≠ b) (h2 : k ≠ w1.heap.size + 1) (o : Nat) => (hg0.cell (b := k) (by omega) o).trans (hTc.out.cell (b := k) hk (by omega) o)
      have tf := fun {k : Nat} (hk : k < W2.heap.size) (h1 : k ≠ b) (h2 : k ≠ w1.heap.size + 1) (o : Nat) => (hg0.frozen (b := k) (by omega) o).trans (hTc.out.frozen (b := k) hk (by omega) o)
      have z5 := HZ.out
      have HC0 := hid (show W0.cell? ⟨w1.heap.size, 0, none⟩ = some (.pointer (some ⟨p, 0, none⟩)) ∧ W0.cell? ⟨w1.heap.size + 1 + 1, 0, none⟩ = some (.slice (some ⟨w1.heap.size + 1, 0, none⟩) (n + 1) (n + 1)) ∧ W0.cell? ⟨s, 1, none⟩ = some (.int .u8 stop) ∧
          W0.cell? ⟨s + 1, 0, none⟩ = some (.bool false) ∧ W0.frozen? ⟨s + 1, 0, none⟩ = false ∧ W0.cell? ⟨s + 1 + 1, 0, none⟩ = some (.slice A' l'.length cap') from
        ⟨(hg0.cell (by omega) _).trans c8, (hg0.cell (by omega) _).trans c10, (tc (by omega) (by omega) (by omega) _).trans HC2.out.2.1, (tc (by omega) (by omega) (by omega) _).trans HC2.out.2.2.1, (tf (by omega) (by omega) (by omega) _).trans HC2.out.2.2.2.1, (tc (by omega) (by omega) (by omega) _).trans HC2.out.2.2.2.2⟩)
      have HGW0 := hid (HG.out.trans hg0)
      clear hg0 hs0 b13 b14 bI hW0 h00 tc tf z5 c8 c8' c10 hwl
      have hlts : p < W0.heap.size ∧ b < W0.heap.size ∧ w1.heap.size + 1 < W0.heap.size ∧ wa.heap.size < W0.heap.size ∧ wa.heap.size + 1 < W0.heap.size := by have := HL.out; have := HZ.out; omega
      have HLT := hid hlts
      have hR0 : s + 1 < W0.heap.size := by have := HL.out; have := HZ.out; omega
      have HR0 := hid hR0
      clear hlts hR0
      refine range_law (s0 := (q, 0)) rfl (by omega) (gf := 83) (lb := #[.pointer (some ⟨wa.heap.size + 1 + 1, 0, none⟩)]) rfl trivial (enters_of Tryd.func83 (by kernel_rfl) rfl)
        (ones_seq _ (wa.heap.size + 1 + 1) p b (n + 1) q _) (fun _ => rfl) (OnI W0 S p b (w1.heap.size + 1) wa.heap.size (wa.heap.size + 1) (n + 1)) (OnX W0 S (s + 1))
        (fun _ A B h t => h.stays t HLT.out) (fun _ _ _ h t => h.stays t HR0.out)
        (fun st A h => ⟨h.2.1, h.2.2.1, h.1.tab (by have := HT.out.lt; have := HGW0.out.size; omega) (by have := HT.out.lt; have := HSZ.out; have := HZ.out; have := HL.out; rw [HS4.out]; omega) (HGW0.out.tab HT.out.lt HT.out), (h.1.cell (b := wa.heap.size + 1 + 1) (by have := HL.out; omega) (by have := HZ.out; have := HL.out; rw [HS4.out]; omega) 0).trans HBI.out, h.2.2.2.2.1⟩)
        HI0.out ?round ?done ?stop
      case round =>
        intro lp st x W3 hsz3 hI3 hgv
        gi_wp2
        refine ⟨Gr.refl _, fun W4 ht4 hI4 => ?_⟩
        obtain ⟨hT4, hV4, hl4, hB4, hle4, ⟨last, hlast, h13⟩, hf13, ⟨kk, hkk, h14⟩, hf14⟩ := hI4
        obtain ⟨hx, hlt⟩ := hgv
        have hge := next_ge hlt
        have hx1 : x < n + 1 := by rw [hx, ← hl4]; exact hlt
        have hxk : st.2 ≤ x := by rw [hx]; omega
        have hbl : -1 ≤ last ∧ last ≤ 256 := by have := HN.out; omega
        obtain ⟨hbl1, hbl2⟩ := hbl
        have hxb : (x : Int) ≤ 256 := by have := HN.out; omega
        have hkb : (kk : Int) ≤ 256 := by have := HN.out; omega
        have hkx : kk ≤ x := by omega
        have z5 := HZ.out
        have zL := HL.out
        have c10_4 := (hT4.cell (b := w1.heap.size + 1 + 1) (by omega) (by rw [HS4.out]; omega) 0).trans HC0.out.2.1
        have E1 : Hid (valN st.1.length (nextL st.1 (last + 1)) = x) := ⟨by rw [hlast, hx]; exact valN_yes hlt⟩
        have E2 : Hid (decide (nextL st.1 (last + 1) < st.1.length) = true) := ⟨by rw [hlast]; exact decide_eq_true hlt⟩
        have hs4 := hT4.size
        have t45 : Touch (fun i => i = wa.heap.size) W4 (W4.setCell ⟨wa.heap.size, 0, none⟩ (.int .i64 x)) := (Touch.refl (fun i => i = wa.heap.size) _).setCell (a := ⟨wa.heap.size, 0, none⟩) (fun _ => rfl) _
        have T5 := hT4.trans' t45 (fun i hi h => by rw [HS4.out]; omega)
        have TB5 : Touch (fun k => k < W0.heap.size) W4 (W4.setCell ⟨wa.heap.size, 0, none⟩ (.int .i64 x)) := t45.mono (fun k hk h => by have h : k = wa.heap.size := h; omega)
        have c8_5 := (T5.cell (b := w1.heap.size) (by omega) (by rw [HS4.out]; omega) 0).trans HC0.out.1
        have c10_5 := (T5.cell (b := w1.heap.size + 1 + 1) (by omega) (by rw [HS4.out]; omega) 0).trans HC0.out.2.1
        have cst_5 := (T5.cell (b := s) (by omega) (by rw [HS4.out]; omega) 1).trans HC0.out.2.2.1
        have cR_5 := (T5.cell (b := s + 1) (by omega) (by rw [HS4.out]; omega) 0).trans HC0.out.2.2.2.1
        have fR_5 := (T5.frozen (b := s + 1) (by omega) (by rw [HS4.out]; omega) 0).trans HC0.out.2.2.2.2.1
        have cL_5 := (T5.cell (b := s + 1 + 1) (by omega) (by rw [HS4.out]; omega) 0).trans HC0.out.2.2.2.2.2
        have c13_5 := World.cell?_setCell_same' W4 ⟨wa.heap.size, 0, none⟩ (.int .i64 x) (by rw [h13]; rfl)
        have f13_5 : (W4.setCell ⟨wa.heap.size, 0, none⟩ (.int .i64 x)).frozen? ⟨wa.heap.size, 0, none⟩ = false := by rw [World.frozen?_setCell]; exact hf13
        have c14_5 := (t45.cell (b := wa.heap.size + 1) (by omega) (by omega) 0).trans h14
        have f14_5 := (t45.frozen (b := wa.heap.size + 1) (by omega) (by omega) 0).trans hf14
        have HV5 := hid (hV4.touch t45 (by omega) (by omega))
        have HB5 := hid (hB4.touch t45 (by omega))
        have HB4 := hid hB4
        have HL4 := hid hl4
        have HT5 := hid T5
        have HTB5 := hid TB5
        clear hV4 hB4 hl4 hlast hx hlt hge hle4 t45 T5 TB5 hT4 ht4 hsz3 hI3
        by_cases hkl : kk < l'.length
        · obtain ⟨hok, ab, ao, rfl, hab, a0, a1, a2⟩ := HA'.out kk hkl
          have ht := (HGW0.out.touch (fun _ => False)).trans' HT5.out (fun i hi h => by have := HSZ.out; rw [HS4.out] at h; omega)
          have q0 := (ht.cell hab (fun h => h) _).trans a0
          have q1 := (ht.cell hab (fun h => h) _).trans a1
          have q2 := (ht.cell hab (fun h => h) _).trans a2
          have HOK := hid hok
          clear a0 a1 a2 hok ht
          generalize l'[kk] = act at *
          obtain ⟨ka, aa, bb⟩ := act
          simp only [] at q0 q1 q2
          gi_upto_region 21 with (refine ⟨trivial, ?_⟩; gi_at_call 24; have hc := ref_next (c := n + 1) HB4.out (last + 1); rw [E1.out, E2.out, HL4.out] at hc; refine (CallsIn.inRound lp (callsIn_wide.2 hc)).mono ?_; rintro e w4 ⟨rfl, rfl⟩; clear hc)
          gi_region_with (refine ⟨trivial, ?_⟩; gi_at_call 22; have hc := done_any (c := n + 1) (HV5.out.gr (Gr.refl _).drew) (HB5.out.gr (Gr.refl _).drew) (by omega) (by omega) ⟨ka, aa, bb⟩ HOK.out; rw [HL4.out] at hc; refine (CallsIn.inRound lp (callsIn_wide.2 hc)).mono ?_; rintro e w6 ⟨rfl, ht6, hv6, hb6⟩; have T56 := hid (((Gr.refl _).drew.touch (fun i => i = b ∨ i = w1.heap.size + 1)).trans ht6); have HV6 := hid hv6; have HB6 := hid hb6; clear hc ht6 hv6 hb6)
          all_goals
            have HL6 := hid ((actL_length st.1 ⟨ka, aa, bb⟩).trans HL4.out)
            have s5 := HT5.out.size
            have T6 := hid (HT5.out.trans' T56.out (fun i hi h => by rw [HS4.out]; omega))
            have TB6 := hid (HTB5.out.trans' T56.out (fun i hi h => by show i < W0.heap.size; have := HLT.out; omega))
            have y14 := (T56.out.cell (b := wa.heap.size + 1) (by omega) (by omega) 0).trans c14_5
            have yf14 := (T56.out.frozen (b := wa.heap.size + 1) (by omega) (by omega) 0).trans f14_5
            have y13 := (T56.out.cell (b := wa.heap.size) (by omega) (by omega) 0).trans c13_5
            have yf13 := (T56.out.frozen (b := wa.heap.size) (by omega) (by omega) 0).trans f13_5
            have yst := (T56.out.cell (b := s) (by omega) (by omega) 1).trans cst_5
            have yR := (T56.out.cell (b := s + 1) (by omega) (by omega) 0).trans cR_5
            have yfR := (T56.out.frozen (b := s + 1) (by omega) (by omega) 0).trans fR_5
            have t67 : Touch (fun i => i = wa.heap.size + 1) w6 (w6.setCell ⟨wa.heap.size + 1, 0, none⟩ (.int .i64 ((kk : Int) + 1))) := (Touch.refl (fun i => i = wa.heap.size + 1) _).setCell (a := ⟨wa.heap.size + 1, 0, none⟩) (fun _ => rfl) _
            have hs6 := T6.out.size
            have z14 := World.cell?_setCell_same' w6 ⟨wa.heap.size + 1, 0, none⟩ (.int .i64 ((kk : Int) + 1)) (by rw [y14]; rfl)
            have zst := (t67.cell (b := s) (by omega) (by omega) 1).trans yst
            have zR := (t67.cell (b := s + 1) (by omega) (by omega) 0).trans yR
            have zfR := (t67.frozen (b := s + 1) (by omega) (by omega) 0).trans yfR
            have z13 := (t67.cell (b := wa.heap.size) (by omega) (by omega) 0).trans y13
            have zf13 := (t67.frozen (b := wa.heap.size) (by omega) (by omega) 0).trans yf13
            have zf14 : (w6.setCell ⟨wa.heap.size + 1, 0, none⟩ (.int .i64 ((kk : Int) + 1))).frozen? ⟨wa.heap.size + 1, 0, none⟩ = false := by rw [World.frozen?_setCell]; exact yf14
            have HV7 := hid (HV6.out.touch t67 (by omega) (by omega))
            have HB7 := hid (HB6.out.touch t67 (by omega))
            have T7 := hid (T6.out.trans' t67 (fun i hi h => by rw [HS4.out]; omega))
            have TB7 := hid (TB6.out.trans' t67 (fun i hi h => by show i < W0.heap.size; have := HLT.out; omega))
            have HTB7 := hid (T7.out.tab (by have := HT.out.lt; have := HGW0.out.size; omega) (by have := HT.out.lt; have := HSZ.out; rw [HS4.out]; omega) (HGW0.out.tab HT.out.lt HT.out))
            clear t67
            gi_wp2_with (first
              | (refine ⟨trivial, ?_⟩; gi_at_call 15; refine (CallsIn.inRound lp (callsIn_wide.2 (lives11 HTB7.out))).mono ?_; rintro e w8 ⟨rfl, hg8⟩; have HG8 := hid hg8; have r8 := (hg8.cell (lt_cell zR) 0).trans zR; have rf8 := (hg8.frozen (lt_cell zR) 0).trans zfR; clear hg8))
            · have t89 : Touch (fun i => i = s + 1) w8 (w8.setCell ⟨s + 1, 0, none⟩ (.bool true)) := (Touch.refl (fun i => i = s + 1) _).setCell (a := ⟨s + 1, 0, none⟩) (fun _ => rfl) _
              refine ⟨(TB7.out.trans (HG8.out.touch _)).trans' t89 (fun i hi h => by show i < W0.heap.size; have := HR0.out; omega), rfl, ?_, World.cell?_setCell_same' w8 ⟨s + 1, 0, none⟩ (.bool true) (by rw [r8]; rfl)⟩
              exact ((T7.out.trans (HG8.out.touch S)).mono (fun k hk h => .inl h)).trans' t89 (fun i hi h => .inr h)
            · exact ⟨TB7.out, (actL st.1 ⟨ka, aa, bb⟩, x + 1), rfl, T7.out, HV7.out, HL6.out, HB7.out, by show x + 1 ≤ n + 1; omega, ⟨x, by push_cast; rfl, z13⟩, zf13, ⟨kk + 1, by show kk + 1 ≤ x + 1; omega, by push_cast; exact z14⟩, zf14⟩
        · have T6 := HT5
          have TB6 := HTB5
          have HV6 := HV5
          have HB6 := HB5
          have HL6 := HL4
          have y14 := c14_5
          have yf14 := f14_5
          have y13 := c13_5
          have yf13 := f13_5
          have yst := cst_5
          have yR := cR_5
          have yfR := fR_5
          have hkl' : l'.length ≤ kk := by omega
          have t67 : Touch (fun i => i = wa.heap.size + 1) (W4.setCell ⟨wa.heap.size, 0, none⟩ (.int .i64 x)) ((W4.setCell ⟨wa.heap.size, 0, none⟩ (.int .i64 x)).setCell ⟨wa.heap.size + 1, 0, none⟩ (.int .i64 ((kk : Int) + 1))) := (Touch.refl (fun i => i = wa.heap.size + 1) _).setCell (a := ⟨wa.heap.size + 1, 0, none⟩) (fun _ => rfl) _
          have hs6 := T6.out.size
          have z14 := World.cell?_setCell_same' (W4.setCell ⟨wa.heap.size, 0, none⟩ (.int .i64 x)) ⟨wa.heap.size + 1, 0, none⟩ (.int .i64 ((kk : Int) + 1)) (by rw [y14]; rfl)
          have zst := (t67.cell (b := s) (by omega) (by omega) 1).trans yst
          have zR := (t67.cell (b := s + 1) (by omega) (by omega) 0).trans yR
          have zfR := (t67.frozen (b := s + 1) (by omega) (by omega) 0).trans yfR
          have z13 := (t67.cell (b := wa.heap.size) (by omega) (by omega) 0).trans y13
          have zf13 := (t67.frozen (b := wa.heap.size) (by omega) (by omega) 0).trans yf13
          have zf14 : ((W4.setCell ⟨wa.heap.size, 0, none⟩ (.int .i64 x)).setCell ⟨wa.heap.size + 1, 0, none⟩ (.int .i64 ((kk : Int) + 1))).frozen? ⟨wa.heap.size + 1, 0, none⟩ = false := by rw [World.frozen?_setCell]; exact yf14
          have HV7 := hid (HV6.out.touch t67 (by omega) (by omega))
          have HB7 := hid (HB6.out.touch t67 (by omega))
          have T7 := hid (T6.out.trans' t67 (fun i hi h => by rw [HS4.out]; omega))
          have TB7 := hid (TB6.out.trans' t67 (fun i hi h => by show i < W0.heap.size; have := HLT.out; omega))
          have HTB7 := hid (T7.out.tab (by have := HT.out.lt; have := HGW0.out.size; omega) (by have := HT.out.lt; have := HSZ.out; rw [HS4.out]; omega) (HGW0.out.tab HT.out.lt HT.out))
          clear t67
          gi_wp2_with (first
            | (refine ⟨trivial, ?_⟩; gi_at_call 24; have hc := ref_next (c := n + 1) HB4.out (last + 1); rw [E1.out, E2.out, HL4.out] at hc; refine (CallsIn.inRound lp (callsIn_wide.2 hc)).mono ?_; rintro e w4 ⟨rfl, rfl⟩; clear hc)
            | (refine ⟨trivial, ?_⟩; gi_at_call 15; refine (CallsIn.inRound lp (callsIn_wide.2 (lives11 HTB7.out))).mono ?_; rintro e w8 ⟨rfl, hg8⟩; have HG8 := hid hg8; have r8 := (hg8.cell (lt_cell zR) 0).trans zR; have rf8 := (hg8.frozen (lt_cell zR) 0).trans zfR; clear hg8))
          · have t89 : Touch (fun i => i = s + 1) w8 (w8.setCell ⟨s + 1, 0, none⟩ (.bool true)) := (Touch.refl (fun i => i = s + 1) _).setCell (a := ⟨s + 1, 0, none⟩) (fun _ => rfl) _
            refine ⟨(TB7.out.trans (HG8.out.touch _)).trans' t89 (fun i hi h => by show i < W0.heap.size; have := HR0.out; omega), rfl, ?_, World.cell?_setCell_same' w8 ⟨s + 1, 0, none⟩ (.bool true) (by rw [r8]; rfl)⟩
            exact ((T7.out.trans (HG8.out.touch S)).mono (fun k hk h => .inl h)).trans' t89 (fun i hi h => .inr h)
          · exact ⟨TB7.out, (st.1, x + 1), rfl, T7.out, HV7.out, HL6.out, HB7.out, by show x + 1 ≤ n + 1; omega, ⟨x, by push_cast; rfl, z13⟩, zf13, ⟨kk + 1, by show kk + 1 ≤ x + 1; omega, by push_cast; exact z14⟩, zf14⟩
      case done =>
        rintro D st W3 hD hfin ⟨hT3, hV3, hl3, hB3, hle3, ⟨last, hlast, h13⟩, hf13, ⟨k', hk', h14⟩, hf14⟩ hK
        have hbl : -1 ≤ last ∧ last ≤ 256 := by have := HN.out; omega
        obtain ⟨hbl1, hbl2⟩ := hbl
        have z5 := HZ.out
        have zL := HL.out
        have hc10 := (hT3.cell (b := w1.heap.size + 1 + 1) (by omega) (by rw [HS4.out]; omega) 0).trans HC0.out.2.1
        have hcR := (hT3.cell (b := s + 1) (by omega) (by rw [HS4.out]; omega) 0).trans HC0.out.2.2.2.1
        have hfR := (hT3.frozen (b := s + 1) (by omega) (by rw [HS4.out]; omega) 0).trans HC0.out.2.2.2.2.1
        have E1 : Hid (valN st.1.length (nextL st.1 (last + 1)) = 0) := ⟨by rw [hlast]; exact valN_no hfin⟩
        have E2 : Hid (decide (nextL st.1 (last + 1) < st.1.length) = false) := ⟨by rw [hlast]; exact decide_eq_false hfin⟩
        have HB3 := hid hB3
        have HL3 := hid hl3
        have HT3 := hid hT3
        have HTB := hid (hT3.tab (by have := HT.out.lt; have := HGW0.out.size; omega) (by have := HT.out.lt; have := HSZ.out; rw [HS4.out]; omega) (HGW0.out.tab HT.out.lt HT.out))
        have HK := hid hK
        have HD := hid hD
        clear hT3 hV3 hl3 hB3 hle3 hlast hf13 h14 hf14 hfin hK hD z5 zL hk'
        gi_wp2_with (first
          | (refine ⟨trivial, ?_⟩; gi_at_call 24; have hc := ref_next (c := n + 1) HB3.out (last + 1); rw [E1.out, E2.out, HL3.out] at hc; refine (callsIn_wide.2 hc).mono ?_; rintro e w4 ⟨rfl, rfl⟩; clear hc)
          | (refine ⟨trivial, ?_⟩; gi_at_call 15; refine (callsIn_wide.2 (lives11 HTB.out)).mono ?_; rintro e w7 ⟨rfl, hg7⟩; have HG7 := hid hg7; have hr7 := (hg7.cell (lt_cell hcR) 0).trans hcR; have hf7 := (hg7.frozen (lt_cell hcR) 0).trans hfR; clear hg7))
        have hK7 : (w7.setCell ⟨s + 1, 0, none⟩ (.bool true)).heap[D]? = some (.deferred (some [])) := by
          have h7 : w7.heap[D]? = some (.deferred (some [])) := (HG7.out.block (Array.getElem?_eq_some_iff.1 HK.out).1).trans HK.out
          exact (Below.heap_setCell _ _ _ _ (by have := HD.out; have := HR0.out; show D ≠ s + 1; omega)).trans h7
        refine ⟨by simp, .inl ⟨_, _, rfl, run_takeDeferred hK7, ?_⟩⟩
        have hc5 := cell_kept (World.cell?_setCell_same' w7 ⟨s + 1, 0, none⟩ (.bool true) (by rw [hr7]; rfl)) (grownBy_putObj' _ D (.deferred none)) (fun r e => by cases e; exact ⟨_, hK7, rfl⟩)
        refine ⟨.bool true, ?_, rfl, ?_⟩
        · simp [results, Tryd.f4, go_sem, hc5]
        · have a1 := (HGW0.out.touch (fun _ => False)).trans' HT3.out (fun i hi h => by have := HSZ.out; have := HZ.out; have := HL.out; rw [HS4.out] at h; omega)
          exact (((a1.trans (HG7.out.touch _)).setCell (a := ⟨s + 1, 0, none⟩) (fun h => by have := HSZ.out; have h : s + 1 < W.heap.size := h; omega) _).trans' (touch_putObj _ D _ (Nat.le_refl D)) (fun i hi h => by have := HD.out; have := HGW0.out.size; omega)).gr
      case stop =>
        rintro D c W3 hD ⟨rfl, ht, hr⟩ hK
        gi_wp2
        refine ⟨by simp, .inl ⟨_, _, rfl, run_takeDeferred hK, ?_⟩⟩
        have hc5 := cell_kept hr (grownBy_putObj' _ D (.deferred none)) (fun r e => by cases e; exact ⟨_, hK, rfl⟩)
        refine ⟨.bool true, ?_, rfl, ?_⟩
        · simp [results, Tryd.f4, go_sem, hc5]
        · have a1 := (HGW0.out.touch (fun _ => False)).trans' ht (fun i hi h => by have := HSZ.out; have := HZ.out; have := HL.out; rw [HS4.out] at h; omega)
          exact (a1.trans' (touch_putObj _ D _ (Nat.le_refl D)) (fun i hi h => by have := HGW0.out.size; omega)).gr
end Go.Proofs.YtlbbkpjfoabobaaDoor
