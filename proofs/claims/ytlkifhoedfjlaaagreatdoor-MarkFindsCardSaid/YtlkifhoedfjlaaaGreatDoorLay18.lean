/- Layer 18's Lay: the walk. -/
import Derived.Test.YtlkifhoedfjlaaaGreatDoorLay18P
import Derived.Test.YtlkifhoedfjlaaaGreatDoorStk
import Derived.Deep.CutBlock
import Derived.Deep.DeepCutAuto
namespace Go.Proofs.YtlkifhoedfjlaaaGreatDoor
open Go.RowKit Word

def HdrsAt (w : World) (A : Option Addr) (l : List Hdr) : Prop := ∀ i (h : i < l.length), ∃ b o, A = some ⟨b, o, none⟩ ∧ b < w.heap.size ∧
  w.cell? ⟨b, o + i * 3, none⟩ = some (.int .i64 l[i].p) ∧ w.cell? ⟨b, o + i * 3 + 1, none⟩ = some (.int .i64 l[i].f) ∧ w.cell? ⟨b, o + i * 3 + 2, none⟩ = some (.int .i64 l[i].k)
/-- A laid memory's data. -/
structure Laid where
  H : List Hdr
  P : List Int
  W : List Int
structure LaidAt (w : World) (val : Value) (x : Laid) : Prop where
  ex : ∃ A1 c1 A2 c2 A3 c3, val = .agg #[.slice A1 x.H.length c1, .slice A2 x.P.length c2, .slice A3 x.W.length c3] ∧ HdrsAt w A1 x.H ∧ IntsAt w A2 x.P ∧ IntsAt w A3 x.W
  far : x.H.length ≤ 9223372036854775807 ∧ x.P.length ≤ 9223372036854775807 ∧ x.W.length ≤ 9223372036854775807
/-- What lies in memory while Lay works. -/
structure L18 (w wr : World) (xs : List Value) (q : Nat) (v : Vm) (vF : Value) (F : List Int) : Prop where
  full : Full v
  vm : ∃ SV, VmAt wr SV q v ∧ (∀ i, SV i → w.heap.size + 1 ≤ i) ∧ (∀ g, vF.ownBlock = some g → ¬ SV g)
  rx : Rec wr w.heap.size 25 xs
  own : wr.ownsRow 0 3 1 vF F.length (zs F)
  ofr : ∀ g, vF.ownBlock = some g → w.heap.size + 1 ≤ g
  t : Touch (fun k => w.heap.size ≤ k) w wr
theorem L18.gr {w wr w' : World} {xs : List Value} {q : Nat} {v : Vm} {vF : Value} {F : List Int} (h : L18 w wr xs q v vF F) (g : Gr wr w') : L18 w w' xs q v vF F := by
  obtain ⟨h1, ⟨SV, h2, h3, h4⟩, h5, h6, h7, h8⟩ := h
  exact ⟨h1, ⟨SV, h2.gr g, h3, h4⟩, h5.gr g, own_gr h6 g, h7, h8.trans (g.touch _)⟩
/-- Behind a call that turned the memory. -/
theorem L18.turn {w wr w' : World} {xs : List Value} {q : Nat} {v v' : Vm} {vF : Value} {F : List Int} (h : L18 w wr xs q v vF F) {SV : Nat → Prop} (hs : ∀ i, SV i → w.heap.size + 1 ≤ i) (hn : ∀ g, vF.ownBlock = some g → ¬ SV g) (hf : Full v') (t : Touch SV wr w') (hv : VmAt w' (plus SV wr) q v') : L18 w w' xs q v' vF F := by
  have hz := h.t.size
  have hl := h.rx.lt
  refine ⟨hf, ⟨plus SV wr, hv, fun i hi => ?_, fun g hg hi => ?_⟩, h.rx.touch t (fun h => by have := hs _ h; omega), own_touch h.own t hn, h.ofr, h.t.trans (t.mono (fun i _ hi => by have := hs i hi; omega))⟩
  · rcases hi with h' | h'
    · exact hs i h'
    · omega
  · rcases hi with h' | h'
    · exact hn g hg h'
    · have := (own_lt h.own hg).2; omega
theorem L18.app {w wr w' : World} {xs : List Value} {q : Nat} {v : Vm} {A : Option Addr} {c g2 c2 N : Nat} {F : List Int} {a : Int} (h : L18 w wr xs q v (.slice A N c) F) (hN : N = F.length) (t : Touch (fun k => (Value.slice A N c).ownBlock = some k) wr w')
    (ho : w'.ownsRow 0 3 1 (.slice (some ⟨g2, 0, none⟩) (N + 1) c2) (N + 1) (zs F ++ [.int .i64 a])) (hat : (Value.slice A N c).ownBlock = some g2 ∨ wr.heap.size ≤ g2) : L18 w w' xs q v (.slice (some ⟨g2, 0, none⟩) (N + 1) c2) (F ++ [a]) := by
  obtain ⟨h1, ⟨SV, h2, h3, h4⟩, h5, h6, h7, h8⟩ := h
  have hl := h5.lt
  have hz := h8.size
  refine ⟨h1, ⟨cutS SV wr, h2.cut.touch t (fun i hi _ e => h4 i e hi.1), fun i hi => h3 i hi.1, fun g hg hi => ?_⟩, h5.touch t (fun e => own_ne h6 h5 (by decide) e rfl rfl), ?_, fun g hg => ?_, h8.trans (t.mono (fun i _ e => by have := h7 i e; omega))⟩
  · cases hg
    rcases hat with h | h
    · exact h4 _ h hi.1
    · have : g2 < wr.heap.size := hi.2
      omega
  · rw [List.length_append, ← hN, show zs (F ++ [a]) = zs F ++ [.int .i64 a] by unfold zs; rw [List.map_append]; rfl]
    exact ho
  · cases hg
    rcases hat with h | h
    · exact h7 _ h
    · show w.heap.size + 1 ≤ g2
      omega
theorem mkE_full {v : Vm} (h : Full v) {t : Nat} {n : Nat} (he : mkE v t n = 0) : t + n < 400 := by
  cases n with
  | zero =>
    have he : v.ldE t = 0 := he
    rw [h.ldE] at he
    split at he
    · omega
    · cases he
  | succ n =>
    have he : (if mkE v t n ≠ 0 then mkE v t n else v.ldE (t + 1 + n)) = 0 := he
    split at he
    · rename_i hn; exact absurd he hn
    · rw [h.ldE] at he
      split at he
      · omega
      · cases he
theorem mkRes_zero {v : Vm} {t : Nat} {h : Hdr} (he : mkRes v t h = 0) : ∃ p f c : Nat, h = ⟨p, f, c⟩ ∧ p + f + c ≤ 255 ∧ mkE v t (p + f + c) = 0 := by
  unfold mkRes at he
  split at he
  · cases he
  · split at he
    · cases he
    · rename_i h1
      obtain ⟨p, f, c, rfl, hs⟩ := hdrE_zero (Decidable.not_not.1 h1)
      exact ⟨p, f, c, rfl, hs, he⟩
theorem layHs_cons (h : Hdr) (r : List Hdr) (v : Vm) (t : Int) (F : List Int) : layHs (h :: r) v t F = if mkRes v t h = 0 then layHs r (mkVm v t h) (t + hdrN h) (F ++ (List.range h.p.toNat).map fun i : Nat => t + 1 + (i : Int)) else (v, t, F) := rfl
/-- The first k words of a memory. -/
def wds (v : Vm) (k : Nat) : List Value := (List.range k).map fun a : Nat => .int .u64 (v.ldV a : Nat)
theorem wds_len (v : Vm) (k : Nat) : (wds v k).length = k := by simp [wds]
theorem wds_succ (v : Vm) (k : Nat) : wds v (k + 1) = wds v k ++ [.int .u64 (v.ldV k : Nat)] := by unfold wds; rw [List.range_succ, List.map_append]; rfl
/-- While the words are read. -/
structure L18R (w wr : World) (q : Nat) (v : Vm) (k : Nat) (vL : Value) : Prop where
  full : Full v
  vm : ∃ SV, VmAt wr SV q v ∧ (∀ i, SV i → w.heap.size + 1 ≤ i) ∧ (∀ g, vL.ownBlock = some g → ¬ SV g)
  own : wr.ownsRow 0 33 1 vL k (wds v k)
  ofr : ∀ g, vL.ownBlock = some g → w.heap.size + 1 ≤ g
  t : Touch (fun k => w.heap.size ≤ k) w wr
theorem L18R.gr {w wr w' : World} {q k : Nat} {v : Vm} {vL : Value} (h : L18R w wr q v k vL) (g : Gr wr w') : L18R w w' q v k vL := by
  obtain ⟨h1, ⟨SV, h2, h3, h4⟩, h6, h7, h8⟩ := h
  exact ⟨h1, ⟨SV, h2.gr g, h3, h4⟩, own_gr h6 g, h7, h8.trans (g.touch _)⟩
theorem L18R.app {w wr w' : World} {q : Nat} {v : Vm} {A : Option Addr} {c g2 c2 N : Nat} (h : L18R w wr q v N (.slice A N c)) (t : Touch (fun k => (Value.slice A N c).ownBlock = some k) wr w')
    (ho : w'.ownsRow 0 33 1 (.slice (some ⟨g2, 0, none⟩) (N + 1) c2) (N + 1) (wds v N ++ [.int .u64 (v.ldV N : Nat)])) (hat : (Value.slice A N c).ownBlock = some g2 ∨ wr.heap.size ≤ g2) (hw : w.heap.size + 1 ≤ wr.heap.size) : L18R w w' q v (N + 1) (.slice (some ⟨g2, 0, none⟩) (N + 1) c2) := by
  obtain ⟨h1, ⟨SV, h2, h3, h4⟩, h6, h7, h8⟩ := h
  refine ⟨h1, ⟨cutS SV wr, h2.cut.touch t (fun i hi _ e => h4 i e hi.1), fun i hi => h3 i hi.1, fun g hg hi => ?_⟩, ?_, fun g hg => ?_, h8.trans (t.mono (fun i _ e => by have := h7 i e; omega))⟩
  · cases hg
    rcases hat with h | h
    · exact h4 _ h hi.1
    · have : g2 < wr.heap.size := hi.2
      omega
  · rw [wds_succ]
    exact ho
  · cases hg
    rcases hat with h | h
    · exact h7 _ h
    · show w.heap.size + 1 ≤ g2
      omega
/-- The memory that Lay lays. -/
def layV (x : Laid) (v0 : Vm) : Vm :=
  layWs x.W (if (layHs x.H v0 1 []).2.2 = [] then (layHs x.H v0 1 []).1 else layPs x.P (layHs x.H v0 1 []).2.2 (layHs x.H v0 1 []).1 (x.P.length / 2)) (x.W.length / 2)
def Lay18End (w : World) (x : Laid) (e : Ending) (w' : World) : Prop :=
  ∃ q A c v0 SV, e = .returned (.tuple #[.pointer (some ⟨q, 0, none⟩), .slice A 400 c, .int .i64 (layHs x.H v0 1 []).2.1]) ∧ Gr w w' ∧ Full v0 ∧ (∀ a : Nat, a < 400 → v0.ldV a = 0) ∧ Full (layV x v0) ∧
    VmAt w' SV q (layV x v0) ∧ w'.ownsRow 0 33 1 (.slice A 400 c) 400 (wds (layV x v0) 400) ∧ (∀ i, SV i → w.heap.size ≤ i ∧ i < w'.heap.size) ∧ (∀ g, (Value.slice A 400 c).ownBlock = some g → w.heap.size ≤ g ∧ ¬ SV g)
set_option maxRecDepth 100000 in
set_option maxHeartbeats 3200000 in
theorem lay18_walk {w : World} {val : Value} {x : Laid} (hL : LaidAt w val x) : Calls Tryz.prog 6 #[val] w (Lay18End w x) := by
  obtain ⟨⟨A1, l1, A2, l2, A3, l3, rfl, h1, h2, h3⟩, hf⟩ := hL
  have H1 := hid h1
  have H2 := hid h2
  have H3 := hid h3
  have HN := hid (fun W => vm_new (n := 400) (pg := 1) (rm := 400) (by decide) (by decide) (by decide) (by decide) (by decide) (by decide) (by decide) W)
  obtain ⟨N1, hN1⟩ : ∃ N, N = x.H.length := ⟨_, rfl⟩
  obtain ⟨N2, hN2⟩ : ∃ N, N = x.P.length := ⟨_, rfl⟩
  obtain ⟨N3, hN3⟩ : ∃ N, N = x.W.length := ⟨_, rfl⟩
  rw [← hN1, ← hN2, ← hN3] at hf
  obtain ⟨hf1, hf2, hf3⟩ := hf
  rw [← hN1, ← hN2, ← hN3]
  have HN1 := hid hN1
  have HN2 := hid hN2
  have HN3 := hid hN3
  clear h1 h2 h3 hN1 hN2 hN3
  go_enter Tryz.func6, Tryz.ntmps6
  go_upto_block 0 with (first
    | (go_at_call 15; refine (HN.out _).mono ?_; rintro e w1 ⟨q, rfl, hg1, hv1⟩; have HX1 := hid ((Rec.new w 25 [.slice A1 N1 l1, .slice A2 N2 l2, .slice A3 N3 l3]).gr hg1); have HG1 := hid hg1; have HV1 := hid hv1; clear hg1 hv1)
    | (go_at_call 16; have hneed := vm_need HV1.out 0 400 (by decide) (by decide); rw [show needE (Vm.new 400 1 400) ((0 : Nat) : Int) ((400 : Nat) : Int) = 0 from need_ok] at hneed; refine hneed.mono ?_; rintro e w2 ⟨rfl, ht2, hg2⟩; have HX2 := hid (HX1.out.touch ht2 (fun h => by simp only [World.size_alloc] at h; omega)); have HT2 := hid ht2; have HG2 := hid hg2; have x0 := HX2.out.cell (j := 0) rfl; have x1 := HX2.out.cell (j := 1) rfl; have x2 := HX2.out.cell (j := 2) rfl; clear hneed ht2 hg2))
  obtain ⟨v0, hg0, hv0⟩ := HG2.out
  obtain ⟨hfull0, hz0⟩ := full_need hg0
  have HZ0 := hid hz0
  have HF0' := hid hfull0
  have HL0 : Hid (L18 w w2 [.slice A1 N1 l1, .slice A2 N2 l2, .slice A3 N3 l3] q v0 (.slice none 0 0) []) := ⟨hfull0, ⟨_, hv0, fun i hi => by
      have hs := HG1.out.size
      rw [World.size_alloc] at hs
      rcases hi with h | h
      · rw [World.size_alloc] at h; exact h
      · omega, (fun g hg => by cases hg)⟩, HX2.out, own_nil _ _ _ _, (fun g hg => by cases hg), (((Gr.refl w).alloc _).trans HG1.out).touch _ |>.trans (HT2.out.mono (fun i _ hi => by rw [World.size_alloc] at hi; omega))⟩
  clear hg0 hv0 hfull0 hz0
  go_cut [7, 8] (fun s7 s8 wx => ∃ (t : Nat) (F : List Int) (vF : Value) (v : Vm), s7 = .int .i64 t ∧ s8 = vF ∧ Hid (L18 w wx [.slice A1 N1 l1, .slice A2 N2 l2, .slice A3 N3 l3] q v vF F) ∧ Hid (layHs x.H v0 1 [] = (v, (t : Int), F)) ∧ t ≤ 400 ∧ F.length ≤ t)
  case first =>
    go_wp2_with (fail)
    go_loopw [7, 8, 32] (fun s7 s8 s32 wr => ∃ (k t : Nat) (F : List Int) (vF : Value) (v : Vm), k ≤ N1 ∧ Hid (L18 w wr [.slice A1 N1 l1, .slice A2 N2 l2, .slice A3 N3 l3] q v vF F) ∧ Hid (layHs x.H v0 1 [] = layHs (x.H.drop k) v t F) ∧ 1 ≤ t ∧ t ≤ 400 ∧ F.length ≤ t ∧ s7 = .int .i64 t ∧ s8 = vF ∧ s32 = .int .i64 k) (fun _ _ s32 _ => N1 - (intOf s32).toNat)
    case atStart => exact ⟨0, 1, [], _, v0, by omega, HL0, ⟨rfl⟩, by omega, by omega, by simp, rfl, rfl, rfl⟩
    case round =>
      obtain ⟨k, t, F, vF, v, hk, HL, HE, ht1, ht2, hF, rfl, rfl, rfl⟩ := hrel
      clear x0 x1 x2 HL0
      by_cases hlast : k = N1
      · subst hlast
        go_wp2
        go_meet
        exact ⟨t, F, _, v, rfl, rfl, HL, ⟨by rw [HE.out, HN1.out, List.drop_length]; rfl⟩, ht2, hF⟩
      · have hkl : k < x.H.length := by have := HN1.out; omega
        obtain ⟨b, o, rfl, hb, e0, e1, e2⟩ := H1.out k hkl
        have HDR : Hid (x.H.drop k = x.H[k] :: x.H.drop (k + 1)) := ⟨List.drop_eq_getElem_cons hkl⟩
        obtain ⟨⟨p, f, c⟩, hh⟩ : ∃ h, h = x.H[k] := ⟨_, rfl⟩
        rw [← hh] at e0 e1 e2 HDR
        have HTT := hid HL.out.t
        have i0 := (HTT.out.cell hb (by omega) (o + k * 3)).trans e0
        have i1 := (HTT.out.cell hb (by omega) (o + k * 3 + 1)).trans e1
        have i2 := (HTT.out.cell hb (by omega) (o + k * 3 + 2)).trans e2
        obtain ⟨SV, hvm, hsv, hnv⟩ := HL.out.vm
        have HVC := hid (hvm.cut.gr ((Gr.refl wr).alloc (.cells #[.int .i64 p, .int .i64 f, .int .i64 c] 52)))
        have HSV := hid (And.intro hsv hnv)
        have HKN := hid (And.intro hk hlast)
        have hkN : (k : Int) < (N1 : Int) := by omega
        clear hb e0 e1 e2 hh hvm hsv hnv hkl hlast
        by_cases hr : mkRes v t ⟨p, f, c⟩ = 0
        · obtain ⟨p, f, c, hh, hs, hmk⟩ := mkRes_zero hr
          simp only [Hdr.mk.injEq] at hh
          obtain ⟨rfl, rfl, rfl⟩ := hh
          have htl := mkE_full HL.out.full hmk
          have HR := hid hr
          have hN : hdrN ⟨p, f, c⟩ = 1 + (p : Int) + f + c := if_pos (hdrE_of hs)
          have HHN := hid hN
          have HSZ := hid (fun W => hdr_size ⟨p, f, c⟩ W)
          rw [hN] at HSZ
          unfold hdrV at HSZ
          obtain ⟨ii, hii, hi0, hi1, hi2⟩ := info_parts infoIntV
          have HRH := hid (Rec.new wr 52 [.int .i64 p, .int .i64 f, .int .i64 c])
          clear hr hN hmk
          go_wp2_with (go_at_call 17; refine (obj_make HVC.out (t : Int) ⟨p, f, c⟩).mono ?_; rintro e w1 ⟨rfl, ht1, hv1⟩; rw [HR.out]; have hrh := HRH.out.touch ht1 (fun h => absurd h.2 (Nat.lt_irrefl _)); have j0 := hrh.cell (j := 0) rfl; have HRH1 := hid hrh; have HT1 := hid ht1; have HV1 := hid hv1; clear ht1 hv1 hrh)
          have HL1 : Hid (L18 w w1 [.slice (some ⟨b, o, none⟩) N1 l1, .slice A2 N2 l2, .slice A3 N3 l3] q (mkVm v t ⟨p, f, c⟩) _ F) := ⟨(HL.out.gr ((Gr.refl wr).alloc _)).turn (fun i hi => HSV.out.1 i hi.1) (fun g hg hi => HSV.out.2 g hg hi.1) (HL.out.full.mkVm _ _) HT1.out HV1.out⟩
          obtain ⟨bh, hbh⟩ : ∃ bh, bh = wr.heap.size := ⟨_, rfl⟩
          rw [← hbh] at j0 HRH1 ⊢
          have hwz := HL.out.t.size
          have hxl := HL.out.rx.lt
          have HBH : Hid (w.heap.size + 1 ≤ bh) := ⟨by omega⟩
          clear i0 i1 i2 hbh
          go_loopw [8, 44] (fun s8 s44 wy => ∃ (j : Nat) (vG : Value), j ≤ p ∧ Hid (L18 w wy [.slice (some ⟨b, o, none⟩) N1 l1, .slice A2 N2 l2, .slice A3 N3 l3] q (mkVm v t ⟨p, f, c⟩) vG (F ++ (List.range j).map fun i : Nat => (t : Int) + 1 + (i : Int))) ∧ Hid (Rec wy bh 52 [.int .i64 p, .int .i64 f, .int .i64 c]) ∧ s8 = vG ∧ s44 = .int .i64 j) (fun _ s44 _ => p - (intOf s44).toNat)
          case atStart => exact ⟨0, _, by omega, ⟨by simpa using HL1.out⟩, HRH1, rfl, rfl⟩
          case round =>
            obtain ⟨j, vG, hj, HG, HQ, rfl, rfl⟩ := hrel
            clear j0
            by_cases hjl : j = p
            · subst hjl
              have j0 := HQ.out.cell (j := 0) rfl
              have j1 := HQ.out.cell (j := 1) rfl
              have j2 := HQ.out.cell (j := 2) rfl
              go_wp2_with (go_at_call 18; refine (HSZ.out _).mono ?_; rintro e w3 ⟨rfl, hg3⟩; have HG3 := hid hg3; clear hg3)
              go_round
              case rel =>
                refine ⟨k + 1, t + (1 + j + f + c), F ++ (List.range j).map (fun i : Nat => (t : Int) + 1 + (i : Int)), _, mkVm v t ⟨j, f, c⟩, by have := HKN.out; omega, ⟨HG.out.gr HG3.out⟩, ⟨?_⟩, by omega, by omega, by simp; omega, by go_num, rfl, by go_num⟩
                rw [HE.out, HDR.out, layHs_cons, if_pos HR.out, HHN.out]
                have e1 : (t : Int) + (1 + (j : Int) + f + c) = ((t + (1 + j + f + c) : Nat) : Int) := by push_cast; omega
                rw [e1]
                rfl
              case measure => have := HKN.out; simp [intOf]; omega
            · obtain ⟨GL, hGL⟩ : ∃ GL, GL = F ++ (List.range j).map (fun i : Nat => (t : Int) + 1 + (i : Int)) := ⟨_, rfl⟩
              have hlen : GL.length = F.length + j := by rw [hGL]; simp
              have HGS : Hid (F ++ (List.range (j + 1)).map (fun i : Nat => (t : Int) + 1 + (i : Int)) = GL ++ [(t : Int) + 1 + (j : Int)]) := ⟨by rw [hGL, List.range_succ, List.map_append, List.append_assoc]; rfl⟩
              rw [← hGL] at HG
              have hown := HG.out.own
              obtain ⟨A, cc, rfl, hc1, hc2⟩ := own_shape hown
              unfold maxLen at hc2
              have HO := hid hown
              obtain ⟨N, hN⟩ : ∃ N, N = GL.length := ⟨_, rfl⟩
              have hNle : N ≤ 1000 := by omega
              rw [← hN] at hc1 HO
              have HNN := hid hN
              have HGN : Hid (L18 w wr [.slice (some ⟨b, o, none⟩) N1 l1, .slice A2 N2 l2, .slice A3 N3 l3] q (mkVm v t ⟨p, f, c⟩) (.slice A N cc) GL) := ⟨by rw [hN]; exact HG.out⟩
              have HJ := hid (And.intro hj hjl)
              have hjp : (j : Int) < (p : Int) := by omega
              clear hown hGL hlen hjl HG
              rw [← hN]
              clear hN
              go_wp2_with (at_builtin; refine wpList_append_lies _ rfl _ _ 23 rfl 0 3 ii _ 1 8 Tryz.underlying23 hii hi0 hi1 hi2 rfl (by decide) (.slice A N cc) N (zs GL) rfl (HO.out.alloc _) ⟨wr.heap.size, 0, none⟩ 1 1 [.int .i64 ((t : Int) + 1 + (j : Int))] rfl rfl (World.news_of_block (cs := #[.int .i64 ((t : Int) + 1 + (j : Int))]) (t := 3) (fr := (0, 0)) (heap_alloc_new wr (.cells #[.int .i64 ((t : Int) + 1 + (j : Int))] 3))) (by simp [Value.oneCell']) (by omega) (by unfold maxLen; omega) (by omega) (Nat.zero_le _) (wr.heap.size + 1) (by simp) ?_; intro g3 c3 w3 hown3 hgrow3 hat3 hlt3; have t3 : Touch (fun k => (Value.slice A N cc).ownBlock = some k) wr w3 := (((Gr.refl _).alloc _).touch _).trans (grown_touch hgrow3 _ (fun k e _ => e)); have HT3 := hid t3; have HO3 := hid hown3; have HA3 := hid hat3; clear hown3 hgrow3 hat3 hlt3 t3)
              go_round
              case rel =>
                refine ⟨j + 1, .slice (some ⟨g3, 0, none⟩) (N + 1) c3, by have := HJ.out; omega, ⟨?_⟩, ⟨HQ.out.touch HT3.out (fun e => own_ne HO.out HQ.out (by decide) e rfl rfl)⟩, rfl, by go_num⟩
                rw [HGS.out]
                exact HGN.out.app HNN.out HT3.out HO3.out (HA3.out.imp id (fun h => by omega))
              case measure => have := HJ.out; simp [intOf]; omega
        · have HR := hid hr
          obtain ⟨r, hre⟩ : ∃ r, r = mkRes v t ⟨p, f, c⟩ := ⟨_, rfl⟩
          have d0 : (r == 0) = false := by rw [hre]; simpa using hr
          have HRE := hid hre
          clear hr hre
          go_wp2_with (go_at_call 17; refine (obj_make HVC.out (t : Int) ⟨p, f, c⟩).mono ?_; rintro e w1 ⟨rfl, ht1, hv1⟩; rw [← HRE.out]; have HT1 := hid ht1; have HV1 := hid hv1; clear ht1 hv1)
          go_meet
          have hL1 := HL.out.gr ((Gr.refl wr).alloc (.cells #[.int .i64 p, .int .i64 f, .int .i64 c] 52))
          refine ⟨t, F, _, v, rfl, rfl, ⟨hL1.turn (fun i hi => HSV.out.1 i hi.1) (fun g hg hi => HSV.out.2 g hg hi.1) HL.out.full HT1.out ?_⟩, ⟨?_⟩, ht2, hF⟩
          · have := HV1.out
            rw [show mkVm v t ⟨p, f, c⟩ = v from if_neg HR.out] at this
            exact this
          · rw [HE.out, HDR.out, layHs_cons, if_neg HR.out]
  case rest =>
    obtain ⟨t, F, vF, v, rfl, rfl, HL, HE, ht, hF⟩ := hcut
    have y1 := HL.out.rx.cell (j := 1) rfl
    obtain ⟨A, cc, rfl, hc1, hc2⟩ := own_shape HL.out.own
    unfold maxLen at hc2
    obtain ⟨N, hN⟩ : ∃ N, N = F.length := ⟨_, rfl⟩
    have HNF := hid hN
    rw [← hN] at hc1 HL hF ⊢
    clear hN x0 x1 x2 HL0 HX2 HX1
    go_upto_block 4 with (fail)
    go_cut [] (fun wx => ∃ (v' : Vm), Hid (L18 w wx [.slice A1 N1 l1, .slice A2 N2 l2, .slice A3 N3 l3] q v' (.slice A N cc) F) ∧ Hid (v' = if F = [] then v else layPs x.P F v (N2 / 2)))
    case first =>
      by_cases h0 : N = 0
      · subst h0
        have HF0 := hid (List.eq_nil_of_length_eq_zero HNF.out.symm)
        go_wp2_with (fail)
        go_loopw [12] (fun s12 wr => wr = wc ∧ s12 = .int .i64 0) (fun _ _ => 0)
        case atStart => exact ⟨rfl, rfl⟩
        case round =>
          obtain ⟨rfl, rfl⟩ := hrel
          by_cases h2 : 1 < N2
          · have d0 : decide (1 < N2) = true := decide_eq_true h2
            go_wp2
            go_meet
            exact ⟨v, HL, ⟨by rw [HF0.out, if_pos rfl]⟩⟩
          · have d0 : decide (1 < N2) = false := decide_eq_false h2
            go_wp2
            go_meet
            exact ⟨v, HL, ⟨by rw [HF0.out, if_pos rfl]⟩⟩
      · have HF0 : Hid (F ≠ []) := ⟨fun e => h0 (by rw [HNF.out, e]; rfl)⟩
        have hNp : decide (0 < N) = true := decide_eq_true (by omega)
        go_wp2_with (fail)
        go_loopw [12] (fun s12 wr => ∃ (k i : Nat) (v' : Vm), Hid (i = 2 * k) ∧ k ≤ N2 / 2 ∧ Hid (L18 w wr [.slice A1 N1 l1, .slice A2 N2 l2, .slice A3 N3 l3] q v' (.slice A N cc) F) ∧ Hid (v' = layPs x.P F v k) ∧ s12 = .int .i64 i) (fun s12 _ => N2 + 1 - (intOf s12).toNat)
        case atStart => exact ⟨0, 0, v, ⟨rfl⟩, by omega, HL, ⟨rfl⟩, rfl⟩
        case round =>
          obtain ⟨k, i, v', HI, hk, HLk, HEk, rfl⟩ := hrel
          have hi := HI.out
          have hib : i ≤ 9223372036854775806 := by omega
          clear y1
          have y1 := HLk.out.rx.cell (j := 1) rfl
          by_cases hlast : i + 1 < N2
          · have d0 : decide ((i : Int) + 1 < (N2 : Int)) = true := decide_eq_true (by omega)
            have d1 : decide (i + 1 < N2) = true := decide_eq_true hlast
            have hil : i < x.P.length := by have := HN2.out; omega
            have hil1 : i + 1 < x.P.length := by have := HN2.out; omega
            obtain ⟨b, o, rfl, hb, e0⟩ := H2.out i hil
            obtain ⟨b', o', hbo, -, e1⟩ := H2.out (i + 1) hil1
            simp only [Option.some.injEq, Addr.mk.injEq, and_true] at hbo
            obtain ⟨rfl, rfl⟩ := hbo
            have HTT := hid HLk.out.t
            have i0 := (HTT.out.cell hb (by omega) (o + i)).trans e0
            have i1 := (HTT.out.cell hb (by omega) (o + (i + 1))).trans e1
            obtain ⟨pi, hpi⟩ : ∃ p, p = x.P[i] := ⟨_, rfl⟩
            obtain ⟨pj, hpj⟩ : ∃ p, p = x.P[i + 1] := ⟨_, rfl⟩
            rw [← hpi] at i0
            rw [← hpj] at i1
            have HPI : Hid (x.P.getD (2 * k) 0 = pi ∧ x.P.getD (2 * k + 1) 0 = pj) := ⟨by rw [← hi, hpi, hpj, List.getD_eq_getElem?_getD, List.getElem?_eq_getElem hil, List.getD_eq_getElem?_getD, List.getElem?_eq_getElem hil1]; exact ⟨rfl, rfl⟩⟩
            have g1 : pi % 18446744073709551616 = ((u64I pi : Nat) : Int) := by unfold u64I; omega
            have g2 : pj % 18446744073709551616 = ((u64I pj : Nat) : Int) := by unfold u64I; omega
            have HUJ := hid (u64I_lt pj)
            have HUI := hid (u64I_lt pi)
            obtain ⟨ui, hui⟩ : ∃ u, u = u64I pi := ⟨_, rfl⟩
            obtain ⟨uj, huj⟩ : ∃ u, u = u64I pj := ⟨_, rfl⟩
            rw [← hui] at g1 HUI
            rw [← huj] at g2 HUJ
            obtain ⟨r, hr⟩ : ∃ r, r = ui % N := ⟨_, rfl⟩
            have g3 : (ui : Int) % (N : Int) = (r : Int) := by rw [hr]; rfl
            have g4 : (ui : Int).tmod (N : Int) = (r : Int) := by rw [hr]; rfl
            have hrN : r < N := by rw [hr]; exact Nat.mod_lt _ (by omega)
            have hNz : (N : Int) ≠ 0 := by omega
            have hown := HLk.out.own
            rw [← HNF.out] at hown
            obtain ⟨g, c', ea, -, -, -, -⟩ := own_form hown h0
            simp only [Value.slice.injEq] at ea
            obtain ⟨rfl, -, rfl⟩ := ea
            have hrF : r < F.length := by rw [← HNF.out]; exact hrN
            have kr := own_cell hown (j := r) (u := .int .i64 F[r]) (by simp [zs, hrF])
            have hgl := (own_lt hown (g := g) rfl).2
            obtain ⟨fr, hfr⟩ : ∃ f, f = F[r] := ⟨_, rfl⟩
            rw [← hfr] at kr
            have hxl := HLk.out.rx.lt
            have hbl : b < wr.heap.size := Nat.lt_of_lt_of_le hb HTT.out.size
            have HST : Hid (layPs x.P F v (k + 1) = v'.st fr uj) := ⟨by
              show (layPs x.P F v k).st _ _ = _
              rw [HPI.out.1, HPI.out.2, ← hui, ← huj, ← HNF.out, ← hr, ← HEk.out, hfr, List.getD_eq_getElem?_getD, List.getElem?_eq_getElem hrF]
              rfl⟩
            obtain ⟨SV, hvm, hsv, hnv⟩ := HLk.out.vm
            have HVC := hid hvm.cut
            have HSV := hid (And.intro hsv hnv)
            have KS : Hid (∀ W', Gr wr W' → W'.cell? ⟨w.heap.size, 1, none⟩ = some (.slice (some ⟨b, o, none⟩) N2 l2) ∧ W'.cell? ⟨b, o + i, none⟩ = some (.int .i64 pi) ∧ W'.cell? ⟨b, o + (i + 1), none⟩ = some (.int .i64 pj) ∧ W'.cell? ⟨g, r, none⟩ = some (.int .i64 fr)) :=
              ⟨fun W' h => ⟨(h.cell hxl 1).trans y1, (h.cell hbl _).trans i0, (h.cell hbl _).trans i1, (h.cell hgl r).trans kr⟩⟩
            have hiI : (i : Int) < (N2 : Int) := by omega
            have hi1I : (i : Int) + 1 < (N2 : Int) := by omega
            have hrI : (r : Int) < (N : Int) := by omega
            have hk1 : k + 1 ≤ N2 / 2 := by omega
            have hw1 : IntKind.i64.wrap ((i : Int) + 1) = (i : Int) + 1 := IntWalk.i64_in _ (by omega)
            have hw2 : ((i : Int) + 1).toNat = i + 1 := by omega
            have hw3 : (0 : Int) ≤ (i : Int) + 1 := by omega
            have hq1 : IntKind.u64.wrap pi = (ui : Int) := by rw [IntKind.wrap_u64]; exact g1
            have hq2 : IntKind.u64.wrap pj = (uj : Int) := by rw [IntKind.wrap_u64]; exact g2
            have hq3 : IntKind.u64.wrap (N : Int) = (N : Int) := by rw [IntKind.wrap_u64]; omega
            have hq4 : IntKind.u64.wrap (r : Int) = (r : Int) := by rw [IntKind.wrap_u64]; omega
            have hq5 : (N : Int) % 18446744073709551616 = (N : Int) := by omega
            clear hown kr hfr hui huj hpi hpj hb hbl hxl hgl hvm hsv hnv i0 i1 e0 e1 hr hrF hil hil1 hi hlast
            go_upto_region 20 with (fail)
            obtain ⟨Sx, hSx⟩ : ∃ Sx : World → Prop, Sx = fun W' => Gr wr W' := ⟨_, rfl⟩
            have z1 : ∀ p : Held Sx, p.w.cell? ⟨w.heap.size, 1, none⟩ = some (.slice (some ⟨b, o, none⟩) N2 l2) := fun p => (KS.out _ (Held.get hSx p)).1
            have z2 : ∀ p : Held Sx, p.w.cell? ⟨b, o + i, none⟩ = some (.int .i64 pi) := fun p => (KS.out _ (Held.get hSx p)).2.1
            have z3 : ∀ p : Held Sx, p.w.cell? ⟨b, o + (i + 1), none⟩ = some (.int .i64 pj) := fun p => (KS.out _ (Held.get hSx p)).2.2.1
            have z4 : ∀ p : Held Sx, p.w.cell? ⟨g, r, none⟩ = some (.int .i64 fr) := fun p => (KS.out _ (Held.get hSx p)).2.2.2
            have hS0 : Sx wr.drew := by rw [hSx]; exact (Gr.refl wr).drew
            have inst : Inhabited (Held Sx) := ⟨⟨_, hS0⟩⟩
            clear hSx
            refine wp_region_mixS Sx 21 [([0, 1, 2, 3, 4, 5, 6, 7, 8, 9, 10, 11, 12, 13, 14, 15, 16, 17, 18, 19, 20], 21)] [] (by kernel_rfl) (by kernel_rfl) hS0 ?_
            refine segs_step ?_
            simp only [opsAt, List.getElem?_cons_zero, List.getElem?_cons_succ]
            repeat (go_big_quiet_step (fail))
            refine wpQuiet_nil ?_
            go_wp2_with (go_at_call 19; refine (vm_store (HVC.out.gr (Gr.refl wr).drew) fr HUJ.out).mono ?_; rintro e w3 ⟨rfl, ht3, hv3⟩; have HT3 := hid ht3; have HV3 := hid hv3; clear ht3 hv3)
            refine ⟨.inl trivial, ?_⟩
            refine segs_end ?_
            refine wpQuiet_nil ?_
            refine NoPanic.normal ?_
            clear z1 z2 z3 z4 hS0 inst
            clear Sx
            go_wp2
            go_round
            case rel =>
              refine ⟨k + 1, i + 2, v'.st fr uj, ⟨by have := HI.out; omega⟩, hk1, ⟨?_⟩, ⟨HST.out.symm⟩, by go_num⟩
              exact (HLk.out.gr (Gr.refl wr).drew).turn (fun j hj => HSV.out.1 j hj.1) (fun gg hg hj => HSV.out.2 gg hg hj.1) (HLk.out.full.st _ HUJ.out) HT3.out (HV3.out.mono (fun j hj => .inl hj))
            case measure => simp [intOf]; omega
          · have d0 : decide ((i : Int) + 1 < (N2 : Int)) = false := decide_eq_false (by omega)
            have hl2 : ¬ (i + 1 < N2) := hlast
            have hl3 : N2 ≤ i + 1 := by omega
            have d1 : decide (i + 1 < N2) = false := decide_eq_false hlast
            have hkk : k = N2 / 2 := by omega
            have HKK := hid hkk
            clear hkk hi
            go_wp2
            go_meet
            exact ⟨v', HLk, ⟨by rw [HEk.out, if_neg HF0.out, HKK.out]⟩⟩
    case rest =>
      obtain ⟨v', HL', HE'⟩ := hcut
      clear y1 hc1 hc2 hF
      have y2 := HL'.out.rx.cell (j := 2) rfl
      go_upto_block 6 with (fail)
      go_cut [] (fun wx => ∃ (v2 : Vm), Hid (L18 w wx [.slice A1 N1 l1, .slice A2 N2 l2, .slice A3 N3 l3] q v2 (.slice A N cc) F) ∧ Hid (v2 = layWs x.W v' (N3 / 2)))
      case first =>
        go_wp2_with (fail)
        go_loopw [13] (fun s13 wr => ∃ (k i : Nat) (v2 : Vm), Hid (i = 2 * k) ∧ k ≤ N3 / 2 ∧ Hid (L18 w wr [.slice A1 N1 l1, .slice A2 N2 l2, .slice A3 N3 l3] q v2 (.slice A N cc) F) ∧ Hid (v2 = layWs x.W v' k) ∧ s13 = .int .i64 i) (fun s13 _ => N3 + 1 - (intOf s13).toNat)
        case atStart => exact ⟨0, 0, v', ⟨rfl⟩, by omega, HL', ⟨rfl⟩, rfl⟩
        case round =>
          obtain ⟨k, i, v2, HI, hk, HLk, HEk, rfl⟩ := hrel
          have hi := HI.out
          have hib : i ≤ 9223372036854775806 := by omega
          clear y2
          have y2 := HLk.out.rx.cell (j := 2) rfl
          by_cases hlast : i + 1 < N3
          · have d0 : decide ((i : Int) + 1 < (N3 : Int)) = true := decide_eq_true (by omega)
            have d1 : decide (i + 1 < N3) = true := decide_eq_true hlast
            have hil : i < x.W.length := by have := HN3.out; omega
            have hil1 : i + 1 < x.W.length := by have := HN3.out; omega
            obtain ⟨b, o, rfl, hb, e0⟩ := H3.out i hil
            obtain ⟨b', o', hbo, -, e1⟩ := H3.out (i + 1) hil1
            simp only [Option.some.injEq, Addr.mk.injEq, and_true] at hbo
            obtain ⟨rfl, rfl⟩ := hbo
            have HTT := hid HLk.out.t
            have i0 := (HTT.out.cell hb (by omega) (o + i)).trans e0
            have i1 := (HTT.out.cell hb (by omega) (o + (i + 1))).trans e1
            obtain ⟨pi, hpi⟩ : ∃ p, p = x.W[i] := ⟨_, rfl⟩
            obtain ⟨pj, hpj⟩ : ∃ p, p = x.W[i + 1] := ⟨_, rfl⟩
            rw [← hpi] at i0
            rw [← hpj] at i1
            have HPI : Hid (x.W.getD (2 * k) 0 = pi ∧ x.W.getD (2 * k + 1) 0 = pj) := ⟨by rw [← hi, hpi, hpj, List.getD_eq_getElem?_getD, List.getElem?_eq_getElem hil, List.getD_eq_getElem?_getD, List.getElem?_eq_getElem hil1]; exact ⟨rfl, rfl⟩⟩
            have g1 : pi % 18446744073709551616 = ((u64I pi : Nat) : Int) := by unfold u64I; omega
            have g2 : pj % 18446744073709551616 = ((u64I pj : Nat) : Int) := by unfold u64I; omega
            have HUJ := hid (u64I_lt pj)
            have HUI := hid (u64I_lt pi)
            obtain ⟨ui, hui⟩ : ∃ u, u = u64I pi := ⟨_, rfl⟩
            obtain ⟨uj, huj⟩ : ∃ u, u = u64I pj := ⟨_, rfl⟩
            rw [← hui] at g1 HUI
            rw [← huj] at g2 HUJ
            obtain ⟨r, hr⟩ : ∃ r, r = ui % 400 := ⟨_, rfl⟩
            have g3 : (ui : Int) % (400 : Int) = (r : Int) := by rw [hr]; rfl
            have g4 : (ui : Int).tmod (400 : Int) = (r : Int) := by rw [hr]; rfl
            have hrN : r < 400 := by rw [hr]; exact Nat.mod_lt _ (by omega)
            have hxl := HLk.out.rx.lt
            have hbl : b < wr.heap.size := Nat.lt_of_lt_of_le hb HTT.out.size
            have HST : Hid (layWs x.W v' (k + 1) = v2.st r uj) := ⟨by
              show (layWs x.W v' k).st _ _ = _
              rw [HPI.out.1, HPI.out.2, ← hui, ← huj, ← hr, ← HEk.out]⟩
            obtain ⟨SV, hvm, hsv, hnv⟩ := HLk.out.vm
            have HVC := hid hvm.cut
            have HSV := hid (And.intro hsv hnv)
            have KS : Hid (∀ W', Gr wr W' → W'.cell? ⟨w.heap.size, 2, none⟩ = some (.slice (some ⟨b, o, none⟩) N3 l3) ∧ W'.cell? ⟨b, o + i, none⟩ = some (.int .i64 pi) ∧ W'.cell? ⟨b, o + (i + 1), none⟩ = some (.int .i64 pj)) :=
              ⟨fun W' h => ⟨(h.cell hxl 2).trans y2, (h.cell hbl _).trans i0, (h.cell hbl _).trans i1⟩⟩
            have hiI : (i : Int) < (N3 : Int) := by omega
            have hi1I : (i : Int) + 1 < (N3 : Int) := by omega
            have hk1 : k + 1 ≤ N3 / 2 := by omega
            have hw1 : IntKind.i64.wrap ((i : Int) + 1) = (i : Int) + 1 := IntWalk.i64_in _ (by omega)
            have hw2 : ((i : Int) + 1).toNat = i + 1 := by omega
            have hw3 : (0 : Int) ≤ (i : Int) + 1 := by omega
            have hq1 : IntKind.u64.wrap pi = (ui : Int) := by rw [IntKind.wrap_u64]; exact g1
            have hq2 : IntKind.u64.wrap pj = (uj : Int) := by rw [IntKind.wrap_u64]; exact g2
            have hq4 : IntKind.u64.wrap (r : Int) = (r : Int) := by rw [IntKind.wrap_u64]; omega
            have hq5 : IntKind.i64.wrap (r : Int) = (r : Int) := IntWalk.i64_in _ (by omega)
            clear hui huj hpi hpj hb hbl hxl hvm hsv hnv i0 i1 e0 e1 hr hil hil1 hi hlast
            go_upto_region 24 with (fail)
            obtain ⟨Sx, hSx⟩ : ∃ Sx : World → Prop, Sx = fun W' => Gr wr W' := ⟨_, rfl⟩
            have z1 : ∀ p : Held Sx, p.w.cell? ⟨w.heap.size, 2, none⟩ = some (.slice (some ⟨b, o, none⟩) N3 l3) := fun p => (KS.out _ (Held.get hSx p)).1
            have z2 : ∀ p : Held Sx, p.w.cell? ⟨b, o + i, none⟩ = some (.int .i64 pi) := fun p => (KS.out _ (Held.get hSx p)).2.1
            have z3 : ∀ p : Held Sx, p.w.cell? ⟨b, o + (i + 1), none⟩ = some (.int .i64 pj) := fun p => (KS.out _ (Held.get hSx p)).2.2
            have hS0 : Sx wr.drew := by rw [hSx]; exact (Gr.refl wr).drew
            have inst : Inhabited (Held Sx) := ⟨⟨_, hS0⟩⟩
            clear hSx
            refine wp_region_mixS Sx 16 [([0, 1, 2, 3, 4, 5, 6, 7, 8, 9, 10, 11, 12, 13, 14, 15], 16)] [] (by kernel_rfl) (by kernel_rfl) hS0 ?_
            refine segs_step ?_
            simp only [opsAt, List.getElem?_cons_zero, List.getElem?_cons_succ]
            repeat (go_big_quiet_step (fail))
            refine wpQuiet_nil ?_
            go_wp2_with (go_at_call 19; refine (vm_store (HVC.out.gr (Gr.refl wr).drew) (r : Int) HUJ.out).mono ?_; rintro e w3 ⟨rfl, ht3, hv3⟩; have HT3 := hid ht3; have HV3 := hid hv3; clear ht3 hv3)
            refine ⟨.inl trivial, ?_⟩
            refine segs_end ?_
            refine wpQuiet_nil ?_
            refine NoPanic.normal ?_
            clear z1 z2 z3 hS0 inst
            clear Sx
            go_wp2
            go_round
            case rel =>
              refine ⟨k + 1, i + 2, v2.st r uj, ⟨by have := HI.out; omega⟩, hk1, ⟨?_⟩, ⟨HST.out.symm⟩, by go_num⟩
              exact (HLk.out.gr (Gr.refl wr).drew).turn (fun j hj => HSV.out.1 j hj.1) (fun gg hg hj => HSV.out.2 gg hg hj.1) (HLk.out.full.st _ HUJ.out) HT3.out (HV3.out.mono (fun j hj => .inl hj))
            case measure => simp [intOf]; omega
          · have d0 : decide ((i : Int) + 1 < (N3 : Int)) = false := decide_eq_false (by omega)
            have hl2 : ¬ (i + 1 < N3) := hlast
            have hl3 : N3 ≤ i + 1 := by omega
            have d1 : decide (i + 1 < N3) = false := decide_eq_false hlast
            have hkk : k = N3 / 2 := by omega
            have HKK := hid hkk
            clear hkk hi
            go_wp2
            go_meet
            exact ⟨v2, HLk, ⟨by rw [HEk.out, HKK.out]⟩⟩
      case rest =>
        obtain ⟨v2, HL2, HE2⟩ := hcut
        clear y2
        have HLV : Hid (v2 = layV x v0 ∧ (t : Int) = (layHs x.H v0 1 []).2.1) := ⟨by
          unfold layV
          rw [HE.out]
          refine ⟨?_, rfl⟩
          show v2 = layWs x.W (if F = [] then v else layPs x.P F v (x.P.length / 2)) (x.W.length / 2)
          rw [← HN2.out, ← HN3.out, ← HE'.out, ← HE2.out]⟩
        have HR0 : Hid (L18R w wc q v2 0 (.slice none 0 0)) := ⟨HL2.out.full, by obtain ⟨SV, a, b, -⟩ := HL2.out.vm; exact ⟨SV, a, b, (fun g hg => by cases hg)⟩, own_nil _ _ _ _, (fun g hg => by cases hg), HL2.out.t⟩
        obtain ⟨ii, hii, hi0, hi1, hi2⟩ := info_parts infoU64
        have hwc : w.heap.size + 1 ≤ wc.heap.size := HL2.out.rx.lt
        go_wp2_with (fail)
        go_loopw [14, 15, 16, 17, 120] (fun s14 _ _ _ s120 wr => ∃ (k : Nat) (vL : Value), k ≤ 400 ∧ Hid (L18R w wr q v2 k vL) ∧ w.heap.size + 1 ≤ wr.heap.size ∧ s14 = vL ∧ s120 = .int .i64 k) (fun _ _ _ _ s120 _ => 400 - (intOf s120).toNat)
        case atStart => exact ⟨0, _, by omega, HR0, hwc, rfl, rfl⟩
        case round =>
          obtain ⟨k, vL, hk, HR, hwr, rfl, rfl⟩ := hrel
          have hown := HR.out.own
          obtain ⟨A5, c5, rfl, hc1, hc2⟩ := own_shape hown
          unfold maxLen at hc2
          by_cases hlast : k < 400
          · have d0 : decide ((k : Int) < 400) = true := decide_eq_true (by omega)
            obtain ⟨SV, hvm, hsv, hnv⟩ := HR.out.vm
            have HVM := hid hvm
            have HXB := hid (HR.out.full.ok.ldV_lt (k : Int))
            obtain ⟨y, hy⟩ : ∃ y, y = v2.ldV (k : Int) := ⟨_, rfl⟩
            have HY := hid hy
            rw [← hy] at HXB
            have HLD := hid (vm_load HVM.out (k : Int))
            rw [← hy] at HLD
            clear hy hvm hsv hnv hown
            go_wp2_with (first
              | (go_at_call 20; refine HLD.out.mono ?_; rintro e w3 ⟨rfl, hg3⟩; have HG3 := hid hg3; have HR3 := hid (HR.out.gr hg3); have hsz3 := hg3.size; clear hg3)
              | (at_builtin; refine wpList_append_lies _ rfl _ _ 30 rfl 0 33 ii _ 1 8 Tryz.underlying30 hii hi0 hi1 hi2 rfl (by decide) (.slice A5 k c5) k (wds v2 k) rfl (HR3.out.own.alloc _) ⟨w3.heap.size, 0, none⟩ 1 1 [.int .u64 (y : Nat)] rfl rfl (World.news_of_block (cs := #[.int .u64 (y : Nat)]) (t := 33) (fr := (0, 0)) (heap_alloc_new w3 (.cells #[.int .u64 (y : Nat)] 33))) (by simp [Value.oneCell']) (by omega) (by unfold maxLen; omega) (by omega) (Nat.zero_le _) (w3.heap.size + 1) (by simp) ?_; intro g4 c4 w4 hown4 hgrow4 hat4 hlt4; have t4 : Touch (fun k' => (Value.slice A5 k c5).ownBlock = some k') w3 w4 := (((Gr.refl _).alloc _).touch _).trans (grown_touch hgrow4 _ (fun k e _ => e)); have HT4 := hid t4; have HO4 := hid hown4; have HA4 := hid hat4; clear hown4 hgrow4 hat4 hlt4 t4))
            go_round
            case rel =>
              refine ⟨k + 1, _, by omega, ⟨HR3.out.app HT4.out (by rw [← HY.out]; exact HO4.out) (HA4.out.imp id (fun h => by omega)) (by omega)⟩, ?_, rfl, by go_num⟩
              have := HT4.out.size
              omega
            case measure => simp [intOf]; omega
          · have hk4 : k = 400 := by omega
            subst hk4
            clear hown
            go_wp2
            go_ret3
            obtain ⟨SV, hvm, hsv, hnv⟩ := HR.out.vm
            refine ⟨q, A5, c5, v0, cutS SV wr, ret3v rfl rfl (congrArg (Value.int .i64) HLV.out.2), (HR.out.t.mono (T := fun _ => False) (fun k hk h => by omega)).gr, HF0'.out, HZ0.out, HLV.out.1 ▸ HR.out.full, HLV.out.1 ▸ hvm.cut, HLV.out.1 ▸ HR.out.own, fun i hi => ⟨by have := hsv i hi.1; omega, hi.2⟩, fun g hg => ⟨by have := HR.out.ofr g hg; omega, fun h => hnv g hg h.1⟩⟩
end Go.Proofs.YtlkifhoedfjlaaaGreatDoor
