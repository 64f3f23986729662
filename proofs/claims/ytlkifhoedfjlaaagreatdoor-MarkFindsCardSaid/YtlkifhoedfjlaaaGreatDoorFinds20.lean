/- Layer 20: MarkFinds, the walk. -/
import Derived.Test.YtlkifhoedfjlaaaGreatDoorNobody20
import Derived.Test.YtlkifhoedfjlaaaGreatDoorTold20
import Derived.Test.YtlkifhoedfjlaaaGreatDoorRef20B
namespace Go.Proofs.YtlkifhoedfjlaaaGreatDoor
open Go.RowKit Word

/-- What a run and the reference tell together. -/
def Tell20 (v : Vm) (rs : List Int) (n : Nat) (room a b k : Int) (L : List Ob) : Prop :=
  ((room < 1 ∨ 4096 < room) ∧ k = 5 ∧ a = 0 ∧ b = 0) ∨
  (1 ≤ room ∧ room ≤ 4096 ∧ ((k = 0 ∧ a = (L.length : Nat) ∧ b = (sizes L : Nat) ∧ Marks v rs n L) ∨ (k = 25 ∧ a = 0 ∧ b = 0 ∧ L = [] ∧ ¬ Sound v rs n)))
theorem run20x {W : World} {SV : Nat → Prop} {q m p1 b1 p2 b2 B0 B1 cp n : Nat} {v : Vm} {L0 : List Ob} {A : Option Addr} {rs : List Int} (hV : VmAt W SV q v) (hE : Ext W m p1 b1 p2 b2 n L0) (hT : TabAt W) (hA : IntsOff (mine m b1 b2) W A rs) (hlen : rs.length ≤ maxLen) (hs : Sep20 SV B0 B1 m p1 b1 p2 b2) (room : Int) :
    Calls Tryz.prog 9 #[.iface 29 (.pointer (some ⟨q, 0, none⟩)), .slice A rs.length cp, .pointer (some ⟨m, 0, none⟩), .int .i64 room] W fun e w' =>
      ∃ a b r vi k : Int, e = .returned (.tuple #[.agg #[.int .i64 a, .int .i64 b, .int .i64 r, .int .i64 vi], .int .i64 k]) ∧ Touch (fun i => mine m b1 b2 i ∨ SV i) W w' ∧ ∃ L, Ext w' m p1 b1 p2 b2 n L ∧ Tell20 v rs n room a b k L ∧ (k ≠ 0 → r = 0 ∧ vi = 0) := by
  have hx : ∀ i, B1 ≤ i → ¬ SV i := fun i h1 h2 => by have := (hs.sv i h2).2; omega
  refine (mark_run hV hE hT hA hlen (fun i hi h => ?_) (hx _ hs.p1) (hx _ hs.p2) (fun h => by have := (hs.sv _ h).1; have := hs.tb; omega) (fun h => ?_) room).mono ?_
  · rcases h with rfl | rfl | rfl
    · exact hx _ hs.m hi
    · exact hx _ hs.b1 hi
    · exact hx _ hs.b2 hi
  · have h1 := hs.tb
    have h2 := hs.le
    rcases h with h | h | h
    · have := hs.m; omega
    · have := hs.b1; omega
    · have := hs.b2; omega
  · rintro e w' (⟨h, rfl, hg⟩ | ⟨h1, h2, ht, hv, (⟨L', r, vi, rfl, he, hm, hn⟩ | ⟨rfl, he, hn⟩)⟩)
    · exact ⟨0, 0, 0, 0, 5, rfl, hg.touch _, L0, hE.gr hg, .inl ⟨h, rfl, rfl, rfl⟩, fun _ => ⟨rfl, rfl⟩⟩
    · exact ⟨_, _, r, vi, 0, rfl, ht, L', he, .inr ⟨h1, h2, .inl ⟨rfl, rfl, rfl, hm⟩⟩, fun h => absurd rfl h⟩
    · exact ⟨0, 0, 0, 0, 25, rfl, ht, [], he, .inr ⟨h1, h2, .inr ⟨rfl, rfl, rfl, rfl, hn⟩⟩, fun _ => ⟨rfl, rfl⟩⟩
theorem HdrsAt.gr' {w w' : World} {A : Option Addr} {l : List Hdr} (h : HdrsAt w A l) (g : Gr w w') : HdrsAt w' A l := fun i hi => by
  obtain ⟨b, o, e, hb, k0, k1, k2⟩ := h i hi
  exact ⟨b, o, e, Nat.lt_of_lt_of_le hb g.size, (g.cell hb _).trans k0, (g.cell hb _).trans k1, (g.cell hb _).trans k2⟩
theorem IntsAt.gr' {w w' : World} {A : Option Addr} {l : List Int} (h : IntsAt w A l) (g : Gr w w') : IntsAt w' A l := fun i hi => by
  obtain ⟨b, o, e, hb, k0⟩ := h i hi
  exact ⟨b, o, e, Nat.lt_of_lt_of_le hb g.size, (g.cell hb _).trans k0⟩
set_option maxRecDepth 100000 in
set_option maxHeartbeats 6400000 in
theorem finds20_walk {w : World} (hT : TabAt w) {A1 A2 A3 AR : Option Addr} {c1 c2 c3 cr : Nat} {x : Laid} {rs : List Int} (hH : HdrsAt w A1 x.H) (hP : IntsAt w A2 x.P) (hW : IntsAt w A3 x.W) (hf : x.H.length ≤ 9223372036854775807 ∧ x.P.length ≤ 9223372036854775807 ∧ x.W.length ≤ 9223372036854775807)
    (hR : IntsAt w AR rs) (hrl : rs.length ≤ 9223372036854775807) (y z : Int) :
    Gets Tryz.prog 3 #[.agg #[.slice A1 x.H.length c1, .slice A2 x.P.length c2, .slice A3 x.W.length c3], .slice AR rs.length cr, .agg #[.int .i64 y, .int .i64 z]] w (.bool true) := by
  have HT := hid hT
  have HIN := hid (And.intro hH (And.intro hP (And.intro hW hf)))
  have HRS := hid hR
  have HF := hid (fun W => far18 A1 A2 A3 x.H.length x.P.length x.W.length c1 c2 c3 W)
  clear hT hH hP hW hf hR
  unfold Gets
  obtain ⟨N1, hN1⟩ : ∃ N, N = x.H.length := ⟨_, rfl⟩
  obtain ⟨N2, hN2⟩ : ∃ N, N = x.P.length := ⟨_, rfl⟩
  obtain ⟨N3, hN3⟩ : ∃ N, N = x.W.length := ⟨_, rfl⟩
  obtain ⟨R, hRR⟩ : ∃ N, N = rs.length := ⟨_, rfl⟩
  rw [← hN1, ← hN2, ← hN3] at HF ⊢
  rw [← hRR] at hrl ⊢
  have HNN := hid (And.intro hN1 (And.intro hN2 (And.intro hN3 hRR)))
  clear hN1 hN2 hN3 hRR
  have g1 : Gr w ((w.alloc (.cells #[.slice A1 N1 c1, .slice A2 N2 c2, .slice A3 N3 c3] 25)).alloc (.cells #[.int .i64 y, .int .i64 z] 26)) := ((Gr.refl w).alloc _).alloc _
  have r1 := (Rec.new w 25 [.slice A1 N1 c1, .slice A2 N2 c2, .slice A3 N3 c3]).gr ((Gr.refl _).alloc (.cells #[.int .i64 y, .int .i64 z] 26))
  have r2 := new2 w (.cells #[.slice A1 N1 c1, .slice A2 N2 c2, .slice A3 N3 c3] 25) 26 [.int .i64 y, .int .i64 z]
  have x0 := r1.cell (j := 0) rfl
  have x1 := r1.cell (j := 1) rfl
  have x2 := r1.cell (j := 2) rfl
  have xl := r1.lt
  have q0 := r2.cell (j := 0) rfl
  have q1 := r2.cell (j := 1) rfl
  have ql := r2.lt
  have HG1 := hid g1
  have HR1 := hid r1
  have HR2 := hid r2
  clear g1 r1 r2
  go_enter Tryz.func3, Tryz.ntmps3
  generalize farB N1 N2 N3 = fb at HF
  cases fb with
  | true =>
    go_wp2_with (first
      | (go_at_call 4; refine (HF.out _).mono ?_; rintro e w1 ⟨rfl, hg1⟩; have HG2 := hid (HG1.out.trans hg1); clear hg1)
      | (go_at_call 5; refine (lives20 (HG2.out.tab HT.out.lt HT.out)).mono ?_; rintro e w3 ⟨rfl, hg3⟩; have HG3 := hid (HG2.out.trans hg3); clear hg3))
    go_ret
    exact ⟨rfl, HG3.out⟩
  | false =>
    by_cases h60 : R ≤ 60
    · have d0 : decide (60 < (R : Int)) = false := decide_eq_false (by omega)
      have d1 : decide (60 < R) = false := decide_eq_false (by omega)
      go_upto_region 4 with (go_at_call 4; refine (HF.out _).mono ?_; rintro e w1 ⟨rfl, hg1⟩; have HG2 := hid (HG1.out.trans hg1); have HR3 := hid (HR1.out.gr hg1); have HQ3 := hid (HR2.out.gr hg1); clear hg1)
      have HRS3 := hid (HRS.out.gr' HG2.out)
      have HL := hid (lay18_walk (w := w1) (x := x) (val := .agg #[.slice A1 N1 c1, .slice A2 N2 c2, .slice A3 N3 c3]) ⟨⟨A1, c1, A2, c2, A3, c3, by rw [HNN.out.1, HNN.out.2.1, HNN.out.2.2.1], HIN.out.1.gr' HG2.out, HIN.out.2.1.gr' HG2.out, HIN.out.2.2.1.gr' HG2.out⟩, HIN.out.2.2.2⟩)
      have y0 := HR3.out.cell (j := 0) rfl
      have y1 := HR3.out.cell (j := 1) rfl
      have y2 := HR3.out.cell (j := 2) rfl
      have yl := HR3.out.lt
      have g1 : z % 18446744073709551616 = ((u64I z : Nat) : Int) := by unfold u64I; omega
      obtain ⟨ui, hui⟩ : ∃ u, u = u64I z := ⟨_, rfl⟩
      rw [← hui] at g1
      obtain ⟨r, hr⟩ : ∃ r, r = ui % 450 := ⟨_, rfl⟩
      have g3 : (ui : Int) % (450 : Int) = (r : Int) := by rw [hr]; rfl
      have g4 : (ui : Int).tmod (450 : Int) = (r : Int) := by rw [hr]; rfl
      have hrN : r < 450 := by rw [hr]; exact Nat.mod_lt _ (by omega)
      have hq1 : IntKind.u64.wrap z = (ui : Int) := by rw [IntKind.wrap_u64]; exact g1
      have hq4 : IntKind.u64.wrap (r : Int) = (r : Int) := by rw [IntKind.wrap_u64]; omega
      have hq5 : IntKind.i64.wrap (r : Int) = (r : Int) := IntWalk.i64_in _ (by omega)
      clear hui hr x0 x1 x2 q0 q1 xl ql
      go_upto_region 6 with (go_at_call 6; refine HL.out.mono ?_; rintro e w2 ⟨q, A, cp, v0, SV, rfl, hg2, hf0, hz0, hf1, hvm, hown, hsv, hsl⟩; have HGL := hid hg2; have HV := hid hvm; have HFU := hid hf1; have HW := hid hown; have HSV := hid (And.intro hsv hsl); have k1 := (HQ3.out.gr hg2).cell (j := 1) rfl; clear hg2 hf0 hz0 hf1 hvm hown hsv hsl y0 y1 y2 yl)
      obtain ⟨n, hn⟩ : ∃ n : Nat, (r : Int) + 1 = (n : Int) := ⟨r + 1, by omega⟩
      rw [hn]
      have hn1 : 1 ≤ n := by omega
      have hn2 : n ≤ 450 := by omega
      clear g1 g3 g4 hq1 hq4 hq5 hn hrN k1
      generalize layV x v0 = v at HV HFU HW
      have HX := hid (fun W => ext_new n hn1 (by omega) W)
      have HTab2 := hid ((HG2.out.trans HGL.out).tab HT.out.lt HT.out)
      go_upto_region 10 with (first
        | (go_at_call 7; refine (HX.out _).mono ?_; rintro e w3 ⟨m, p1, b1, p2, b2, rfl, hg3, he3, hb0, hb1, hb2, hb3, hb4⟩; have HG3 := hid hg3; have HE3 := hid he3; have HB := hid (And.intro hb0 (And.intro hb1 (And.intro hb2 (And.intro hb3 hb4)))); have HTab3 := hid (hg3.tab HTab2.out.lt HTab2.out); clear hg3 he3 hb0 hb1 hb2 hb3 hb4)
        | (go_at_call 8; refine (ext_add HE3.out HTab3.out 0 1).mono ?_; rintro e w4 ⟨rfl, ht4, he4⟩; have HT4 := hid ht4; have HE4 := hid he4; clear ht4 he4))
      have hsep : Sep20 SV w1.heap.size w2.heap.size m p1 b1 p2 b2 := by
        obtain ⟨a1, a2, a3, a4, a5⟩ := HB.out
        exact ⟨HSV.out.1, by have := HT.out.lt; have := HG2.out.size; omega, HGL.out.size, a1, a2, a3, a4, a5⟩
      have hmn : ∀ i, mine m b1 b2 i → w2.heap.size ≤ i := fun i hi => by
        rcases hi with rfl | rfl | rfl
        · exact hsep.m
        · exact hsep.b1
        · exact hsep.b2
      have hsn : ∀ i, SV i → w1.heap.size ≤ i ∧ i < w2.heap.size := hsep.sv
      have hs12 := HGL.out.size
      have t24 : Touch (fun i => mine m b1 b2 i ∨ SV i) w2 w4 := (HG3.out.touch _).trans (HT4.out.mono (fun i _ h => .inl h))
      have hv4 : VmAt w4 SV q v := (HV.out.gr HG3.out).touch HT4.out (fun i hi _ h => by have := hmn i h; have := (hsn i hi).2; omega)
      have htb : 0 < w1.heap.size := hsep.tb
      have ht4 : TabAt w4 := HT4.out.tab HTab3.out.lt (fun h => by have := hmn _ h; omega) HTab3.out
      have hio : IntsOff (mine m b1 b2) w4 AR rs := fun i hi => by
        obtain ⟨b, o, e, hb, k0⟩ := HRS3.out i hi
        exact ⟨b, o, e, Nat.lt_of_lt_of_le (Nat.lt_of_lt_of_le hb hs12) t24.size, fun h => by have := hmn _ h; omega, (t24.cell (Nat.lt_of_lt_of_le hb hs12) (fun h => by rcases h with h | h; (· have := hmn _ h; omega); (· have := (hsn _ h).1; omega)) _).trans ((HGL.out.cell hb _).trans k0)⟩
      have HRUN := hid (run20x (cp := cr) hv4 HE4.out ht4 hio (by unfold maxLen; have := HNN.out.2.2.2; omega) hsep y)
      rw [← HNN.out.2.2.2] at HRUN
      have H5 : Hid (∀ w5, Touch (fun i => mine m b1 b2 i ∨ SV i) w4 w5 → Gr w w5 ∧ TabAt w5 ∧ Wds w5 A cp v ∧ IntsAt w5 AR rs) := ⟨fun w5 t => by
        have t25 := t24.trans t
        refine ⟨?_, t.tab (Nat.lt_of_lt_of_le (Nat.lt_of_lt_of_le htb hs12) t24.size) (fun h => ?_) ht4, own_touch HW.out t25 (fun g hg h => ?_), fun i hi => ?_⟩
        · have tw : Touch (fun i => mine m b1 b2 i ∨ SV i) w w5 := ((HG2.out.trans HGL.out).touch _).trans t25
          refine (tw.mono (T := fun _ => False) (fun i hi h => ?_)).gr
          have := HG2.out.size
          rcases h with h | h
          · have := hmn _ h; omega
          · have := (hsn _ h).1; omega
        · rcases h with h | h
          · have := hmn _ h; omega
          · have := (hsn _ h).1; omega
        · rcases h with h | h
          · have := hmn _ h; have := (own_lt HW.out hg).2; omega
          · exact (HSV.out.2 g hg).2 h
        · obtain ⟨b, o, e, hb, k0⟩ := HRS3.out i hi
          exact ⟨b, o, e, Nat.lt_of_lt_of_le (Nat.lt_of_lt_of_le hb hs12) t25.size, (t25.cell (Nat.lt_of_lt_of_le hb hs12) (fun h => by rcases h with h | h; (· have := hmn _ h; omega); (· have := (hsn _ h).1; omega)) _).trans ((HGL.out.cell hb _).trans k0)⟩⟩
      have HMAY := hid (fun W => may19 y W)
      clear hsep hmn hsn hs12 t24 hv4 htb ht4 hio
      go_upto_region 11 with (go_at_call 9; (with_reducible refine HRUN.out.mono ?_); rintro e w5 ⟨a, b, rr, vi, k, rfl, ht5, L, he5, htell, hz⟩; obtain ⟨hg5, htab5, hw5, hi5⟩ := H5.out w5 ht5; have HG5 := hid hg5; have HTab5 := hid htab5; have HW5 := hid hw5; have HI5 := hid hi5; have HE5 := hid he5; have HTE := hid htell; have HZ := hid hz; clear ht5 hg5 htab5 hw5 hi5 he5 htell hz)
      have R5 := Rec.new w5 40 [.int .i64 a, .int .i64 b, .int .i64 rr, .int .i64 vi]
      have HR5 := hid R5
      have GA : Gr w5 (w5.alloc (.cells #[.int .i64 a, .int .i64 b, .int .i64 rr, .int .i64 vi] 40)) := (Gr.refl w5).alloc _
      have HGA := hid GA
      have s0 := R5.cell (j := 0) rfl
      have s1 := R5.cell (j := 1) rfl
      have s2 := R5.cell (j := 2) rfl
      have s3 := R5.cell (j := 3) rfl
      have sl := R5.lt
      have HRE := hid (ref20_reached (cr := cr) HFU.out (HW5.out.gr GA) (HI5.out.gr' GA) (by have := HNN.out.2.2.2; omega) hn2)
      rw [← HNN.out.2.2.2] at HRE
      unfold ReachEnd at HRE
      have HLV := hid (fun W (g : Gr w5 W) => lives20 (g.tab HTab5.out.lt HTab5.out))
      clear R5 GA H5 HRUN
      rcases HTE.out with ⟨h1, rfl, rfl, rfl⟩ | ⟨h1, h2, (⟨rfl, rfl, rfl, hM⟩ | ⟨rfl, rfl, rfl, rfl, hNS⟩)⟩
      · obtain ⟨rfl, rfl⟩ := HZ.out (by decide)
        rw [decide_eq_false (by omega)] at HMAY
        clear h1
        go_wp2_with (first
          | (go_at_call 10; refine (HMAY.out _).mono ?_; rintro e w6 ⟨rfl, rfl⟩)
          | (go_at_call 5; refine (HLV.out _ HGA.out).mono ?_; rintro e w7 ⟨rfl, hg7⟩; have HG7 := hid (HG5.out.trans (HGA.out.trans hg7)); clear hg7))
        go_ret
        exact ⟨rfl, HG7.out⟩
      · rw [decide_eq_true ⟨h1, h2⟩] at HMAY
        have HM := hid hM
        clear h1 h2 hM
        go_upto_region 16 with (first
          | (go_at_call 10; refine (HMAY.out _).mono ?_; rintro e w6 ⟨rfl, rfl⟩)
          | (go_at_call 11; refine HRE.out.mono ?_; rintro e w7 ⟨OA, oc, L', ok, rfl, hg7, hok, hno⟩; obtain rfl : ok = true := (by cases ok with | true => rfl | false => exact absurd HM.out.sound (hno rfl)); obtain ⟨hob, hm'⟩ := hok rfl; obtain rfl := hm'.unique HM.out; have HG7 := hid (HGA.out.trans hg7); have HR7 := hid (HR5.out.gr hg7); have HOB := hid hob; clear hg7 hok hno hob hm' s0 s1 s2 s3 sl))
        obtain ⟨Sx, hSx⟩ : ∃ Sx : World → Prop, Sx = fun W' => Gr w7 W' := ⟨_, rfl⟩
        have z0 : ∀ p' : Held Sx, p'.w.cell? ⟨w5.heap.size, 0, none⟩ = some (.int .i64 (L'.length : Nat)) := fun p' => (HR7.out.gr (Held.get hSx p')).cell (j := 0) rfl
        have z1 : ∀ p' : Held Sx, p'.w.cell? ⟨w5.heap.size, 1, none⟩ = some (.int .i64 (sizes L' : Nat)) := fun p' => (HR7.out.gr (Held.get hSx p')).cell (j := 1) rfl
        have hS0 : Sx w7.drew := by rw [hSx]; exact (Gr.refl w7).drew
        have HSX := hid hSx
        have inst : Inhabited (Held Sx) := ⟨⟨_, hS0⟩⟩
        clear hSx
        refine wp_region_mixS Sx 25 [([0, 1, 2, 3, 4], 5), ([6, 7, 8, 9, 10, 11, 12, 13, 14, 15, 16, 17], 18), ([19, 20, 21], 22)] [23, 24] (by kernel_rfl) (by kernel_rfl) hS0 ?_
        refine segs_step ?_
        simp only [opsAt, List.getElem?_cons_zero, List.getElem?_cons_succ]
        repeat (go_big_quiet_step (fail))
        refine wpQuiet_nil ?_
        go_wp2_with (go_at_call 13; refine (told20 (HE5.out.gr (HG7.out.trans (Gr.refl w7).drew)) ((HG7.out.trans (Gr.refl w7).drew).tab HTab5.out.lt HTab5.out) (HOB.out.gr (Gr.refl w7).drew)).mono ?_; rintro e w8 ⟨rfl, hg8⟩; have HG8 := hid ((Gr.refl w7).drew.trans hg8); clear hg8)
        refine ⟨.inr (Held.of (by rw [HSX.out]; exact HG8.out)), ?_⟩
        refine segs_step ?_
        simp only [opsAt, List.getElem?_cons_zero, List.getElem?_cons_succ]
        repeat (go_big_quiet_step (fail))
        refine wpQuiet_nil ?_
        go_wp2_with (go_at_call 14; refine (sizes13 (HOB.out.gr HG8.out) HM.out.mkd.good (by omega)).mono ?_; rintro e w9 ⟨rfl, rfl⟩)
        refine ⟨.inr (Held.of (by rw [HSX.out]; exact HG8.out)), ?_⟩
        refine segs_step ?_
        simp only [opsAt, List.getElem?_cons_zero, List.getElem?_cons_succ]
        repeat (go_big_quiet_step (fail))
        refine wpQuiet_nil ?_
        go_wp2_with (go_at_call 5; refine (HLV.out _ (HG7.out.trans HG8.out)).mono ?_; rintro e w10 ⟨rfl, hg10⟩; have HG10 := hid (HG8.out.trans hg10); clear hg10)
        refine ⟨.inr (Held.of (by rw [HSX.out]; exact HG10.out)), ?_⟩
        refine segs_end ?_
        simp only [opsAt, List.getElem?_cons_zero, List.getElem?_cons_succ]
        repeat (go_big_quiet_step (fail))
        refine wpQuiet_nil ?_
        refine NoPanic.normal ?_
        go_wp2
        go_ret
        exact ⟨rfl, HG5.out.trans (HG7.out.trans HG10.out)⟩
      · obtain ⟨rfl, rfl⟩ := HZ.out (by decide)
        rw [decide_eq_true ⟨h1, h2⟩] at HMAY
        have HNS := hid hNS
        clear h1 h2 hNS
        go_wp2_with (first
          | (go_at_call 10; refine (HMAY.out _).mono ?_; rintro e w6 ⟨rfl, rfl⟩)
          | (go_at_call 11; refine HRE.out.mono ?_; rintro e w7 ⟨OA, oc, L', ok, rfl, hg7, hok, hno⟩; obtain rfl : ok = false := (by cases ok with | false => rfl | true => exact absurd (hok rfl).2.sound HNS.out); have HG7 := hid (HGA.out.trans hg7); have HR7 := hid (HR5.out.gr hg7); have t0 := HR7.out.cell (j := 0) rfl; have t1 := HR7.out.cell (j := 1) rfl; have t2 := HR7.out.cell (j := 2) rfl; have t3 := HR7.out.cell (j := 3) rfl; have tl := HR7.out.lt; clear hg7 hok hno s0 s1 s2 s3 sl)
          | (go_at_call 12; refine (ext_objects (HE5.out.gr HG7.out)).mono ?_; rintro e w8 ⟨rfl, rfl⟩)
          | (go_at_call 5; refine (HLV.out _ HG7.out).mono ?_; rintro e w9 ⟨rfl, hg9⟩; have HG9 := hid (HG5.out.trans (HG7.out.trans hg9)); clear hg9))
        go_ret
        exact ⟨rfl, HG9.out⟩
    · have d0 : decide (60 < (R : Int)) = true := decide_eq_true (by omega)
      have d1 : decide (60 < R) = true := decide_eq_true (by omega)
      go_wp2_with (first
        | (go_at_call 4; refine (HF.out _).mono ?_; rintro e w1 ⟨rfl, hg1⟩; have HG2 := hid (HG1.out.trans hg1); clear hg1)
        | (go_at_call 5; refine (lives20 (HG2.out.tab HT.out.lt HT.out)).mono ?_; rintro e w3 ⟨rfl, hg3⟩; have HG3 := hid (HG2.out.trans hg3); clear hg3))
      go_ret
      exact ⟨rfl, HG3.out⟩
end Go.Proofs.YtlkifhoedfjlaaaGreatDoor
