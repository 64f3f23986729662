/- Layer 20: the example, and nothing is marked into a nil Map. -/
import Derived.Test.YtlkifhoedfjlaaaGreatDoorLive20P
import Derived.Test.YtlkifhoedfjlaaaGreatDoorMarkF
namespace Go.Proofs.YtlkifhoedfjlaaaGreatDoor
open Go.RowKit Word

def Run20 (W : World) (SV : Nat → Prop) (q m p1 b1 p2 b2 : Nat) (v : Vm) (L : List Ob) (e : Ending) (w' : World) : Prop :=
  ∃ r vi : Int, (L = [] → r = 1 ∧ vi = 0) ∧ e = .returned (.tuple #[.agg #[.int .i64 (L.length : Nat), .int .i64 (sizes L : Nat), .int .i64 r, .int .i64 vi], .int .i64 0]) ∧ Touch (fun i => mine m b1 b2 i ∨ SV i) W w' ∧ VmAt w' SV q v ∧ Ext w' m p1 b1 p2 b2 400 L
/-- The blocks of a memory and of a map, told apart. -/
structure Sep20 (SV : Nat → Prop) (B0 B1 m p1 b1 p2 b2 : Nat) : Prop where
  sv : ∀ i, SV i → B0 ≤ i ∧ i < B1
  tb : 0 < B0
  le : B0 ≤ B1
  m : B1 ≤ m
  p1 : B1 ≤ p1
  b1 : B1 ≤ b1
  p2 : B1 ≤ p2
  b2 : B1 ≤ b2
theorem run20 {W : World} {SV : Nat → Prop} {q m p1 b1 p2 b2 B0 B1 cp : Nat} {v : Vm} {L0 L : List Ob} {A : Option Addr} {rs : List Int} (hV : VmAt W SV q v) (hE : Ext W m p1 b1 p2 b2 400 L0) (hT : TabAt W) (hA : IntsOff (mine m b1 b2) W A rs) (hlen : rs.length ≤ maxLen) (hs : Sep20 SV B0 B1 m p1 b1 p2 b2) (hM : Marks v rs 400 L) :
    Calls Tryz.prog 9 #[.iface 29 (.pointer (some ⟨q, 0, none⟩)), .slice A rs.length cp, .pointer (some ⟨m, 0, none⟩), .int .i64 1] W (Run20 W SV q m p1 b1 p2 b2 v L) := by
  have hx : ∀ i, B1 ≤ i → ¬ SV i := fun i h1 h2 => by have := (hs.sv i h2).2; omega
  refine (mark_run hV hE hT hA hlen (fun i hi h => ?_) (hx _ hs.p1) (hx _ hs.p2) (fun h => by have := (hs.sv _ h).1; have := hs.tb; omega) (fun h => ?_) 1).mono ?_
  · rcases h with rfl | rfl | rfl
    · exact hx _ hs.m hi
    · exact hx _ hs.b1 hi
    · exact hx _ hs.b2 hi
  · have h1 := hs.tb
    have h2 := hs.le
    rcases h with h | h | h
    · have := hs.m; omega
    · have := hs.b1; omega
    · have := hs.b2; omega
  · rintro e w' (⟨h, -⟩ | ⟨-, -, ht, hv, (⟨L', r, vi, rfl, he, hm, hn⟩ | ⟨-, -, hn⟩)⟩)
    · omega
    · obtain rfl := hm.unique hM
      exact ⟨r, vi, hn, rfl, ht, hv, he⟩
    · exact absurd hM.sound hn
set_option maxRecDepth 100000 in
set_option maxHeartbeats 6400000 in
theorem lives20 {w : World} (hT : TabAt w) : Gets Tryz.prog 5 #[] w (.bool true) := by
  have HT := hid hT
  have htl := hT.lt
  clear hT
  unfold Gets
  go_enter Tryz.func5, Tryz.ntmps5
  go_upto_region 1 with (fail)
  have g1 : Gr w ((w.alloc (.cells #[.int .i64 1, .int .i64 0, .int .i64 0, .int .i64 0, .int .i64 0, .int .i64 1] 52)).alloc (.cells #[.int .i64 0, .int .i64 3] 3)) := ((Gr.refl w).alloc _).alloc _
  have r1 := (Rec.new w 52 [.int .i64 1, .int .i64 0, .int .i64 0, .int .i64 0, .int .i64 0, .int .i64 1]).gr ((Gr.refl _).alloc (.cells #[.int .i64 0, .int .i64 3] 3))
  have r2 := new2 w (.cells #[.int .i64 1, .int .i64 0, .int .i64 0, .int .i64 0, .int .i64 0, .int .i64 1] 52) 3 [.int .i64 0, .int .i64 3]
  have HL := hid (lay18_walk (w := ((w.alloc (.cells #[.int .i64 1, .int .i64 0, .int .i64 0, .int .i64 0, .int .i64 0, .int .i64 1] 52)).alloc (.cells #[.int .i64 0, .int .i64 3] 3))) (x := x20) (val := .agg #[.slice (some ⟨w.heap.size, 0, none⟩) 2 2, .slice (some ⟨w.heap.size + 1, 0, none⟩) 2 2, .slice none 0 0])
    ⟨⟨_, _, _, _, _, _, rfl, fun i hi => by
        have hi : i < 2 := hi
        refine ⟨w.heap.size, 0, rfl, r1.lt, ?_⟩
        rcases (by omega : i = 0 ∨ i = 1) with rfl | rfl
        · exact ⟨r1.cell (j := 0) rfl, r1.cell (j := 1) rfl, r1.cell (j := 2) rfl⟩
        · exact ⟨r1.cell (j := 3) rfl, r1.cell (j := 4) rfl, r1.cell (j := 5) rfl⟩, fun i hi => by
        have hi : i < 2 := hi
        refine ⟨w.heap.size + 1, 0, rfl, r2.lt, ?_⟩
        rcases (by omega : i = 0 ∨ i = 1) with rfl | rfl
        · exact r2.cell (j := 0) rfl
        · exact r2.cell (j := 1) rfl, fun i hi => absurd hi (Nat.not_lt_zero _)⟩, by decide⟩)
  have HG1 := hid g1
  have HX := hid (fun W => ext_new 400 (by decide) (by decide) W)
  clear g1 r1 r2
  go_upto_region 5 with (first
    | (go_at_call 6; refine HL.out.mono ?_; rintro e w1 ⟨q, A, cp, v0, SV, rfl, hg1, hf0, hz0, hf1, hvm, hown, hsv, hsl⟩; have HG := hid (HG1.out.trans hg1); have HGL := hid hg1; have HV := hid hvm; have HF := hid (And.intro hf0 hz0); have HSV := hid hsv; clear hg1 hf0 hz0 hf1 hvm hown hsv hsl)
    | (go_at_call 7; refine (HX.out _).mono ?_; rintro e w2 ⟨m, p1, b1, p2, b2, rfl, hg2, he2, hb0, hb1, hb2, hb3, hb4⟩; have HG2 := hid hg2; have HE2 := hid he2; have HB := hid (And.intro hb0 (And.intro hb1 (And.intro hb2 (And.intro hb3 hb4)))); clear hg2 he2 hb0 hb1 hb2 hb3 hb4))
  have hwz := HG1.out.size
  have hsep : Sep20 SV ((w.alloc (.cells #[.int .i64 1, .int .i64 0, .int .i64 0, .int .i64 0, .int .i64 0, .int .i64 1] 52)).alloc (.cells #[.int .i64 0, .int .i64 3] 3)).heap.size w1.heap.size m p1 b1 p2 b2 := by
    obtain ⟨a1, a2, a3, a4, a5⟩ := HB.out
    exact ⟨HSV.out, by omega, HGL.out.size, a1, a2, a3, a4, a5⟩
  have HSP := hid hsep
  have HVT := hid (HT.out.lt)
  have HLV := hid (live20 HF.out.1 HF.out.2)
  obtain ⟨v, hv⟩ : ∃ v, v = layV x20 v0 := ⟨_, rfl⟩
  rw [← hv] at HV HLV
  clear hv
  have o2 : ∀ (W : World) (o : Obj), w2.heap.size ≤ W.heap.size → ¬ mine m b1 b2 W.heap.size := fun W o h hm => by
    have := HE2.out.hm; have := HE2.out.v1.hb; have := HE2.out.v2.hb
    rcases hm with h' | h' | h' <;> omega
  have hTab2 : TabAt w2 := (HG.out.trans HG2.out).tab HVT.out HT.out
  have n1 := Rec.new w2 3 [.int .i64 0, .int .i64 0]
  have hr1 := (run20 (W := w2.alloc (.cells #[.int .i64 0, .int .i64 0] 3)) (cp := 2) (A := some ⟨w2.heap.size, 0, none⟩) (rs := [0, 0]) ((HV.out.gr HG2.out).gr ((Gr.refl _).alloc _)) (HE2.out.gr ((Gr.refl _).alloc _)) (((Gr.refl _).alloc _).tab hTab2.lt hTab2) (fun i hi => by
      have hi : i < 2 := hi
      refine ⟨w2.heap.size, 0, rfl, n1.lt, o2 w2 (.cells #[] 0) (Nat.le_refl _), ?_⟩
      rcases (by omega : i = 0 ∨ i = 1) with rfl | rfl
      · exact n1.cell (j := 0) rfl
      · exact n1.cell (j := 1) rfl) (by decide) HSP.out (marks_none (v := v) (n := 400) (fun r hr => by simpa using hr)))
  have HR1 : Hid (Calls Tryz.prog 9 #[.iface 29 (.pointer (some ⟨q, 0, none⟩)), .slice (some ⟨w2.heap.size, 0, none⟩) 2 2, .pointer (some ⟨m, 0, none⟩), .int .i64 1] (w2.alloc (.cells #[.int .i64 0, .int .i64 0] 3)) fun e w' =>
      e = .returned (.tuple #[.agg #[.int .i64 0, .int .i64 0, .int .i64 1, .int .i64 0], .int .i64 0]) ∧ Touch (fun i => mine m b1 b2 i ∨ SV i) (w2.alloc (.cells #[.int .i64 0, .int .i64 0] 3)) w' ∧ VmAt w' SV q v ∧ Ext w' m p1 b1 p2 b2 400 []) := ⟨hr1.mono fun e w' h => by
    obtain ⟨r, vi, hn, rfl, h1, h2, h3⟩ := h
    obtain ⟨rfl, rfl⟩ := hn rfl
    exact ⟨rfl, h1, h2, h3⟩⟩
  have HTab2 := hid hTab2
  have HO2 := hid o2
  clear hsep hTab2 n1 o2 hwz hr1
  go_upto_region 6 with (go_at_call 9; (with_reducible refine HR1.out.mono ?_); rintro e w3 ⟨rfl, ht3, hv3, he3⟩; have HT3 := hid ht3; have HV3 := hid hv3; have HE3 := hid he3; clear ht3 hv3 he3)
  have hz32 : w2.heap.size ≤ w3.heap.size := by have := HT3.out.size; rw [World.size_alloc] at this; omega
  have hTab3 : TabAt w3 := HT3.out.tab (by rw [World.size_alloc]; exact Nat.lt_succ_of_lt HTab2.out.lt) (fun h => by
    have h1 := HSP.out.tb
    have h2 := HSP.out.le
    rcases h with (h | h | h) | h
    · have := HSP.out.m; omega
    · have := HSP.out.b1; omega
    · have := HSP.out.b2; omega
    · have := (HSP.out.sv _ h).1; omega) (((Gr.refl w2).alloc _).tab HTab2.out.lt HTab2.out)
  have n6 := (Rec.new w3 40 [.int .i64 0, .int .i64 0, .int .i64 1, .int .i64 0]).gr ((Gr.refl _).alloc (.cells #[.int .i64 1] 3))
  have n7 := new2 w3 (.cells #[.int .i64 0, .int .i64 0, .int .i64 1, .int .i64 0] 40) 3 [.int .i64 1]
  have g4 : Gr w3 ((w3.alloc (.cells #[.int .i64 0, .int .i64 0, .int .i64 1, .int .i64 0] 40)).alloc (.cells #[.int .i64 1] 3)) := ((Gr.refl w3).alloc _).alloc _
  have s4 : ((w3.alloc (.cells #[.int .i64 0, .int .i64 0, .int .i64 1, .int .i64 0] 40))).heap.size = w3.heap.size + 1 := by rw [World.size_alloc]
  have hr2 := (run20 (W := (w3.alloc (.cells #[.int .i64 0, .int .i64 0, .int .i64 1, .int .i64 0] 40)).alloc (.cells #[.int .i64 1] 3)) (cp := 1) (A := some ⟨w3.heap.size + 1, 0, none⟩) (rs := [1]) (HV3.out.gr g4) (HE3.out.gr g4) (g4.tab hTab3.lt hTab3) (fun i hi => by
      have hi : i < 1 := hi
      refine ⟨w3.heap.size + 1, 0, rfl, n7.lt, by have := HO2.out _ (.cells #[] 0) (by rw [s4]; omega); rw [s4] at this; exact this, ?_⟩
      obtain rfl : i = 0 := by omega
      exact n7.cell (j := 0) rfl) (by decide) HSP.out HLV.out)
  have HR2 : Hid (Calls Tryz.prog 9 #[.iface 29 (.pointer (some ⟨q, 0, none⟩)), .slice (some ⟨w3.heap.size + 1, 0, none⟩) 1 1, .pointer (some ⟨m, 0, none⟩), .int .i64 1] ((w3.alloc (.cells #[.int .i64 0, .int .i64 0, .int .i64 1, .int .i64 0] 40)).alloc (.cells #[.int .i64 1] 3)) fun e w' =>
      ∃ r vi : Int, e = .returned (.tuple #[.agg #[.int .i64 2, .int .i64 4, .int .i64 r, .int .i64 vi], .int .i64 0]) ∧ Touch (fun i => mine m b1 b2 i ∨ SV i) ((w3.alloc (.cells #[.int .i64 0, .int .i64 0, .int .i64 1, .int .i64 0] 40)).alloc (.cells #[.int .i64 1] 3)) w') := ⟨hr2.mono fun e w' h => by
    obtain ⟨r, vi, -, rfl, h1, -⟩ := h
    exact ⟨r, vi, rfl, h1⟩⟩
  have HN6 : Hid (∀ w', Touch (fun i => mine m b1 b2 i ∨ SV i) ((w3.alloc (.cells #[.int .i64 0, .int .i64 0, .int .i64 1, .int .i64 0] 40)).alloc (.cells #[.int .i64 1] 3)) w' → Rec w' w3.heap.size 40 [.int .i64 0, .int .i64 0, .int .i64 1, .int .i64 0]) := ⟨fun w' t => n6.touch t (fun h => by
    rcases h with h | h
    · exact HO2.out w3 (.cells #[] 0) hz32 h
    · have := (HSP.out.sv _ h).2; have := HG2.out.size; omega)⟩
  have HFIN : Hid (∀ w', Touch (fun i => mine m b1 b2 i ∨ SV i) ((w3.alloc (.cells #[.int .i64 0, .int .i64 0, .int .i64 1, .int .i64 0] 40)).alloc (.cells #[.int .i64 1] 3)) w' → Gr w w') := ⟨fun w' t => by
    have t1 : Touch (fun i => mine m b1 b2 i ∨ SV i) w w' := (((HG.out.trans HG2.out).alloc _).touch _).trans ((HT3.out.trans (g4.touch _)).trans t)
    refine (t1.mono (T := fun _ => False) (fun i hi h => ?_)).gr
    have h1 := HSP.out.le
    have h2 := HG1.out.size
    rcases h with (h | h | h) | h
    · have := HSP.out.m; omega
    · have := HSP.out.b1; omega
    · have := HSP.out.b2; omega
    · have := (HSP.out.sv _ h).1; omega⟩
  clear hTab3 n6 n7 g4 s4 hr2 hz32 htl
  go_wp2_with (go_at_call 9; (with_reducible refine HR2.out.mono ?_); rintro e w5 ⟨r, vi, rfl, ht5⟩; have HT5 := hid ht5; have R6 := HN6.out _ ht5; have y0 := R6.cell (j := 0) rfl; have y1 := R6.cell (j := 1) rfl; have y2 := R6.cell (j := 2) rfl; have y3 := R6.cell (j := 3) rfl; have yl := R6.lt; clear ht5 R6)
  go_ret
  exact ⟨rfl, (HFIN.out _ HT5.out).alloc _⟩
end Go.Proofs.YtlkifhoedfjlaaaGreatDoor
