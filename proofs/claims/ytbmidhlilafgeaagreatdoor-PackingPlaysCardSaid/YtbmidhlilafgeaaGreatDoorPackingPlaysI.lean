/- Part 9 of what PackingPlays leans on: my own lemmas, merged by shake.py. -/
import Derived.Test.YtbmidhlilafgeaaGreatDoorPackingPlaysH
section
namespace Go.Proofs.YtbmidhlilafgeaaGreatDoor
open Go.RowKit Word

theorem over_nonneg (o : Ob) (f t : Int) : 0 ≤ over o f t := by unfold over; omega
theorem overs_nonneg (L : List Ob) (f t : Int) : 0 ≤ overs L f t := by
  induction L with
  | nil => exact Int.le_refl _
  | cons o r ih => have := over_nonneg o f t; show 0 ≤ over o f t + overs r f t; omega
theorem overs_none {L : List Ob} {n tp : Nat} (hg : ∀ o ∈ L, 1 ≤ o.2 ∧ o.1 + o.2 ≤ n) : overs L tp n = 0 ↔ ∀ o ∈ L, o.1 + o.2 ≤ tp := by
  induction L with
  | nil => exact ⟨(fun _ _ h => by cases h), fun _ => rfl⟩
  | cons o r ih =>
    have h1 := over_nonneg o tp n
    have h2 := overs_nonneg r tp n
    have h3 := hg o (List.mem_cons_self ..)
    have ih := ih (fun q hq => hg q (List.mem_cons_of_mem _ hq))
    have e : overs (o :: r) tp n = over o tp n + overs r tp n := rfl
    rw [e]
    constructor
    · intro h q hq
      rcases List.mem_cons.1 hq with rfl | hq
      · have h4 : over q tp n = 0 := by omega
        unfold over at h4; omega
      · exact ih.1 (by omega) q hq
    · intro h
      have h4 := ih.2 (fun q hq => h q (List.mem_cons_of_mem _ hq))
      have h5 := h o (List.mem_cons_self ..)
      have h6 : over o tp n = 0 := by unfold over; omega
      omega
theorem starts_from {n : Nat} {o : Ob} {r : List Ob} (hg : Good n (o :: r)) {fr : Nat} (h : fr ≤ o.1) : ∀ q ∈ o :: r, fr ≤ q.1 := fun q hq => by
  rcases List.mem_cons.1 hq with rfl | hq
  · exact h
  · have := (List.pairwise_cons.1 hg.pw).1 q hq
    omega
def PkIn (v : Vm) (rs : List Int) (fr tp : Int) (L : List Ob) : Prop := Marks v rs v.n L ∧ ∀ o ∈ L, fr ≤ (o.1 : Int) ∧ (o.1 : Int) + o.2 ≤ tp
def PkReach (w : World) (S : Nat → Prop) (q : Nat) (v : Vm) (rs : List Int) (fr tp : Nat) (e : Ending) (w' : World) : Prop :=
  Touch S w w' ∧ VmAt w' (cutS S w) q v ∧
    ((∃ L m p1 b1 p2 b2, PkIn v rs fr tp L ∧ e = .returned (.tuple #[.pointer (some ⟨m, 0, none⟩), .int .i64 0]) ∧ Ext w' m p1 b1 p2 b2 v.n L ∧ w.heap.size ≤ m ∧ w.heap.size ≤ p1 ∧ w.heap.size ≤ b1 ∧ w.heap.size ≤ p2 ∧ w.heap.size ≤ b2) ∨
     ((∀ L, ¬ PkIn v rs fr tp L) ∧ e = .returned (.tuple #[.pointer none, .int .i64 25])))
section
variable {w : World} {S : Nat → Prop} {q r g : Nat} {v : Vm} {rs : List Int}
set_option maxRecDepth 100000 in
set_option maxHeartbeats 3200000 in
theorem pk_reached (hV : VmAt w S q v) (hn : v.n ≠ 0) (hR : RtAt w r g rs) (hT : TabAt w) (htS : ¬ S 0) (fr tp room : Nat) (htp : tp ≤ v.n) (hr1 : 1 ≤ room) (hr2 : room ≤ 4096) :
    Calls Tryz.prog 83 #[.pointer (some ⟨q, 0, none⟩), .pointer (some ⟨r, 0, none⟩), .int .i64 fr, .int .i64 tp, .int .i64 room] w (PkReach w S q v rs fr tp) := by
  have HV := hid hV.cut
  have HR := hid hR
  have HT := hid hT
  have HTS := hid htS
  have hn2 := hV.ok.n2
  have htl := hT.lt
  have HX := hid (fun W => ext_new v.n (by omega) (by omega) W)
  have hle := hR.le
  have HWD := hid (fun (W : World) (g : Gr w W) => vm_words (HV.out.gr g))
  have HLE := hid hle
  obtain ⟨n, hnn⟩ : ∃ n, n = v.n := ⟨_, rfl⟩
  have HNN := hid hnn
  rw [← hnn] at HX HWD htp hn2
  clear hV hR hT htS hn hle hnn
  go_enter Tryz.func83, Tryz.ntmps83
  go_upto_region 2 with (first
    | (go_at_call 33; refine (HWD.out _ (Gr.refl w)).mono ?_; rintro e w1 ⟨rfl, rfl⟩)
    | (go_at_call 131; refine (HX.out _).mono ?_; rintro e w3 ⟨m, p1, b1, p2, b2, rfl, hg3, he3, hb0, hb1, hb2, hb3, hb4⟩; have HG3 := hid hg3; have HE3 := hid he3; have HB := hid (And.intro hb0 (And.intro hb1 (And.intro hb2 (And.intro hb3 hb4)))); clear hg3 he3 hb0 hb1 hb2 hb3 hb4))
  have HMI : Hid (∀ i, mine m b1 b2 i → w.heap.size ≤ i ∧ i < w3.heap.size) := ⟨fun i hi => by
    have h1 := HE3.out.hm
    have h2 := HE3.out.v1.hb
    have h3 := HE3.out.v2.hb
    have h4 := HB.out
    rcases hi with rfl | rfl | rfl <;> omega⟩
  have HALL := hid (fun (W : World) (g : Gr w3 W) => rt_all (HR.out.gr (HG3.out.trans g)))
  have HRUN : Hid (∀ (W : World) (g1 cp : Nat), Gr w3 W → w3.heap.size ≤ g1 → W.ownsRow 0 3 1 (.slice (some ⟨g1, 0, none⟩) rs.length cp) rs.length (zs rs) → Calls Tryz.prog 132 #[.iface 31 (.pointer (some ⟨q, 0, none⟩)), .slice (some ⟨g1, 0, none⟩) rs.length cp, .pointer (some ⟨m, 0, none⟩), .int .i64 room] W fun e w' =>
      Touch (fun i => mine m b1 b2 i ∨ cutS S w i) W w' ∧ VmAt w' (cutS S w) q v ∧ ((∃ (L : List Ob) (rv vi : Int), e = .returned (.tuple #[.agg #[.int .i64 (L.length : Nat), .int .i64 (sizes L : Nat), .int .i64 rv, .int .i64 vi], .int .i64 0]) ∧ Ext w' m p1 b1 p2 b2 n L ∧ Marks v rs n L) ∨ (e = .returned (.tuple #[.agg #[.int .i64 0, .int .i64 0, .int .i64 0, .int .i64 0], .int .i64 25]) ∧ ¬ Sound v rs n))) := ⟨fun W g1 cp hg hg1 ho => by
    have hgw := HG3.out.trans hg
    refine (mark_run (HV.out.gr hgw) (HE3.out.gr hg) (hgw.tab HT.out.lt HT.out) (fun i hi => ?_) (by unfold maxLen; have := HLE.out; omega) (fun i hi h => by have := (HMI.out i h).1; have := hi.2; omega) (fun h => by have := h.2; have := HB.out; omega) (fun h => by have := h.2; have := HB.out; omega) (fun h => HTS.out h.1) (fun h => by have := (HMI.out _ h).1; have := HT.out.lt; omega) (room : Int)).mono ?_
    · exact ⟨g1, 0, rfl, (own_lt ho rfl).2, fun h => by have := (HMI.out _ h).2; omega, by rw [Nat.zero_add]; exact own_cell ho (zs_at hi)⟩
    · rintro e w' (⟨h, -⟩ | ⟨-, -, ht, hv, (⟨L, r', vi, rfl, he, hm, -⟩ | ⟨rfl, -, hs⟩)⟩)
      · omega
      · exact ⟨ht, hv, .inl ⟨L, r', vi, rfl, he, hm⟩⟩
      · exact ⟨ht, hv, .inr ⟨rfl, hs⟩⟩⟩
  have HTW : Hid (∀ W1 W2, Gr w3 W1 → Touch (fun i => mine m b1 b2 i ∨ cutS S w i) W1 W2 → Touch S w W2) := ⟨fun W1 W2 h1 h2 => ((HG3.out.trans h1).touch _).trans' h2 (fun b hb h => h.elim (fun h => by have := (HMI.out b h).1; omega) (fun h => h.1))⟩
  go_upto_region 3 with (first
    | (go_at_call 16; refine (HALL.out _ (Gr.refl w3)).mono ?_; rintro e w4 ⟨g1, c1, rfl, hg4, hgl, ho4⟩; have HG4 := hid hg4; have HO4 := hid ho4; have HL4 := hid hgl; clear hg4 ho4 hgl)
    | (go_at_call 132; refine (HRUN.out _ g1 c1 HG4.out HL4.out HO4.out).mono ?_; rintro e w5 ⟨ht5, hv5, (⟨L, rv, vi, rfl, he5, hm5⟩ | ⟨rfl, hs5⟩)⟩ <;> (have HT5 := hid (HTW.out _ _ HG4.out ht5); have HV5 := hid hv5; clear ht5 hv5)))
  · have HM5 := hid hm5
    have HZ : Hid (w.heap.size ≤ w5.heap.size) := ⟨HT5.out.size⟩
    obtain ⟨w6, hw6⟩ : ∃ w6, w6 = w5.alloc (.cells #[.int .i64 (L.length : Nat), .int .i64 (sizes L : Nat), .int .i64 rv, .int .i64 vi] 179) := ⟨_, rfl⟩
    have hg6 : Gr w5 w6 := by rw [hw6]; exact (Gr.refl w5).alloc _
    have HE6 := hid (he5.gr hg6)
    have HT6 : Hid (Touch S w w6) := ⟨HT5.out.trans (hg6.touch _)⟩
    have HV6 := hid (HV5.out.gr hg6)
    have HTB : Hid (TabAt w6) := ⟨HT.out.touch' HT6.out HTS.out⟩
    rw [← hw6]
    have HWD6 := hid (vm_words HV6.out)
    rw [← HNN.out] at HWD6
    have HLV := hid (fun (f : Int) (t : Int) (hf : f ≤ 9223372036854775807) (ht : -9223372036854775808 ≤ t) => ext_live HE6.out HTB.out f t hf ht)
    have HNT := hid (ext_next HE6.out HTB.out 0)
    clear hw6 hg6 he5 hm5
    cases L with
    | nil =>
      rw [tellO_out (by simp)] at HNT
      have HL0 := hid (HLV.out tp n (by omega) (by omega))
      rw [show overs [] (tp : Int) (n : Int) = 0 from rfl] at HL0
      go_wp2_with (first
        | (go_at_call 144; refine HNT.out.mono ?_; rintro e w7 ⟨rfl, rfl⟩)
        | (go_at_call 33; refine HWD6.out.mono ?_; rintro e w7 ⟨rfl, rfl⟩)
        | (go_at_call 145; refine HL0.out.mono ?_; rintro e w7 ⟨rfl, rfl⟩))
      go_ret2
      exact ⟨HT6.out, HV6.out, .inl ⟨[], m, p1, b1, p2, b2, ⟨by rw [← HNN.out]; exact HM5.out, fun _ h => by cases h⟩, ret2 rfl rfl, by rw [← HNN.out]; exact HE6.out, HB.out⟩⟩
    | cons o rr =>
      have hn0 : nextO (o :: rr) 0 = 0 := nextO_eq (Nat.zero_le _) (fun i _ h => absurd h (Nat.not_lt_zero _)) (fun _ => by omega)
      rw [hn0, tellO_in (by simp)] at HNT
      simp only [List.getElem_cons_zero] at HNT
      have hg := HE6.out.good
      obtain ⟨os, hos⟩ : ∃ os, os = o.1 := ⟨_, rfl⟩
      obtain ⟨oz, hoz⟩ : ∃ oz, oz = o.2 := ⟨_, rfl⟩
      rw [← hos, ← hoz] at HNT
      have HOS := hid hos
      have HGD := hid hg
      by_cases hlo : os < fr
      · have e1 : decide ((os : Int) < (fr : Int)) = true := decide_eq_true (by omega)
        have e9 : decide (os < fr) = true := decide_eq_true hlo
        have HLO := hid hlo
        clear hlo hos hoz hg hn0
        go_wp2_with (go_at_call 144; refine HNT.out.mono ?_; rintro e w7 ⟨rfl, rfl⟩)
        go_ret2
        refine ⟨HT6.out, HV6.out, .inr ⟨fun L' h => ?_, ret2 rfl rfl⟩⟩
        have h1 := h.1
        rw [← HNN.out] at h1
        have e := h1.unique HM5.out
        subst e
        have := (h.2 o (List.mem_cons_self ..)).1
        have := HOS.out
        have := HLO.out
        omega
      · have e1 : decide ((os : Int) < (fr : Int)) = false := decide_eq_false (by omega)
        have e9 : decide (os < fr) = false := decide_eq_false hlo
        have HST := hid (starts_from hg (fr := fr) (by omega))
        have HON := hid (overs_none (tp := tp) hg.sz)
        have HL0 := hid (HLV.out tp n (by omega) (by omega))
        obtain ⟨ov, hov⟩ : ∃ ov, ov = overs (o :: rr) (tp : Int) (n : Int) := ⟨_, rfl⟩
        have hov0 : 0 ≤ ov := by rw [hov]; exact overs_nonneg _ _ _
        rw [← hov] at HL0 HON
        clear hlo hos hoz hg hn0 hov
        by_cases hz : ov = 0
        · have e2 : decide (0 < ov) = false := decide_eq_false (by omega)
          have HZE := hid hz
          clear hz
          go_wp2_with (first
            | (go_at_call 144; refine HNT.out.mono ?_; rintro e w7 ⟨rfl, rfl⟩)
            | (go_at_call 33; refine HWD6.out.mono ?_; rintro e w7 ⟨rfl, rfl⟩)
            | (go_at_call 145; refine HL0.out.mono ?_; rintro e w7 ⟨rfl, rfl⟩))
          go_ret2
          refine ⟨HT6.out, HV6.out, .inl ⟨o :: rr, m, p1, b1, p2, b2, ⟨by rw [← HNN.out]; exact HM5.out, fun q hq => ?_⟩, ret2 rfl rfl, by rw [← HNN.out]; exact HE6.out, HB.out⟩⟩
          have := HST.out q hq
          have := HON.out.1 HZE.out q hq
          omega
        · have e2 : decide (0 < ov) = true := decide_eq_true (by omega)
          have HZE := hid hz
          clear hz
          go_wp2_with (first
            | (go_at_call 144; refine HNT.out.mono ?_; rintro e w7 ⟨rfl, rfl⟩)
            | (go_at_call 33; refine HWD6.out.mono ?_; rintro e w7 ⟨rfl, rfl⟩)
            | (go_at_call 145; refine HL0.out.mono ?_; rintro e w7 ⟨rfl, rfl⟩))
          go_ret2
          refine ⟨HT6.out, HV6.out, .inr ⟨fun L' h => ?_, ret2 rfl rfl⟩⟩
          have h1 := h.1
          rw [← HNN.out] at h1
          have e := h1.unique HM5.out
          subst e
          exact HZE.out (HON.out.2 fun q hq => by have := (h.2 q hq).2; omega)
  · have HS5 := hid hs5
    clear hs5
    go_wp2
    go_ret2
    refine ⟨HT5.out.trans (((Gr.refl w5).alloc _).touch _), HV5.out.gr ((Gr.refl w5).alloc _), .inr ⟨fun L' h => HS5.out ?_, ret2 rfl rfl⟩⟩
    rw [HNN.out]
    exact h.1.sound
end
end Go.Proofs.YtbmidhlilafgeaaGreatDoor
end
section
namespace Go.Proofs.YtbmidhlilafgeaaGreatDoor
open Go.RowKit Word

/-- More pages: no word is another one. -/
theorem Grown.ldV_all {v v' : Vm} {F : List Nat} (h : Grown v v' F) (hv : VmOk v) {a : Nat} (ha : a < v.n) : v'.ldV a = v.ldV a := by
  rw [h.vl a ha]
  by_cases hf : a / v.pl.pg ∈ F
  · rw [if_pos hf]
    have : v.ldE a = 12 := by rw [hv.ldE_of ha, if_pos (h.un _ hf).2]
    unfold Vm.ldV
    rw [if_neg (by rw [this]; decide)]
  · rw [if_neg hf]
theorem pk_ctx {v v1 : Vm} (h : VmOk v) {rs : List Int} {fr tp : Nat} {L : List Ob} (hI : PkIn v rs fr tp L) (h1 : 1 ≤ fr) (h2 : fr ≤ tp) (h3 : tp ≤ v.n) (hE : needE v fr ((fr + sizes L : Nat) : Int) = 0) (hG : Grown v v1 (needF v fr ((fr + sizes L : Nat) : Int))) : PkCtx v1 rs L fr tp ∧ fr + sizes L ≤ tp := by
  have hw := hG.wider h
  have hin : ∀ o ∈ L, fr ≤ o.1 ∧ o.1 + o.2 ≤ tp := fun o ho => by have := hI.2 o ho; omega
  have hall : fr + sizes L ≤ tp := by
    rcases Nat.eq_zero_or_pos L.length with h0 | h0
    · have : L = [] := List.eq_nil_of_length_eq_zero h0
      subst this
      simp only [sizes]; omega
    · have hj : L.length - 1 < L.length := by omega
      have e1 := pk_le hI.1.mkd.good (fun o ho => (hin o ho).1) hj
      have e2 := hin _ (List.getElem_mem hj)
      have e3 := sizes_take hj
      rw [show L.length - 1 + 1 = L.length by omega, List.take_length] at e3
      omega
  exact ⟨⟨hG.ok, by rw [hG.n]; exact hw.marks hI.1, hin, h1, by rw [hG.n]; exact h3, fun a ha hb => need_map h (by omega) hE hG ha hb⟩, hall⟩
/-- The first page without a word. -/
def pgUp (nt pg : Nat) : Nat := (nt + pg - 1) / pg
theorem pgUp_le {nt pg q : Nat} (hp : 1 ≤ pg) : nt ≤ q * pg ↔ pgUp nt pg ≤ q := by
  unfold pgUp
  have h1 := Nat.div_add_mod (nt + pg - 1) pg
  have h2 := Nat.mod_lt (nt + pg - 1) (show 0 < pg by omega)
  constructor
  · intro h
    have h3 : nt + pg - 1 < (q + 1) * pg := by rw [Nat.add_mul]; omega
    have := (Nat.div_lt_iff_lt_mul (show 0 < pg by omega)).2 h3
    omega
  · intro h
    have h3 := Nat.mul_le_mul_right pg h
    rw [Nat.mul_comm] at h1
    omega
/-- Where packing comes to. -/
structure PkDone (v : Vm) (rs : List Int) (fr tp : Nat) (L : List Ob) (v1 v2 : Vm) (j : Nat) : Prop where
  gr : Grown v v1 (needF v fr ((fr + sizes L : Nat) : Int))
  cx : PkCtx v1 rs L fr tp
  st : Pkd v1 v2 L fr (sizes L)
  q1 : ∀ i, i < j → (fr / v.pl.pg + i) * v.pl.pg < tp
  q2 : tp ≤ (fr / v.pl.pg + j) * v.pl.pg
/-- The memory behind it. -/
def pkUm (v v2 : Vm) (fr nt j : Nat) : Vm := umN v2 (pgUp nt v.pl.pg) (fr / v.pl.pg + j - pgUp nt v.pl.pg)
def PkEnd (w : World) (S : Nat → Prop) (q r g : Nat) (v : Vm) (rs : List Int) (fr tp room : Int) (e : Ending) (w' : World) : Prop :=
  Touch (fun b => b = g ∨ S b) w w' ∧
   ((pkArg v.n fr tp room = false ∧ e = .returned (.tuple #[.int .i64 0, .int .i64 5]) ∧ VmAt w' S q v ∧ RtAt w' r g rs) ∨
    (pkArg v.n fr tp room = true ∧
     (((∀ L, ¬ PkIn v rs fr tp L) ∧ e = .returned (.tuple #[.int .i64 0, .int .i64 25]) ∧ VmAt w' S q v ∧ RtAt w' r g rs) ∨
      ∃ (L : List Ob) (f t : Nat), PkIn v rs fr tp L ∧ fr = (f : Int) ∧ tp = (t : Int) ∧
       ((needE v f ((f + sizes L : Nat) : Int) ≠ 0 ∧ e = .returned (.tuple #[.int .i64 0, .int .i64 (needE v f ((f + sizes L : Nat) : Int))]) ∧ GrownAt w' (plus S w) q v [] ∧ RtAt w' r g rs) ∨
        (needE v f ((f + sizes L : Nat) : Int) = 0 ∧ e = .returned (.tuple #[.int .i64 ((f + sizes L : Nat) : Int), .int .i64 0]) ∧
          ∃ v1 v2 j, PkDone v rs f t L v1 v2 j ∧ VmAt w' (plus S w) q (pkUm v v2 f (f + sizes L) j) ∧ RtAt w' r g (rs.map (toV L f)))))))
section
variable {w : World} {S : Nat → Prop} {q r g : Nat} {v : Vm} {rs : List Int}
theorem vm_needs (hV : VmAt w S q v) (f t : Nat) (ht : t ≤ v.n) (hft : f ≤ t) : Calls Tryz.prog 59 #[.pointer (some ⟨q, 0, none⟩), .int .i64 f, .int .i64 t] w fun e w' => e = .returned (.int .i64 (needE v f t)) ∧ Touch S w w' ∧ GrownAt w' (plus S w) q v (needF v f t) := by
  rcases Nat.lt_or_ge f t with h | h
  · exact vm_need hV f t ht h
  · obtain rfl : f = t := by omega
    obtain ⟨e1, e2⟩ := need_none (v := v) (f := f) ht
    rw [e1, e2]
    refine (vm_need_none hV f f ht (Nat.le_refl _)).mono ?_
    rintro e w' ⟨rfl, hg⟩
    refine ⟨rfl, hg.touch _, v, ?_, (hV.gr hg).mono (fun _ h => .inl h)⟩
    exact ⟨hV.ok, rfl, rfl, rfl, rfl, List.nodup_nil, (fun _ h => by cases h), (fun _ _ => by simp), fun _ _ => by simp⟩
theorem toV_nonneg {n : Nat} {L : List Ob} (hg : Good n L) (hn : n ≤ 1048576) (base : Nat) (a : Int) : 0 ≤ toV L base a := by
  unfold toV
  split
  · have := (overs_to hg hn a).1; omega
  · exact Int.le_refl _
variable {F f n B fr : Nat} {L : List Ob}
theorem pk_turn1 {fb : Nat} (hF : Fwd w F f n B fr L) (hc : w.cell? ⟨fb, 0, none⟩ = some (.pointer (some ⟨f, 0, none⟩))) (a : Int) : Calls Tryz.prog 88 #[.int .i64 a, .pointer (some ⟨fb, 0, none⟩)] w fun e w' => e = .returned (.int .i64 (toV L fr a)) ∧ Gr w w' := by
  have HT := hid (fwd_to hF a)
  obtain ⟨y, hy⟩ : ∃ y, y = toV L fr a := ⟨_, rfl⟩
  obtain ⟨z, hz⟩ : ∃ z, z = toE L a := ⟨_, rfl⟩
  rw [← hy, ← hz] at HT
  rw [← hy]
  clear hF hy hz
  go_enter Tryz.func88, Tryz.ntmps88
  go_wp2_with (go_at_call 89; refine (HT.out).mono ?_; rintro e w1 ⟨rfl, hg1⟩; have HG1 := hid hg1; clear hg1)
  go_ret
  exact ⟨rfl, HG1.out⟩
/-- The roots, turned. -/
theorem pk_turns {fb : Nat} (hF : ∀ W, Touch (fun b => b = g) w W → Fwd W F f n B fr L) (hc : w.cell? ⟨fb, 0, none⟩ = some (.pointer (some ⟨f, 0, none⟩))) (hfb : fb ≠ g) (hR : RtAt w r g rs) (h0 : toV L fr 0 = 0) :
    Calls Tryz.prog 68 #[.pointer (some ⟨r, 0, none⟩), .func (.func 88) #[] #[.pointer (some ⟨fb, 0, none⟩)]] w fun e w' => e = .returned (.tuple #[]) ∧ Touch (fun b => b = g) w w' ∧ RtAt w' r g (rs.map (toV L fr)) := by
  refine (rt_turn (F := 88) (pre := #[]) (caps := #[.pointer (some ⟨fb, 0, none⟩)]) (fun i W out => Touch (fun b => b = g) w W ∧ out = (rs.take i).map (toV L fr)) (fun _ _ => by kernel_rfl) hR ⟨Touch.refl _ _, rfl⟩ ?_ ?_).mono ?_
  · rintro i hi W out ho ⟨t, e⟩ hz
    refine ⟨t, ?_⟩
    rw [take_snoc hi, List.map_append, ← e, hz]
    show out ++ [0] = out ++ [toV L fr 0]
    rw [h0]
  · rintro i hi W out ho ⟨t, e⟩ hrt hne W0 hg0
    have hf := hF W0 (t.trans (hg0.touch _))
    have hcl := lt_cell hc
    have hc0 := ((t.trans (hg0.touch _)).cell hcl hfb 0).trans hc
    refine (pk_turn1 hf hc0 rs[i]).mono ?_
    rintro e' W' ⟨rfl, hg'⟩
    have hb := toV_nonneg hf.good.1 hf.good.2 fr rs[i]
    refine ⟨_, rfl, (hrt.gr hg0).gr hg', fun W'' t'' => ⟨((t.trans (hg0.touch _)).trans (hg'.touch _)).trans t'', ?_⟩⟩
    rw [take_snoc hi, List.map_append, ← e, Int.max_eq_left hb]
    rfl
  · rintro e w' ⟨rfl, out, -, ⟨t, e⟩, hrt⟩
    rw [List.take_length] at e
    subst e
    exact ⟨rfl, t, hrt⟩
end
end Go.Proofs.YtbmidhlilafgeaaGreatDoor
end
section
namespace Go.Proofs.YtbmidhlilafgeaaGreatDoor
open Go.RowKit Go.Shelf Word
attribute [local go_sem] Oper.semAt_some

theorem pk_fwd {w : World} {m p1 b1 p2 b2 n : Nat} {L : List Ob} (hE : Ext w m p1 b1 p2 b2 n L) (hT : TabAt w) {f : Nat} (hf : f < 2147483648) :
    Calls Tryz.prog 84 #[.pointer (some ⟨m, 0, none⟩), .int .i64 64, .int .i64 f] w fun e w' => ∃ ff B, e = .returned (.tuple #[.pointer (some ⟨ff, 0, none⟩), .int .i64 0]) ∧ Gr w w' ∧ Fwd w' w.heap.size ff n B f L := by
  refine (fwd_new hE hT 64 f (by decide)).mono ?_
  have hb : baseOk (f : Int) = true := by unfold baseOk; rw [decide_eq_true (by omega), decide_eq_true (by omega)]; rfl
  have hk : blockOk 64 = true := by decide
  rintro e w' ⟨hg, (⟨h, -⟩ | ⟨-, ff, B, base, hB, hbase, rfl, hF⟩)⟩
  · rw [hk, hb] at h; cases h
  · obtain rfl : f = base := by omega
    exact ⟨ff, B, rfl, hg, hF⟩
/-- While pages are let go. -/
structure UmP (w8 wx : World) (S5 : Nat → Prop) (q r g : Nat) (v2 : Vm) (out : List Int) (qs q0 j pg tp : Nat) : Prop where
  t : Touch S5 w8 wx
  vm : ∃ Sj, (∀ b, Sj b → plus S5 w8 b) ∧ VmAt wx Sj q (umN v2 qs (q0 + j - qs))
  rt : RtAt wx r g out
  q1 : ∀ i, i < j → (q0 + i) * pg < tp
section
variable {w : World} {S : Nat → Prop} {q r g : Nat} {v : Vm} {rs : List Int}
set_option maxRecDepth 100000 in
set_option maxHeartbeats 12800000 in
theorem pk_run (hV : VmAt w S q v) (hn : v.n ≠ 0) (hR : RtAt w r g rs) (hT : TabAt w) (htS : ¬ S 0) (hrS : ¬ S r) (hgS : ¬ S g) (fr tp room : Int) :
    Calls Tryz.prog 28 #[.pointer (some ⟨q, 0, none⟩), .pointer (some ⟨r, 0, none⟩), .int .i64 fr, .int .i64 tp, .int .i64 room] w (PkEnd w S q r g v rs fr tp room) := by
  have HV := hid hV.cut
  have HR := hid hR
  have HT := hid hT
  have HNO := hid (And.intro htS (And.intro hrS hgS))
  have htl := hT.lt
  have hrl := hR.lt
  have hn2 := hV.ok.n2
  have hpg := hV.ok.page
  have HOK := hid hV.ok
  have HG1 := hid ((Gr.refl w).alloc (.cells #[.pointer (some ⟨q, 0, none⟩)] 31))
  have hrb := Rec.new w 31 [.pointer (some ⟨q, 0, none⟩)]
  obtain ⟨W0, hW0⟩ : ∃ W0, W0 = w.alloc (.cells #[.pointer (some ⟨q, 0, none⟩)] 31) := ⟨_, rfl⟩
  have hsz0 : W0.heap.size = w.heap.size + 1 := by rw [hW0, World.size_alloc]
  rw [show w.alloc (.cells ([.pointer (some ⟨q, 0, none⟩)] : List Value).toArray 31) = W0 from hW0.symm] at hrb
  rw [← hW0] at HG1
  have HRB := hid hrb
  have HCK := hid (pk_check (HV.out.gr HG1.out) hn (HR.out.gr HG1.out) fr tp room)
  obtain ⟨ce, hce⟩ : ∃ ce : Int, ce = if pkArg v.n fr tp room then 0 else 5 := ⟨_, rfl⟩
  rw [← hce] at HCK
  have HCE := hid hce
  have c0 := hrb.cell (j := 0) rfl
  have cl := hrb.lt
  have HNZ := hid hn
  clear hV hR hT htS hrS hgS hrb hce hn
  have hmf : ∀ (fn : Fn) (first cap : Array Value) (w : World), (Instr.makeFunc fn first cap).run Tryz.prog w = .ok (.func fn first cap) w := fun _ _ _ _ => rfl
  refine (callsIn_wide (n := 5)).1 ?_
  refine callsIn_of_wp_marks Tryz.func28 rfl trivial ?_ rfl
  simp only [Tryz.ntmps28, List.size_toArray, List.length_cons, List.length_nil, Nat.reduceAdd, Nat.reduceSub, Array.replicate_succ, Array.replicate_zero, List.push_toArray, List.append_toArray, List.nil_append, List.cons_append]
  gi_upto_region 1 with (fail)
  rw [← hW0]
  clear hW0
  by_cases hag : pkArg v.n fr tp room = true
  · obtain ⟨h1, h2, h3, h4, h5⟩ := pkArg_true.1 hag
    obtain rfl : ce = 0 := by rw [HCE.out, if_pos hag]
    have HAG := hid hag
    obtain ⟨f, rfl⟩ : ∃ f : Nat, fr = f := ⟨fr.toNat, by omega⟩
    obtain ⟨t, rfl⟩ : ∃ t : Nat, tp = t := ⟨tp.toNat, by omega⟩
    obtain ⟨k, rfl⟩ : ∃ k : Nat, room = k := ⟨room.toNat, by omega⟩
    have HRC := hid (pk_reached (HV.out.gr HG1.out) HNZ.out (HR.out.gr HG1.out) (HG1.out.tab htl HT.out) (fun h => HNO.out.1 h.1) f t k (by omega) (by omega) (by omega))
    clear hag
    gi_upto_region 5 with (first
      | (refine ⟨trivial, ?_⟩; gi_at_call 82; refine (callsIn_wide.2 (HCK.out)).mono ?_; rintro e w1 ⟨rfl, rfl⟩)
      | (refine ⟨trivial, ?_⟩; gi_at_call 83; refine (callsIn_wide.2 (HRC.out)).mono ?_; rintro e w1 ⟨ht1, hv1, (⟨L, m, p1, b1, p2, b2, hI, rfl, hE, hm1, hm2, hm3, hm4, hm5⟩ | ⟨hno, rfl⟩)⟩ <;> (have HT1 := hid ht1; have HV1 := hid hv1; have HB1 := hid (HRB.out.touch ht1 (fun h => by have := h.2; omega)); have HR1 := hid ((HR.out.gr HG1.out).touch ht1 (fun h => HNO.out.2.1 h.1) (fun h => HNO.out.2.2 h.1)); have y0 := HB1.out.cell (j := 0) rfl; have yl := HB1.out.lt; clear ht1 hv1)))
    · have HI := hid hI
      have hw1 := HT1.out.size
      have HT1' := hid (HT.out.touch' ((HG1.out.touch _).trans HT1.out) (fun h => HNO.out.1 h.1))
      have HFN := hid (pk_fwd hE HT1'.out (f := f) (by omega))
      have HX := hid hE
      have HXM := hid (And.intro hm1 (And.intro hm2 (And.intro hm3 (And.intro hm4 hm5))))
      clear hI hE hm1 hm2 hm3 hm4 hm5
      gi_upto_region 8 with (refine ⟨trivial, ?_⟩; gi_at_call 84; refine (callsIn_wide.2 (HFN.out)).mono ?_; rintro e w2 ⟨ff, B, rfl, hg2, hF⟩; have HG2 := hid hg2; have HFW := hid hF; clear hg2 hF)
      obtain ⟨w3, hw3⟩ : ∃ w3, w3 = w2.alloc (.cells #[.pointer (some ⟨ff, 0, none⟩)] 127) := ⟨_, rfl⟩
      have hfc := Rec.new w2 127 [.pointer (some ⟨ff, 0, none⟩)]
      obtain ⟨fb, hfb⟩ : ∃ fb, fb = w2.heap.size := ⟨_, rfl⟩
      have hg3 : Gr w2 w3 := by rw [hw3]; exact (Gr.refl w2).alloc _
      have hsz3 : w3.heap.size = fb + 1 := by rw [hw3, World.size_alloc, hfb]
      rw [show w2.alloc (.cells ([.pointer (some ⟨ff, 0, none⟩)] : List Value).toArray 127) = w3 from hw3.symm] at hfc
      rw [← hfb] at hfc ⊢
      rw [← hw3]
      have hz2 := HG2.out.size
      have HFZ : Hid (w1.heap.size ≤ fb ∧ fb + 1 = w3.heap.size ∧ w2.heap.size = fb) := ⟨by omega, hsz3.symm, hfb.symm⟩
      have HFC := hid hfc
      have HG13 := hid (HG2.out.trans hg3)
      have HG23 := hid hg3
      have HB3 := hid (HB1.out.gr HG13.out)
      have HV3 := hid (HV1.out.gr HG13.out)
      have HTP := hid (fun (W : World) (g : Gr w3 W) => fwd_top (HFW.out.gr (HG23.out.trans g)))
      have HALL : Hid (∀ j (hj : j < L.length), f + sizes (L.take j) ≤ L[j].1) := ⟨fun j hj => pk_le HI.out.1.mkd.good (fr := f) (fun o ho => by have := HI.out.2 o ho; omega) hj⟩
      clear hw3 hfb hfc hg3 y0 yl c0 cl
      have hft : f + sizes L ≤ t := by
        have hI := HI.out
        rcases Nat.eq_zero_or_pos L.length with h0 | h0
        · have : L = [] := List.eq_nil_of_length_eq_zero h0
          subst this
          simp only [sizes]; omega
        · have hj : L.length - 1 < L.length := by omega
          have e1 := HALL.out _ hj
          have e2 := hI.2 _ (List.getElem_mem hj)
          have e3 := sizes_take hj
          rw [show L.length - 1 + 1 = L.length by omega, List.take_length] at e3
          omega
      have HND := hid (fun (W : World) (g : Gr w3 W) => vm_needs (HV3.out.gr g) f (f + sizes L) (by omega) (by omega))
      obtain ⟨nn, hnn⟩ : ∃ nn, nn = sizes L := ⟨_, rfl⟩
      have HNN := hid hnn
      obtain ⟨E, hE⟩ : ∃ E, E = needE v f ((f + nn : Nat) : Int) := ⟨_, rfl⟩
      rw [← hnn] at HND HTP hft
      rw [← hE] at HND
      have HE := hid hE
      have hcast : ((f + nn : Nat) : Int) = (f : Int) + (nn : Int) := by push_cast; rfl
      rw [hcast] at HND
      have HCAST := hid hcast
      clear hnn hE hcast
      have p0 := HB3.out.cell (j := 0) rfl
      have p1' := HFC.out.cell (j := 0) rfl
      obtain ⟨Sx, hSx⟩ : ∃ Sx : World → Prop, Sx = fun W' => W'.cell? ⟨w.heap.size, 0, none⟩ = some (.pointer (some ⟨q, 0, none⟩)) ∧ W'.cell? ⟨fb, 0, none⟩ = some (.pointer (some ⟨ff, 0, none⟩)) := ⟨_, rfl⟩
      have x1 : ∀ p : Held Sx, p.w.cell? ⟨w.heap.size, 0, none⟩ = some (.pointer (some ⟨q, 0, none⟩)) := fun p => by have h := Held.get hSx p; exact h.1
      have x2 : ∀ p : Held Sx, p.w.cell? ⟨fb, 0, none⟩ = some (.pointer (some ⟨ff, 0, none⟩)) := fun p => by have h := Held.get hSx p; exact h.2
      have HS : Hid (∀ W', W'.cell? ⟨w.heap.size, 0, none⟩ = some (.pointer (some ⟨q, 0, none⟩)) ∧ W'.cell? ⟨fb, 0, none⟩ = some (.pointer (some ⟨ff, 0, none⟩)) → Sx W') := ⟨fun W' h => by rw [hSx]; exact h⟩
      have hS0 := HS.out (w3.drew) (⟨p0, p1'⟩)
      have inst : Inhabited (Held Sx) := ⟨⟨_, hS0⟩⟩
      clear hSx
      refine wpIn_region_mixS Sx 6 [([0, 1, 2], 3), ([], 4)] [5] wide_fn (by kernel_rfl) (by kernel_rfl) hS0 ?_
      refine segsIn_step ?_
      try simp only [opsAt, List.getElem?_cons_zero, List.getElem?_cons_succ]
      repeat (go_big_quiet_step (fail))
      refine wpQuiet_nil ?_
      gi_wp2_with ((refine ⟨trivial, ?_⟩; gi_at_call 85; refine (callsIn_wide.2 (HTP.out _ (Gr.refl w3).drew)).mono ?_; rintro e w4 ⟨rfl, hg4⟩; have HG4 := hid ((Gr.refl w3).drew.trans hg4); have HB4 := hid (HB3.out.gr HG4.out); have HFC4 := hid (HFC.out.gr HG4.out); clear hg4))
      refine ⟨.inr (Held.of (HS.out _ (⟨HB4.out.cell (j := 0) rfl, HFC4.out.cell (j := 0) rfl⟩))), ?_⟩
      refine segsIn_step ?_
      try simp only [opsAt, List.getElem?_cons_zero, List.getElem?_cons_succ]
      repeat (go_big_quiet_step (fail))
      refine wpQuiet_nil ?_
      gi_wp2_with ((refine ⟨trivial, ?_⟩; gi_at_call 59; refine (callsIn_wide.2 (HND.out _ HG4.out)).mono ?_; rintro e w5 ⟨rfl, ht5, hg5⟩; have HT5 := hid ht5; have HGW5 := hid hg5; have HB5 := hid (HB4.out.touch ht5 (fun h => by have := h.1.2; omega)); have HFC5 := hid (HFC4.out.touch ht5 (fun h => by have := h.1.2; have := HFZ.out; omega)); clear ht5 hg5))
      refine ⟨.inr (Held.of (HS.out _ (⟨HB5.out.cell (j := 0) rfl, HFC5.out.cell (j := 0) rfl⟩))), ?_⟩
      refine segsIn_end ?_
      try simp only [opsAt, List.getElem?_cons_zero, List.getElem?_cons_succ]
      repeat (go_big_quiet_step (fail))
      refine wpQuiet_nil ?_
      refine NoPanic.normal ?_
      clear x1 x2 hS0 inst
      clear HS Sx
      clear p0 p1'
      have HR5 := hid ((HR1.out.gr (HG13.out.trans HG4.out)).touch HT5.out (fun h => HNO.out.2.1 h.1.1) (fun h => HNO.out.2.2 h.1.1))
      have HTW5 : Hid (Touch S w w5) := ⟨(((HG1.out.touch _).trans (HT1.out.mono (fun i _ h => h.1))).trans ((HG13.out.trans HG4.out).touch _)).trans (HT5.out.mono (fun i _ h => h.1.1))⟩
      by_cases hE0 : E = 0
      · subst hE0
        obtain ⟨v1, hg1, hv1⟩ := HGW5.out
        rw [← HCAST.out] at hg1
        have hnd := HE.out
        rw [HNN.out] at hg1 hnd
        obtain ⟨cx, -⟩ := pk_ctx HOK.out HI.out (by omega) (by omega) (by omega) hnd.symm hg1
        have HCX := hid cx
        have HGR := hid hg1
        have HND0 := hid hnd
        obtain ⟨S5, hS5⟩ : ∃ S5, S5 = cutS (plus (cutS (cutS S w) W0) w4) w5 := ⟨_, rfl⟩
        have hz4 := HG4.out.size
        have hz5 := HT5.out.size
        have HS5 : Hid (∀ b, S5 b → (S b ∧ b < w.heap.size ∨ w4.heap.size ≤ b) ∧ b < w5.heap.size) := ⟨fun b hb => by
          rw [hS5] at hb
          exact ⟨hb.1.imp (fun h => h.1) id, hb.2⟩⟩
        have HV5 : Hid (VmAt w5 S5 q v1) := ⟨by rw [hS5]; exact hv1.cut⟩
        have c13l := HX.out.hm
        have hx5 : Ext w5 m p1 b1 p2 b2 v.n L := (HX.out.gr (HG13.out.trans HG4.out)).touch HT5.out (fun h => by have := h.1.2; have := HXM.out.1; omega) (fun h => by have := h.1.2; have := HXM.out.2.1; omega) (fun h => by have := h.1.2; have := HXM.out.2.2.1; omega) (fun h => by have := h.1.2; have := HXM.out.2.2.2.1; omega) (fun h => by have := h.1.2; have := HXM.out.2.2.2.2; omega)
        have HX5 := hid hx5
        have HTB5 := hid (HT.out.touch' HTW5.out HNO.out.1)
        have hFX : Touch (fun i => i < w.heap.size ∨ w3.heap.size ≤ i) w2 w5 := ((HG23.out.trans HG4.out).touch _).trans (HT5.out.mono (fun i _ h => .inl h.1.2))
        have HFX := hid hFX
        clear hg1 hnd hv1 cx hS5 hx5 hFX
        gi_upto_region 11 with (fail)
        gi_wp2_with (refine ⟨trivial, ?_⟩; gi_at_call 86; refine (callsIn_wide.2 (all_call (some ⟨m, 0, none⟩))).mono ?_; rintro e w6 ⟨rfl, rfl⟩)
        obtain ⟨W6, hW6⟩ : ∃ W6, W6 = w5.alloc (.cells #[.pointer (some ⟨m, 0, none⟩)] 124) := ⟨_, rfl⟩
        have hg6 : Gr w5 W6 := by rw [hW6]; exact (Gr.refl w5).alloc _
        have hs6 : W6.heap.size = w5.heap.size + 1 := by rw [hW6, World.size_alloc]
        have k6 : W6.cell? ⟨w5.heap.size, 0, none⟩ = some (.pointer (some ⟨m, 0, none⟩)) := by rw [hW6]; exact (Boxed.new w5 124 (.pointer (some ⟨m, 0, none⟩))).cell
        rw [← hW6]
        clear hW6
        have hfz := HFZ.out
        have HFW6 : Hid (∀ W, Touch (fun i => i < w.heap.size ∨ w3.heap.size ≤ i) W6 W → Fwd W w1.heap.size ff v.n B f L) := ⟨fun W tt => HFW.out.touch ((HFX.out.trans (hg6.touch _)).trans tt) (fun kk h1 h2 h => by omega)⟩
        have HNS5 : Hid (∀ b, w.heap.size ≤ b → b < w4.heap.size → ¬ (S5 b ∨ W6.heap.size ≤ b)) := ⟨fun b h1 h2 h => by
          rcases h with h | h
          · have := (HS5.out b h).1; omega
          · omega⟩
        have HNR5 : Hid (∀ b, ¬ S b → b < w.heap.size → ¬ (S5 b ∨ W6.heap.size ≤ b)) := ⟨fun b h1 h2 h => by
          rcases h with h | h
          · rcases (HS5.out b h).1 with h' | h'
            · exact h1 h'.1
            · omega
          · omega⟩
        have HLO : Hid (∀ b, S5 b ∨ W6.heap.size ≤ b → b < w.heap.size ∨ w3.heap.size ≤ b) := ⟨fun b h => by
          rcases h with h | h
          · have := (HS5.out b h).1; omega
          · omega⟩
        have hml := HX.out.hm
        have hp1l := HX.out.v1.hp
        have hb1l := HX.out.v1.hb
        have hp2l := HX.out.v2.hp
        have hb2l := HX.out.v2.hb
        obtain ⟨hm1, hm2, hm3, hm4, hm5⟩ := HXM.out
        have HB6 := hid (HB5.out.gr hg6)
        have HFC6 := hid (HFC5.out.gr hg6)
        have HR6 := hid (HR5.out.gr hg6)
        have htl5 := HTB5.out.lt
        have HG6 := hid hg6
        have HK6 := hid k6
        clear k6 hg6
        have tI : ∀ (j : Nat) A B', (Touch (fun i => S5 i ∨ W6.heap.size ≤ i) W6 A ∧ j ≤ L.length ∧ ∃ v'', VmAt A S5 q v'' ∧ Pkd v1 v'' L f (sizes (L.take j))) → Touch (fun i => W6.heap.size ≤ i ∧ i < W6.heap.size + 2 + 4) A B' → (Touch (fun i => S5 i ∨ W6.heap.size ≤ i) W6 B' ∧ j ≤ L.length ∧ ∃ v'', VmAt B' S5 q v'' ∧ Pkd v1 v'' L f (sizes (L.take j))) := fun j A B' h tt => by
          obtain ⟨h1, h2, v'', h3, h4⟩ := h
          exact ⟨h1.trans (tt.mono (fun i _ h => .inr h.1)), h2, v'', h3.touch tt (fun i hi _ h => by have := (HS5.out i hi).2; omega), h4⟩
        refine range_lawU (K := 4) (s0 := 0) rfl (by omega) (gf := 150) (lb := #[.pointer (some ⟨w5.heap.size, 0, none⟩)]) rfl trivial (enters_of Tryz.func150 (by kernel_rfl) rfl)
          (all_seqU _ w5.heap.size m p1 b1 p2 b2 v.n L _) (fun _ => rfl)
          (fun (j : Nat) A => Touch (fun i => S5 i ∨ W6.heap.size ≤ i) W6 A ∧ j ≤ L.length ∧ ∃ v'', VmAt A S5 q v'' ∧ Pkd v1 v'' L f (sizes (L.take j))) (fun _ _ => False) tI (fun _ _ _ h _ => h)
          (fun j A h => ⟨(HX5.out.gr HG6.out).touch h.1 (HNS5.out _ (by omega) (by omega)) (HNS5.out _ (by omega) (by omega)) (HNS5.out _ (by omega) (by omega)) (HNS5.out _ (by omega) (by omega)) (HNS5.out _ (by omega) (by omega)), (HG6.out.tab htl5 HTB5.out).touch' h.1 (HNR5.out _ HNO.out.1 (by omega)), (h.1.cell (by omega) (fun h => by
            rcases h with h | h
            · have := (HS5.out _ h).2; omega
            · omega) 0).trans HK6.out, h.2.1⟩)
          ⟨Touch.refl _ _, Nat.zero_le _, v1, HV5.out.gr HG6.out, by simpa [sizes] using Pkd.zero HCX.out.ok L f⟩ ?round ?done (fun _ _ _ _ h _ => h.elim)
        case round =>
          intro lp j x W7 hsz7 hI7 hgv
          dsimp only [encO]
          gi_wp2
          refine ⟨Gr.refl _, fun W8 ht8 hI8 => ?_⟩
          have hjl : j < L.length := by
            rcases Nat.lt_or_ge j L.length with h | h
            · exact h
            · unfold AllGives at hgv; rw [List.getElem?_eq_none h] at hgv; cases hgv
          obtain rfl : x = L[j] := by unfold AllGives at hgv; rw [List.getElem?_eq_getElem hjl] at hgv; exact (Option.some.inj hgv).symm
          obtain ⟨hT8, -, vx, hvx, hpx⟩ := hI8
          have c5 := (HB6.out.touch hT8 (HNS5.out _ (by omega) (by omega))).cell (j := 0) rfl
          have c15 := (HFC6.out.touch hT8 (HNS5.out _ (by omega) (by omega))).cell (j := 0) rfl
          have HMV := hid (pk_move hvx (fun W tt => HFW6.out W ((hT8.mono (fun i _ h => HLO.out i h)).trans (tt.mono (fun i _ h => HLO.out i (.inl h.1))))) HCX.out hjl hpx)
          have HT8 := hid hT8
          have HSZ := hid (sizes_take hjl)
          clear hI7 hgv ht8 hT8 hvx hpx
          gi_wp2_with (refine ⟨trivial, ?_⟩; gi_at_call 87; refine (CallsIn.inRound lp (callsIn_wide.2 (HMV.out))).mono ?_; rintro e w7 ⟨rfl, ht7, v7, hv7, hp7⟩)
          refine ⟨ht7.mono (fun i _ h => .inl (by have := (HS5.out i h.1).2; omega)), j + 1, rfl, HT8.out.trans (ht7.mono (fun i _ h => .inl h.1)), hjl, v7, hv7.mono (fun b h => h.1), ?_⟩
          rw [HSZ.out]
          exact hp7
        case done =>
          rintro D j W7 hD rfl hI7 hK
          obtain ⟨hT7, -, v2, hv2, hp2⟩ := hI7
          rw [List.take_length] at hp2
          have c5 := (HB6.out.touch hT7 (HNS5.out _ (by omega) (by omega))).cell (j := 0) rfl
          have c15 := (HFC6.out.touch hT7 (HNS5.out _ (by omega) (by omega))).cell (j := 0) rfl
          have hHFW7 : ∀ W, Touch (fun i => i < w.heap.size ∨ w3.heap.size ≤ i) W7 W → Fwd W w1.heap.size ff v.n B f L := fun W tt => HFW6.out W ((hT7.mono (fun i _ h => HLO.out i h)).trans tt)
          have HTU := hid (pk_turns (fun W tt => hHFW7 W (tt.mono (fun i _ h => .inl (by omega)))) c15 (by omega) (HR6.out.touch hT7 (HNR5.out r HNO.out.2.1 (by omega)) (HNR5.out g HNO.out.2.2 (by omega))) (toV_zero HCX.out))
          have HB7 := hid (HB6.out.touch hT7 (HNS5.out _ (by omega) (by omega)))
          have HFC7 := hid (HFC6.out.touch hT7 (HNS5.out _ (by omega) (by omega)))
          have HFW7 := hid hHFW7
          have HT7 := hid hT7
          have HV2 := hid hv2
          have HP2 := hid hp2
          have HK := hid hK
          have HD := hid hD
          have hz7 := hT7.size
          clear c5 c15 hHFW7 hT7 hv2 hp2 hK hD
          gi_upto_region 16 with (refine ⟨trivial, ?_⟩; gi_at_call 68; refine (callsIn_wide.2 (HTU.out)).mono ?_; rintro e w8 ⟨rfl, ht8, hr8⟩; have HT8 := hid ht8; have HR8 := hid hr8; have HB8 := hid (HB7.out.touch ht8 (fun h => by omega)); have HFC8 := hid (HFC7.out.touch ht8 (fun h => by omega)); have hz8 := ht8.size; clear ht8 hr8)
          have HFW8 : Hid (∀ W, Touch (fun i => i < w.heap.size ∨ w3.heap.size ≤ i) w8 W → Fwd W w1.heap.size ff v.n B f L) := ⟨fun W tt => HFW7.out W ((HT8.out.mono (fun i _ h => .inl (by omega))).trans tt)⟩
          have hgS5 : ¬ S5 g := fun h => HNR5.out g HNO.out.2.2 (by omega) (.inl h)
          have HV8 := hid (HV2.out.touch HT8.out (fun b hb _ h => hgS5 (h ▸ hb)))
          have HGS5 := hid hgS5
          clear hgS5
          have HD5 : Hid (D = W6.heap.size ∧ D < W7.heap.size ∧ D ≠ g ∧ ¬ S5 D) := ⟨HD.out, (Array.getElem?_eq_some_iff.1 HK.out).1, by rw [HD.out]; omega, fun h => by rw [HD.out] at h; have := (HS5.out _ h).2; omega⟩
          have HK8 : Hid (w8.heap[D]? = some (.deferred (some []))) := ⟨(HT8.out.block D HD5.out.2.1 HD5.out.2.2.1).trans HK.out⟩
          have hpgv : v2.pl.pg = v.pl.pg := HP2.out.sm.pg.trans HGR.out.pg
          have HVP := hid (fun (W : World) (g' : Gr w8 W) => vm_page (HV8.out.gr g'))
          rw [hpgv] at HVP
          obtain ⟨pg, hpge⟩ : ∃ pg, pg = v.pl.pg := ⟨_, rfl⟩
          have HPGE := hid hpge
          rw [← hpge] at HVP hpg
          have HPV : Hid (v2.pl.pg = pg) := ⟨by rw [hpgv, hpge]⟩
          obtain ⟨q0, hq0⟩ : ∃ q0, q0 = f / pg := ⟨_, rfl⟩
          have hq0m : q0 * pg ≤ f := by rw [hq0]; exact Nat.div_mul_le_self f pg
          have HQ0 := hid hq0
          have g1 : ((f : Int).tdiv (pg : Int)) = (q0 : Int) := by rw [hq0]; rfl
          have g2 : ((f : Int) / (pg : Int)) = (q0 : Int) := by rw [hq0]; rfl
          have hpg0 : (pg : Int) ≠ 0 := by omega
          have hq0n : q0 ≤ 524288 := by have := Nat.div_le_self f pg; omega
          have HQM := hid hq0m
          obtain ⟨qs, hqs⟩ : ∃ qs, qs = pgUp (f + nn) pg := ⟨_, rfl⟩
          have HQS := hid hqs
          have hqs0 : q0 ≤ qs := by
            rcases Nat.lt_or_ge qs q0 with h | h
            · exfalso
              have h1 := (pgUp_le (nt := f + nn) (q := qs) hpg.1).2 (by rw [hqs]; exact Nat.le_refl _)
              have h2 : (qs + 1) * pg ≤ q0 * pg := Nat.mul_le_mul_right _ (by omega)
              rw [Nat.add_mul, Nat.one_mul] at h2
              omega
            · exact h
          have HQL := hid hqs0
          have hft2 : f + nn ≤ 1048576 := by omega
          have HUM : Hid (UmP w8 w8 S5 q r g v2 (rs.map (toV L f)) qs q0 0 pg t) := ⟨Touch.refl _ _, ⟨S5, fun b h => .inl h, by rw [show q0 + 0 - qs = 0 by omega]; exact HV8.out⟩, HR8.out, fun i hi => absurd hi (Nat.not_lt_zero _)⟩
          have u5 := HB8.out.cell (j := 0) rfl
          have u5l := HB8.out.lt
          clear hpge hq0 hpgv hq0m hqs hqs0
          gi_wp2_with (refine ⟨trivial, ?_⟩; gi_at_call 71; refine (callsIn_wide.2 (HVP.out _ (Gr.refl w8))).mono ?_; rintro e w9 ⟨rfl, rfl⟩)
          clear u5 u5l
          gi_loopw [20] (fun s20 wx => ∃ j : Nat, Hid (UmP w8 wx S5 q r g v2 (rs.map (toV L f)) qs q0 j pg t) ∧ s20 = .int .i64 ((q0 + j : Nat) : Int)) (fun s20 _ => t - (intOf s20).toNat * pg)
          case atStart => exact ⟨0, HUM, rfl⟩
          case round =>
            clear HUM
            obtain ⟨j, HU, rfl⟩ := hrel
            obtain ⟨Sj, hsj, hvj⟩ := HU.out.vm
            have hVP := fun (W : World) (g' : Gr wr W) => vm_page (hvj.gr g')
            rw [(umN_same v2 qs _).2.1, HPV.out] at hVP
            have HVP2 := hid hVP
            have HVJ := hid hvj
            have HSJ := hid hsj
            have HBX := hid (HB8.out.touch HU.out.t (fun h => HNS5.out _ (Nat.le_refl _) (by omega) (.inl h)))
            have HFX8 := hid (HFC8.out.touch HU.out.t (fun h => HNS5.out fb (by omega) (by omega) (.inl h)))
            have HTPX := hid (fun (W : World) (g' : Gr wr W) => fwd_top (HFW8.out W ((HU.out.t.mono (fun i _ h => HLO.out i (.inl h))).trans (g'.touch _))))
            rw [← HNN.out] at HTPX
            obtain ⟨qq, hqq⟩ : ∃ qq, qq = q0 + j := ⟨_, rfl⟩
            obtain ⟨pp, hpp⟩ : ∃ pp, pp = qq * pg := ⟨_, rfl⟩
            have hppb : pp ≤ 1048576 := by
              rcases Nat.eq_zero_or_pos j with h0 | h0
              · rw [hpp, hqq, h0, Nat.add_zero]; have := HQM.out; omega
              · have := HU.out.q1 (j - 1) (by omega)
                have e : pp = (q0 + (j - 1)) * pg + pg := by rw [hpp, hqq, show q0 + j = (q0 + (j - 1)) + 1 by omega, Nat.add_mul, Nat.one_mul]
                omega
            have hqb : qq ≤ pp := by rw [hpp]; exact Nat.le_mul_of_pos_right _ (by omega)
            have hmul : ((qq : Int) * (pg : Int)) = (pp : Int) := by rw [hpp]; push_cast; rfl
            have HQQ := hid (And.intro hqq hpp)
            rw [← hqq]
            clear hVP hvj hsj hqq hpp
            have u5 := HBX.out.cell (j := 0) rfl
            have u5l := HBX.out.lt
            have u15 := HFX8.out.cell (j := 0) rfl
            have u15l := HFX8.out.lt
            by_cases hlt : pp < t
            · have e1 : decide ((pp : Int) < (t : Int)) = true := decide_eq_true (by omega)
              have e2 : decide (pp < t) = true := decide_eq_true hlt
              have HLT := hid hlt
              clear hlt
              by_cases hge : f + nn ≤ pp
              · have e3 : decide ((f : Int) + (nn : Int) ≤ (pp : Int)) = true := decide_eq_true (by omega)
                have HGE := hid hge
                clear hge
                gi_upto_region 19 with (refine ⟨trivial, ?_⟩; gi_at_call 71; refine (callsIn_wide.2 (HVP2.out _ (Gr.refl wr))).mono ?_; rintro e w10 ⟨rfl, rfl⟩)
                obtain ⟨Sx, hSx⟩ : ∃ Sx : World → Prop, Sx = fun W' => W'.cell? ⟨w.heap.size, 0, none⟩ = some (.pointer (some ⟨q, 0, none⟩)) ∧ W'.cell? ⟨fb, 0, none⟩ = some (.pointer (some ⟨ff, 0, none⟩)) := ⟨_, rfl⟩
                have x1 : ∀ p : Held Sx, p.w.cell? ⟨w.heap.size, 0, none⟩ = some (.pointer (some ⟨q, 0, none⟩)) := fun p => by have h := Held.get hSx p; exact h.1
                have x2 : ∀ p : Held Sx, p.w.cell? ⟨fb, 0, none⟩ = some (.pointer (some ⟨ff, 0, none⟩)) := fun p => by have h := Held.get hSx p; exact h.2
                have HS : Hid (∀ W', W'.cell? ⟨w.heap.size, 0, none⟩ = some (.pointer (some ⟨q, 0, none⟩)) ∧ W'.cell? ⟨fb, 0, none⟩ = some (.pointer (some ⟨ff, 0, none⟩)) → Sx W') := ⟨fun W' h => by rw [hSx]; exact h⟩
                have hS0 := HS.out (wr.drew) (⟨u5, u15⟩)
                have inst : Inhabited (Held Sx) := ⟨⟨_, hS0⟩⟩
                clear hSx
                refine wpIn_region_mixS Sx 7 [([0, 1, 4], 2), ([3], 5)] [6] wide_fn (by kernel_rfl) (by kernel_rfl) hS0 ?_
                refine segsIn_step ?_
                try simp only [opsAt, List.getElem?_cons_zero, List.getElem?_cons_succ]
                repeat (go_big_quiet_step (fail))
                refine wpQuiet_nil ?_
                gi_wp2_with ((refine ⟨trivial, ?_⟩; gi_at_call 71; refine (callsIn_wide.2 (HVP2.out _ (Gr.refl wr).drew)).mono ?_; rintro e w10 ⟨rfl, rfl⟩))
                refine ⟨.inr (Held.of (HS.out _ (⟨u5, u15⟩))), ?_⟩
                refine segsIn_step ?_
                try simp only [opsAt, List.getElem?_cons_zero, List.getElem?_cons_succ]
                repeat (go_big_quiet_step (fail))
                refine wpQuiet_nil ?_
                gi_wp2_with ((refine ⟨trivial, ?_⟩; gi_at_call 85; refine (callsIn_wide.2 (HTPX.out _ (Gr.refl wr).drew)).mono ?_; rintro e w10 ⟨rfl, hg10⟩; have HG10 := hid ((Gr.refl wr).drew.trans hg10); have z5 := (HBX.out.gr HG10.out).cell (j := 0) rfl; have z5l := (HBX.out.gr HG10.out).lt; have z15 := (HFX8.out.gr HG10.out).cell (j := 0) rfl; clear hg10))
                refine ⟨.inr (Held.of (HS.out _ (⟨z5, z15⟩))), ?_⟩
                refine segsIn_end ?_
                try simp only [opsAt, List.getElem?_cons_zero, List.getElem?_cons_succ]
                repeat (go_big_quiet_step (fail))
                refine wpQuiet_nil ?_
                refine NoPanic.normal ?_
                clear x1 x2 hS0 inst
                clear HS Sx
                clear u5 u5l u15 u15l z15
                gi_wp2_with (refine ⟨trivial, ?_⟩; gi_at_call 72; refine (callsIn_wide.2 (vm_unmap (HVJ.out.gr HG10.out) (qq : Int))).mono ?_; rintro e w11 ⟨rfl, ht11, hv11⟩; have HT11 := hid ht11; have HV11 := hid hv11; clear ht11 hv11)
                go_roundw
                case rel =>
                  have hzx := HU.out.t.size
                  have hzy := HG10.out.size
                  refine ⟨j + 1, ⟨⟨?_, ⟨plus Sj w10, fun b hb => ?_, ?_⟩, ?_, fun i hi => ?_⟩⟩, ?_⟩
                  · exact (HU.out.t.trans (HG10.out.touch _)).trans' HT11.out (fun b hb h => (HSJ.out b h).elim id (fun h => by omega))
                  · rcases hb with h | h
                    · exact HSJ.out b h
                    · right; omega
                  · have h1 := HV11.out
                    have h2 := (pgUp_le (nt := f + nn) (q := qq) hpg.1).1 (by rw [← HQQ.out.2]; exact HGE.out)
                    rw [← HQS.out] at h2
                    have e : q0 + (j + 1) - qs = (q0 + j - qs) + 1 := by have := HQQ.out.1; omega
                    rw [e]
                    show VmAt _ _ _ ((umN v2 qs (q0 + j - qs)).um ((qs + (q0 + j - qs) : Nat) : Int))
                    rw [show qs + (q0 + j - qs) = qq by have := HQQ.out.1; omega]
                    exact h1
                  · refine (HU.out.rt.gr HG10.out).touch HT11.out (fun h => ?_) (fun h => ?_)
                    · exact (HSJ.out _ h).elim (fun h => HNR5.out r HNO.out.2.1 (by omega) (.inl h)) (fun h => by omega)
                    · exact (HSJ.out _ h).elim HGS5.out (fun h => by omega)
                  · rcases Nat.lt_or_ge i j with h | h
                    · exact HU.out.q1 i h
                    · obtain rfl : i = j := by omega
                      rw [← HQQ.out.1, ← HQQ.out.2]; exact HLT.out
                  · rw [show q0 + (j + 1) = qq + 1 by rw [HQQ.out.1]; omega]
                    go_num
                case measure =>
                  have h1 := HLT.out
                  have h2 := HQQ.out.2
                  simp only [intOf]
                  rw [show ((qq : Int) + 1).toNat = qq + 1 by omega, Int.toNat_natCast, Nat.add_mul, Nat.one_mul, ← h2]
                  omega
              · have e3 : decide ((f : Int) + (nn : Int) ≤ (pp : Int)) = false := decide_eq_false (by omega)
                have HGE := hid hge
                clear hge
                gi_upto_region 19 with (refine ⟨trivial, ?_⟩; gi_at_call 71; refine (callsIn_wide.2 (HVP2.out _ (Gr.refl wr))).mono ?_; rintro e w10 ⟨rfl, rfl⟩)
                obtain ⟨Sx, hSx⟩ : ∃ Sx : World → Prop, Sx = fun W' => W'.cell? ⟨w.heap.size, 0, none⟩ = some (.pointer (some ⟨q, 0, none⟩)) ∧ W'.cell? ⟨fb, 0, none⟩ = some (.pointer (some ⟨ff, 0, none⟩)) := ⟨_, rfl⟩
                have x1 : ∀ p : Held Sx, p.w.cell? ⟨w.heap.size, 0, none⟩ = some (.pointer (some ⟨q, 0, none⟩)) := fun p => by have h := Held.get hSx p; exact h.1
                have x2 : ∀ p : Held Sx, p.w.cell? ⟨fb, 0, none⟩ = some (.pointer (some ⟨ff, 0, none⟩)) := fun p => by have h := Held.get hSx p; exact h.2
                have HS : Hid (∀ W', W'.cell? ⟨w.heap.size, 0, none⟩ = some (.pointer (some ⟨q, 0, none⟩)) ∧ W'.cell? ⟨fb, 0, none⟩ = some (.pointer (some ⟨ff, 0, none⟩)) → Sx W') := ⟨fun W' h => by rw [hSx]; exact h⟩
                have hS0 := HS.out (wr.drew) (⟨u5, u15⟩)
                have inst : Inhabited (Held Sx) := ⟨⟨_, hS0⟩⟩
                clear hSx
                refine wpIn_region_mixS Sx 7 [([0, 1, 4], 2), ([3], 5)] [6] wide_fn (by kernel_rfl) (by kernel_rfl) hS0 ?_
                refine segsIn_step ?_
                try simp only [opsAt, List.getElem?_cons_zero, List.getElem?_cons_succ]
                repeat (go_big_quiet_step (fail))
                refine wpQuiet_nil ?_
                gi_wp2_with ((refine ⟨trivial, ?_⟩; gi_at_call 71; refine (callsIn_wide.2 (HVP2.out _ (Gr.refl wr).drew)).mono ?_; rintro e w10 ⟨rfl, rfl⟩))
                refine ⟨.inr (Held.of (HS.out _ (⟨u5, u15⟩))), ?_⟩
                refine segsIn_step ?_
                try simp only [opsAt, List.getElem?_cons_zero, List.getElem?_cons_succ]
                repeat (go_big_quiet_step (fail))
                refine wpQuiet_nil ?_
                gi_wp2_with ((refine ⟨trivial, ?_⟩; gi_at_call 85; refine (callsIn_wide.2 (HTPX.out _ (Gr.refl wr).drew)).mono ?_; rintro e w10 ⟨rfl, hg10⟩; have HG10 := hid ((Gr.refl wr).drew.trans hg10); have z5 := (HBX.out.gr HG10.out).cell (j := 0) rfl; have z5l := (HBX.out.gr HG10.out).lt; have z15 := (HFX8.out.gr HG10.out).cell (j := 0) rfl; clear hg10))
                refine ⟨.inr (Held.of (HS.out _ (⟨z5, z15⟩))), ?_⟩
                refine segsIn_end ?_
                try simp only [opsAt, List.getElem?_cons_zero, List.getElem?_cons_succ]
                repeat (go_big_quiet_step (fail))
                refine wpQuiet_nil ?_
                refine NoPanic.normal ?_
                clear x1 x2 hS0 inst
                clear HS Sx
                clear u5 u5l u15 u15l z15
                gi_wp2
                go_roundw
                case rel =>
                  refine ⟨j + 1, ⟨⟨HU.out.t.trans (HG10.out.touch _), ⟨Sj, HSJ.out, ?_⟩, HU.out.rt.gr HG10.out, fun i hi => ?_⟩⟩, ?_⟩
                  · have h1 := HVJ.out.gr HG10.out
                    have h2 : ¬ qs ≤ qq := fun h => HGE.out (by
                      rw [HQQ.out.2]
                      exact (pgUp_le hpg.1).2 (by rw [← HQS.out]; exact h))
                    have e : q0 + (j + 1) - qs = q0 + j - qs := by have := HQQ.out.1; omega
                    rw [e]
                    exact h1
                  · rcases Nat.lt_or_ge i j with h | h
                    · exact HU.out.q1 i h
                    · obtain rfl : i = j := by omega
                      rw [← HQQ.out.1, ← HQQ.out.2]; exact HLT.out
                  · rw [show q0 + (j + 1) = qq + 1 by rw [HQQ.out.1]; omega]
                    go_num
                case measure =>
                  have h1 := HLT.out
                  have h2 := HQQ.out.2
                  simp only [intOf]
                  rw [show ((qq : Int) + 1).toNat = qq + 1 by omega, Int.toNat_natCast, Nat.add_mul, Nat.one_mul, ← h2]
                  omega
            · have e1 : decide ((pp : Int) < (t : Int)) = false := decide_eq_false (by omega)
              have e2 : decide (pp < t) = false := decide_eq_false hlt
              have HLT := hid hlt
              clear hlt
              gi_wp2_with (first
                | (refine ⟨trivial, ?_⟩; gi_at_call 71; refine (callsIn_wide.2 (HVP2.out _ (Gr.refl wr))).mono ?_; rintro e w10 ⟨rfl, rfl⟩)
                | (refine ⟨trivial, ?_⟩; gi_at_call 85; refine (callsIn_wide.2 (HTPX.out _ (Gr.refl wr))).mono ?_; rintro e w10 ⟨rfl, hg10⟩; have HG10 := hid hg10; clear hg10))
              have hD5 : w10.heap[D]? = some (.deferred (some [])) := by
                have h1 := HU.out.t.size
                rw [HG10.out.block (by have := HD5.out.2.1; omega), HU.out.t.block D (by have := HD5.out.2.1; omega) HD5.out.2.2.2]
                exact HK8.out
              refine ⟨by simp, .inl ⟨_, _, rfl, run_takeDeferred hD5, ?_⟩⟩
              have tt := touch_put1 w10 D (.deferred none)
              have hd := HD5.out
              have h8x := HU.out.t.size
              refine ⟨.tuple #[.int .i64 ((f : Int) + (nn : Int)), .int .i64 0], ?_, ?_, .inr ⟨HAG.out, .inr ⟨L, f, t, HI.out, rfl, rfl, .inr ⟨HND0.out.symm, ?_, v1, v2, j, ⟨HGR.out, HCX.out, HP2.out, ?_, ?_⟩, ?_, ?_⟩⟩⟩⟩
              · simp [results, Tryz.f28, go_sem]
              · have a1 := HTW5.out.trans (HG6.out.touch S)
                have a2 := a1.trans' HT7.out (fun b hb h => by
                  rcases h with h | h
                  · rcases (HS5.out b h).1 with h' | h'
                    · exact h'.1
                    · omega
                  · omega)
                have a3 := (a2.mono (T := fun b => b = g ∨ S b) (fun _ _ h => .inr h)).trans (HT8.out.mono (fun i _ h => .inl h))
                have a4 := a3.trans' HU.out.t (fun b hb h => by
                  rcases (HS5.out b h).1 with h' | h'
                  · exact .inr h'.1
                  · omega)
                exact (a4.trans (HG10.out.touch _)).trans' tt (fun b hb h => by omega)
              · rw [← HNN.out]; push_cast; rfl
              · intro i hi
                rw [← HPGE.out, ← HQ0.out]; exact HU.out.q1 i hi
              · rw [← HPGE.out, ← HQ0.out, ← HQQ.out.1, ← HQQ.out.2]; have := HLT.out; omega
              · unfold pkUm
                rw [← HNN.out, ← HPGE.out, ← HQS.out, ← HQ0.out]
                refine ((HVJ.out.gr HG10.out).touch tt (fun b hb _ h => ?_)).mono (fun b hb => ?_)
                · rcases HSJ.out b hb with h' | h'
                  · exact hd.2.2.2 (h ▸ h')
                  · omega
                · rcases HSJ.out b hb with h' | h'
                  · exact (HS5.out b h').1.imp (fun h => h.1) (fun h => by omega)
                  · right; omega
              · exact (HU.out.rt.gr HG10.out).touch tt (fun h => by omega) (fun h => hd.2.2.1 h.symm)
      · have d0 : (E != 0) = true := by simpa using hE0
        have HE0 := hid hE0
        clear hE0
        gi_wp2
        refine ⟨.tuple #[.int .i64 0, .int .i64 E], ?_, HTW5.out.mono (fun i _ h => .inr h), .inr ⟨HAG.out, .inr ⟨L, f, t, HI.out, rfl, rfl, .inl ⟨?_, ?_, ?_, HR5.out⟩⟩⟩⟩
        · simp [results, Tryz.f28, go_sem]
        · rw [← HNN.out, ← HE.out]; exact HE0.out
        · rw [← HNN.out, ← HE.out]
        · have hF : needF v f ((f + nn : Nat) : Int) = [] := by unfold needF; rw [if_neg (fun h => HE0.out (HE.out.trans h.1))]
          obtain ⟨v', hg, hv⟩ := HGW5.out
          rw [← HCAST.out, hF] at hg
          have h1 := HT1.out.size
          have h2 := (HG13.out.trans HG4.out).size
          exact ⟨v', hg, hv.mono (fun b hb => hb.elim (fun h => .inl h.1.1) (fun h => .inr (by omega)))⟩
    · have HNOL := hid hno
      clear hno
      gi_wp2
      refine ⟨.tuple #[.int .i64 0, .int .i64 25], ?_, ?_, .inr ⟨HAG.out, .inl ⟨HNOL.out, rfl, ?_, ?_⟩⟩⟩
      · simp [results, Tryz.f28, go_sem]
      · exact (HG1.out.touch _).trans (HT1.out.mono (fun i _ h => .inr h.1))
      · exact HV1.out.mono (fun b h => h.1.1)
      · exact HR1.out
  · obtain rfl : ce = 5 := by rw [HCE.out, if_neg hag]
    have HAG := hid hag
    clear hag
    gi_wp2_with (refine ⟨trivial, ?_⟩; gi_at_call 82; refine (callsIn_wide.2 (HCK.out)).mono ?_; rintro e w1 ⟨rfl, rfl⟩)
    refine ⟨.tuple #[.int .i64 0, .int .i64 5], ?_, ?_, .inl ⟨by simpa using HAG.out, rfl, ?_, ?_⟩⟩
    · simp [results, Tryz.f28, go_sem]
    · exact HG1.out.touch _
    · exact (HV.out.gr HG1.out).mono (fun b h => h.1)
    · exact HR.out.gr HG1.out
end
end Go.Proofs.YtbmidhlilafgeaaGreatDoor
end
section
namespace Go.Proofs.YtbmidhlilafgeaaGreatDoor
open Go.RowKit Word

section
variable {w : World} {A0 A : Option Addr} {cp cr M : Nat} {v : Vm} {rs O : List Int} {L : List Ob}
end
def us (l : List Nat) : List Value := l.map fun x => .int .u64 (x : Nat)
section
variable {w : World} {A0 A : Option Addr} {cp cr M : Nat} {v : Vm} {rs O : List Int} {L : List Ob}
end
end Go.Proofs.YtbmidhlilafgeaaGreatDoor
end
section
namespace Go.Proofs.YtbmidhlilafgeaaGreatDoor
open Go.RowKit Word

open Classical in
/-- What the roots of a laid heap reach. -/
theorem LaidIn.ex {x : LaidC} {v0 v : Vm} (hl : ∀ a : Nat, x.page ≤ a → a < x.top → v0.ldE a = 0) (h : LaidIn x v0 v x.k) : ∃ L, Marks v x.rs x.n L := by
  have hS := h.sound hl
  have hmem : ∀ j, j < x.k → Rch v x.rs ((x.at j : Nat) : Int) → (x.at j, (v.osz ((x.at j : Nat) : Int)).toNat) ∈ ((List.range x.k).filter (fun j => decide (Rch v x.rs ((x.at j : Nat) : Int)))).map (fun j => (x.at j, (v.osz ((x.at j : Nat) : Int)).toNat)) := fun j hj hr =>
    List.mem_map.2 ⟨j, List.mem_filter.2 ⟨List.mem_range.2 hj, decide_eq_true hr⟩, rfl⟩
  have hout : ∀ o ∈ ((List.range x.k).filter (fun j => decide (Rch v x.rs ((x.at j : Nat) : Int)))).map (fun j => (x.at j, (v.osz ((x.at j : Nat) : Int)).toNat)), ∃ j, j < x.k ∧ Rch v x.rs ((x.at j : Nat) : Int) ∧ o = (x.at j, (v.osz ((x.at j : Nat) : Int)).toNat) := fun o ho => by
    obtain ⟨j, hj, rfl⟩ := List.mem_map.1 ho
    obtain ⟨h1, h2⟩ := List.mem_filter.1 hj
    exact ⟨j, List.mem_range.1 h1, of_decide_eq_true h2, rfl⟩
  have hhs : ∀ a, Rch v x.rs a → Hs (((List.range x.k).filter (fun j => decide (Rch v x.rs ((x.at j : Nat) : Int)))).map (fun j => (x.at j, (v.osz ((x.at j : Nat) : Int)).toNat))) a := fun a ha => by
    obtain ⟨j, hj, rfl⟩ := h.rch hl ha
    exact ⟨_, hmem j hj ha, rfl⟩
  refine ⟨_, ⟨⟨⟨?_, fun o ho => ?_⟩, fun o ho => ?_⟩, hhs, fun o ho => ?_⟩⟩
  · rw [List.pairwise_map]
    refine List.Pairwise.imp_of_mem ?_ (List.Pairwise.filter _ List.pairwise_lt_range)
    intro i j hi hj hij
    have hjk := List.mem_range.1 (List.mem_filter.1 hj).1
    obtain ⟨p, f, c, e, -, -, hz⟩ := h.ob hl (j := i) (by omega)
    have h1 := at_next (x := x) (by omega) e
    have h2 := at_mono (x := x) (i := i + 1) (j := j) (by omega)
    dsimp only
    rw [hz]
    omega
  · obtain ⟨j, hj, hr, rfl⟩ := hout o ho
    have h1 := hS.rm _ hr
    have h2 := osz_pos (hS.rd _ hr)
    dsimp only
    omega
  · obtain ⟨j, hj, hr, rfl⟩ := hout o ho
    have h2 := osz_pos (hS.rd _ hr)
    exact ⟨hr, hS.rd _ hr, by dsimp only; omega⟩
  · obtain ⟨j, hj, hr, rfl⟩ := hout o ho
    intro i hi
    have hpt := hS.pt _ hr i hi
    exact ⟨hpt, fun h0 => hhs _ (hr.step ⟨hS.rd _ hr, i, hi, hpt, h0, rfl⟩)⟩
end Go.Proofs.YtbmidhlilafgeaaGreatDoor
end
section
namespace Go.Proofs.YtbmidhlilafgeaaGreatDoor
open Go.RowKit Word

/-- What Need maps. -/
theorem need_ldE {v v1 : Vm} (h : VmOk v) {f t : Nat} (_ht : t ≤ v.n) (hE : needE v f t = 0) (hG : Grown v v1 (needF v f t)) {a : Nat} (ha : a < v.n) :
    v1.ldE a = 0 ↔ v.ldE a = 0 ∨ (f < t ∧ f / v.pl.pg ≤ a / v.pl.pg ∧ a / v.pl.pg ≤ (t - 1) / v.pl.pg) := by
  have hp := h.page
  rw [hG.ldE h ha]
  rcases Nat.lt_or_ge f t with hft | hft
  · have hF : needF v f t = unmL v ((f : Int) / v.pl.pg).toNat (pgsN v f t) := by unfold needF; rw [if_pos ⟨hE, by omega⟩]
    have e1 : ((f : Int) / (v.pl.pg : Int)).toNat = f / v.pl.pg := by rw [← Int.natCast_ediv]; exact Int.toNat_natCast _
    have e2 : pgsN v f t = (t - 1) / v.pl.pg + 1 - f / v.pl.pg := by
      unfold pgsN
      rw [show (t : Int) - 1 = ((t - 1 : Nat) : Int) by omega, ← Int.natCast_ediv, ← Int.natCast_ediv]
      have : f / v.pl.pg ≤ (t - 1) / v.pl.pg := Nat.div_le_div_right (by omega)
      omega
    have g0 : f / v.pl.pg ≤ (t - 1) / v.pl.pg := Nat.div_le_div_right (by omega)
    rw [hF]
    have hmem : a / v.pl.pg ∈ unmL v ((f : Int) / v.pl.pg).toNat (pgsN v f t) ↔ (f / v.pl.pg ≤ a / v.pl.pg ∧ a / v.pl.pg < f / v.pl.pg + ((t - 1) / v.pl.pg + 1 - f / v.pl.pg)) ∧ v.pt.getD (a / v.pl.pg) 0 = 0 := by rw [unmL_mem, e1, e2]
    by_cases h0 : v.pt.getD (a / v.pl.pg) 0 = 0
    · have hl : v.ldE a = 12 := by rw [h.ldE_of ha, if_pos h0]
      rw [hl]
      constructor
      · intro hx
        split at hx
        · rename_i hc; have := hmem.1 hc; exact .inr ⟨hft, by omega⟩
        · cases hx
      · rintro (hx | hx)
        · cases hx
        · rw [if_pos (hmem.2 ⟨by omega, h0⟩)]
    · have hl : v.ldE a = 0 := by rw [h.ldE_of ha, if_neg h0]
      rw [if_neg (fun hc => h0 (hmem.1 hc).2), hl]
      exact ⟨fun _ => .inl rfl, fun _ => rfl⟩
  · have hF : needF v f t = [] := by unfold needF; rw [if_neg (fun hc => by have := hc.2; omega)]
    rw [hF, if_neg (by simp)]
    exact ⟨.inl, fun hx => hx.elim id (fun hx => by omega)⟩
section
variable {v v1 v2 : Vm} {rs : List Int} {f t j : Nat} {L : List Ob}
theorem PkDone.base (d : PkDone v rs f t L v1 v2 j) : (pkUm v v2 f (f + sizes L) j).n = v.n ∧ (pkUm v v2 f (f + sizes L) j).pl.pg = v.pl.pg ∧ (pkUm v v2 f (f + sizes L) j).pl.rm = v.pl.rm ∧ VmOk (pkUm v v2 f (f + sizes L) j) ∧ v2.n = v.n ∧ v2.pl.pg = v.pl.pg := by
  obtain ⟨e1, e2, e3, -⟩ := umN_same v2 (pgUp (f + sizes L) v.pl.pg) (f / v.pl.pg + j - pgUp (f + sizes L) v.pl.pg)
  have n2 : v2.n = v.n := d.st.sm.n.trans d.gr.n
  have p2 : v2.pl.pg = v.pl.pg := d.st.sm.pg.trans d.gr.pg
  exact ⟨e1.trans n2, e2.trans p2, e3.trans (d.st.sm.rm.trans d.gr.rm), umN_ok d.st.ok _ _, n2, p2⟩
/-- Which words can be loaded behind it. -/
theorem PkDone.ldE (d : PkDone v rs f t L v1 v2 j) (h : VmOk v) (hE : needE v f ((f + sizes L : Nat) : Int) = 0) (hn : f + sizes L ≤ v.n) {a : Nat} (ha : a < v.n) :
    (pkUm v v2 f (f + sizes L) j).ldE a = 0 ↔ (v.ldE a = 0 ∨ (0 < sizes L ∧ f / v.pl.pg ≤ a / v.pl.pg ∧ a / v.pl.pg ≤ (f + sizes L - 1) / v.pl.pg)) ∧ ¬ (pgUp (f + sizes L) v.pl.pg ≤ a / v.pl.pg ∧ a / v.pl.pg < f / v.pl.pg + j) := by
  obtain ⟨-, -, -, -, n2, p2⟩ := d.base
  have h1 := need_ldE h hn hE d.gr ha
  unfold pkUm
  rw [umN_ldE d.st.ok _ _ (by rw [n2]; exact ha), p2, d.st.sm.ldE]
  rw [show (0 < sizes L ∧ f / v.pl.pg ≤ a / v.pl.pg ∧ a / v.pl.pg ≤ (f + sizes L - 1) / v.pl.pg) ↔ (f < f + sizes L ∧ f / v.pl.pg ≤ a / v.pl.pg ∧ a / v.pl.pg ≤ (f + sizes L - 1) / v.pl.pg) from ⟨fun h => ⟨by omega, h.2⟩, fun h => ⟨by omega, h.2⟩⟩]
  rw [← h1]
  by_cases hx : pgUp (f + sizes L) v.pl.pg ≤ a / v.pl.pg ∧ a / v.pl.pg < pgUp (f + sizes L) v.pl.pg + (f / v.pl.pg + j - pgUp (f + sizes L) v.pl.pg)
  · rw [if_pos hx]
    exact ⟨(fun h => by cases h), fun h => absurd (show pgUp (f + sizes L) v.pl.pg ≤ a / v.pl.pg ∧ a / v.pl.pg < f / v.pl.pg + j by omega) h.2⟩
  · rw [if_neg hx]
    exact ⟨fun h => ⟨h, fun h' => hx (by omega)⟩, fun h => h.1⟩
/-- A word that can be loaded is v2's. -/
theorem PkDone.ldV (d : PkDone v rs f t L v1 v2 j) {a : Nat} (ha : a < v.n) (hl : ¬ (pgUp (f + sizes L) v.pl.pg ≤ a / v.pl.pg ∧ a / v.pl.pg < f / v.pl.pg + j)) : (pkUm v v2 f (f + sizes L) j).ldV a = v2.ldV a := by
  obtain ⟨-, -, -, -, n2, p2⟩ := d.base
  exact umN_ldV d.st.ok _ _ (by rw [n2]; exact ha) (by rw [p2]; omega)
theorem PkDone.word (d : PkDone v rs f t L v1 v2 j) (h : VmOk v) (hn : f + sizes L ≤ v.n) {i : Nat} (hi : i < sizes L) : (pkUm v v2 f (f + sizes L) j).ldV ((f + i : Nat) : Int) = (rowP v1 L f L).getD i 0 := by
  have hp := h.page
  rw [d.ldV (by omega) (fun hx => by
    have h1 := (pgUp_le (nt := f + sizes L) (pg := v.pl.pg) hp.1).2 hx.1
    have := Nat.div_mul_le_self (f + i) v.pl.pg
    omega)]
  exact d.st.row i hi
/-- The new words, told of any memory with the same ones. -/
theorem rowP_wider {u : Vm} {n : Nat} (hw : Wider v u) (hM : Marks v rs n L) (hv : ∀ a : Nat, a < v.n → u.ldV a = v.ldV a) (hn : n ≤ v.n) (L' : List Ob) (fr : Nat) : ∀ P : List Ob, (∀ o ∈ P, o ∈ L) → rowP u L' fr P = rowP v L' fr P := fun P => by
  induction P with
  | nil => intro _; rfl
  | cons o r ih =>
    intro hP
    have ho := hP o (List.mem_cons_self ..)
    rw [rowP, rowP, ih (fun q hq => hP q (List.mem_cons_of_mem _ hq))]
    congr 1
    apply List.map_congr_left
    intro m hm
    rw [List.mem_range] at hm
    obtain ⟨-, h2, -⟩ := hM.mkd.ats o ho
    have h3 := (hM.mkd.good.sz o ho).2
    rw [pkW_at u L' fr o.1 m rfl, pkW_at v L' fr o.1 m rfl, (hw.rd h2).2, hv _ (by omega)]
end
/-- The next page count. -/
theorem pg_end {q0 pg tp j : Nat} (h1 : ∀ i, i < j → (q0 + i) * pg < tp) (h2 : tp ≤ (q0 + j) * pg) (q : Nat) (hq : q0 ≤ q) : q < q0 + j ↔ q * pg < tp := by
  constructor
  · intro h
    have := h1 (q - q0) (by omega)
    rwa [show q0 + (q - q0) = q by omega] at this
  · intro h
    rcases Nat.lt_or_ge q (q0 + j) with h' | h'
    · exact h'
    · exfalso
      have := Nat.mul_le_mul_right pg h'
      omega
/-- A laid heap has room for what is packed. -/
theorem need_in {v : Vm} (h : VmOk v) {f t : Nat} (ht : t ≤ v.n) (hl : ∀ a : Nat, f ≤ a → a < t → v.ldE a = 0) : needE v f t = 0 := by
  have hp := h.page
  unfold needE
  rw [if_neg (by omega)]
  by_cases hft : (t : Int) ≤ f
  · rw [if_pos hft]
  · rw [if_neg hft]
    have : unmL v ((f : Int) / v.pl.pg).toNat (pgsN v f t) = [] := by
      apply List.eq_nil_iff_forall_not_mem.2
      intro p hm
      rw [unmL_mem] at hm
      obtain ⟨⟨m1, m2⟩, m3⟩ := hm
      have e1 : ((f : Int) / (v.pl.pg : Int)).toNat = f / v.pl.pg := by rw [← Int.natCast_ediv]; exact Int.toNat_natCast _
      have g0 : f / v.pl.pg ≤ (t - 1) / v.pl.pg := Nat.div_le_div_right (by omega)
      have e2 : pgsN v f t = (t - 1) / v.pl.pg + 1 - f / v.pl.pg := by
        unfold pgsN
        rw [show (t : Int) - 1 = ((t - 1 : Nat) : Int) by omega, ← Int.natCast_ediv, ← Int.natCast_ediv]
        omega
      rw [e1] at m1 m2
      rw [e2] at m2
      have hq : ∃ a : Nat, f ≤ a ∧ a < t ∧ a / v.pl.pg = p := by
        rcases Nat.eq_or_lt_of_le m1 with h0 | h0
        · exact ⟨f, Nat.le_refl _, by omega, h0⟩
        · refine ⟨p * v.pl.pg, ?_, ?_, Nat.mul_div_cancel _ (by omega)⟩
          · have h1 := Nat.div_add_mod f v.pl.pg
            have h2 := Nat.mod_lt f (show 0 < v.pl.pg by omega)
            have h3 := Nat.mul_le_mul_right v.pl.pg (show f / v.pl.pg + 1 ≤ p by omega)
            rw [Nat.add_mul, Nat.one_mul, Nat.mul_comm] at h3
            omega
          · have h3 := Nat.mul_le_mul_right v.pl.pg (show p ≤ (t - 1) / v.pl.pg by omega)
            have h4 := Nat.div_mul_le_self (t - 1) v.pl.pg
            omega
      obtain ⟨a, a1, a2, rfl⟩ := hq
      have := hl a a1 a2
      rw [h.ldE_of (by omega), if_pos m3] at this
      cases this
    rw [this, List.length_nil, Nat.add_zero, if_pos]
    have h1 := h.pl.us
    have h2 := h.pl.le
    omega
end Go.Proofs.YtbmidhlilafgeaaGreatDoor
end
section
namespace Go.Proofs.YtbmidhlilafgeaaGreatDoor
open Go.RowKit Word

def x25 : LaidC := ⟨2, [⟨0, 0, 3⟩, ⟨0, 0, 3⟩, ⟨0, 0, 3⟩], [], [1], 0, 0, 0⟩
theorem x25_k : x25.k = 3 ∧ x25.page = 4 ∧ x25.at 1 = 8 ∧ x25.room = 5 ∧ x25.top = 16 ∧ x25.rs = [8] ∧ x25.n = 1028 := by decide +kernel
theorem live25 {v0 : Vm} {rm : Nat} (h : Run24 x25 rm v0) : Marks (layC x25 v0) x25.rs x25.n [(8, 4)] := by
  obtain ⟨e1, e2, e3, e4, e5, e6, e7⟩ := x25_k
  have hL := laid_in h.ok h.map
  obtain ⟨p, f, c, e, h1, h2, h3⟩ := hL.ob h.map (j := 1) (by rw [e1]; decide)
  rw [e3] at h1 h2 h3
  have e : (⟨0, 0, 3⟩ : Hdr) = ⟨p, f, c⟩ := e
  simp only [Hdr.mk.injEq] at e
  have hp : p = 0 ∧ f = 0 ∧ c = 3 := by omega
  obtain ⟨rfl, rfl, rfl⟩ := hp
  rw [e6, e7]
  have hr : Rch (layC x25 v0) [8] 8 := Rch.root (List.mem_singleton.2 rfl) (by decide)
  refine Marks.of ⟨⟨by simp, fun o ho => ?_⟩, fun o ho => ?_⟩ (fun r hr _ => ?_) (fun o ho => ?_)
  · rw [List.mem_singleton.1 ho]; simp
  · rw [List.mem_singleton.1 ho]; exact ⟨hr, h1, h3.symm⟩
  · rw [List.mem_singleton.1 hr]; exact ⟨(8, 4), List.mem_singleton.2 rfl, rfl⟩
  · rw [List.mem_singleton.1 ho]
    intro i hi
    have hi : (i : Int) < ((layC x25 v0).rdH ((8 : Nat) : Int)).p := hi
    rw [h2] at hi
    have hi : (i : Int) < 0 := hi
    omega
/-! Of nobody. -/
end Go.Proofs.YtbmidhlilafgeaaGreatDoor
end
section
namespace Go.Proofs.YtbmidhlilafgeaaGreatDoor
open Go.RowKit Go.Shelf Word
attribute [local go_sem] Oper.semAt_some

/-- A laid heap is packed. -/
theorem pk24_run {w w' : World} {x : LaidC} {rm q r g : Nat} {v0 : Vm} {SV : Nat → Prop} {rs : List Int} (hr : Run24 x rm v0) (hV : VmAt w' SV q (layC x v0)) (hR : RtAt w' r g rs) (hT : TabAt w) (hg : Gr w w') (hsv : ∀ i, SV i → w.heap.size ≤ i) (h1 : ¬ SV r) (h2 : ¬ SV g) (fr tp room : Int) :
    Calls Tryz.prog 28 #[.pointer (some ⟨q, 0, none⟩), .pointer (some ⟨r, 0, none⟩), .int .i64 fr, .int .i64 tp, .int .i64 room] w' (PkEnd w' SV q r g (layC x v0) rs fr tp room) := by
  have hs := hr.stays (Stays.layC hr.ok x)
  exact pk_run hV (by rw [hs.n]; have := x.page_pos; unfold LaidC.n; omega) hR (hg.tab hT.lt hT) (fun h => by have := hsv _ h; have := hT.lt; omega) h1 h2 fr tp room
/-- All of it is packed. -/
theorem run26_ok {x : LaidC} {rm : Nat} {v0 : Vm} {L : List Ob} (hr : Run24 x rm v0) (hM : Marks (layC x v0) x.rs x.n L) {room : Int} (h1 : 1 ≤ room) (h2 : room ≤ 4096)
    {W w' : World} {S : Nat → Prop} {q r g : Nat} {e : Ending} (h : PkEnd W S q r g (layC x v0) x.rs x.page x.top room e w') :
    e = .returned (.tuple #[.int .i64 ((x.page + sizes L : Nat) : Int), .int .i64 0]) ∧ Touch (fun b => b = g ∨ S b) W w' ∧ needE (layC x v0) x.page ((x.page + sizes L : Nat) : Int) = 0 ∧ x.page + sizes L ≤ x.top ∧
      ∃ v1 v2 j, PkDone (layC x v0) x.rs x.page x.top L v1 v2 j ∧ VmAt w' (plus S W) q (pkUm (layC x v0) v2 x.page (x.page + sizes L) j) ∧ RtAt w' r g (x.rs.map (toV L x.page)) := by
  have hst := Stays.layC hr.ok x
  have hs := hr.stays hst
  have hLI := laid_in (x := x) hr.ok hr.map
  have hmk := hLI.marks hr.map hM
  have ht := x.top_le
  have hp := x.page_pos
  have hn : x.n = x.page + 1024 := rfl
  have hin : PkIn (layC x v0) x.rs x.page x.top L := ⟨by rw [hs.n]; exact hM, fun o ho => by have := hmk.1 o ho; omega⟩
  have hall : x.page + sizes L ≤ x.top := by
    rcases Nat.eq_zero_or_pos L.length with h0 | h0
    · have : L = [] := List.eq_nil_of_length_eq_zero h0
      subst this
      simp only [sizes]; omega
    · have hj : L.length - 1 < L.length := by omega
      have e1 := pk_le hM.mkd.good (fun o ho => (hmk.1 o ho).1) hj
      have e2 := hmk.1 _ (List.getElem_mem hj)
      have e3 := sizes_take hj
      rw [show L.length - 1 + 1 = L.length by omega, List.take_length] at e3
      omega
  have hE : needE (layC x v0) x.page ((x.page + sizes L : Nat) : Int) = 0 := need_in hs.ok (by rw [hs.n]; omega) (fun a h1 h2 => by
    rw [hs.le a (by omega)]
    have := x.up_le
    rw [if_pos ⟨h1, by omega⟩])
  obtain ⟨ht', hc⟩ := h
  rcases hc with ⟨h0, -⟩ | ⟨-, (⟨h0, -⟩ | ⟨L', f, t, hI, hf, htt, hc⟩)⟩
  · rw [pkArg_true.2 ⟨by omega, by omega, by rw [hs.n]; omega, h1, h2⟩] at h0; cases h0
  · exact absurd hin (h0 L)
  · obtain rfl : x.page = f := by omega
    obtain rfl : x.top = t := by omega
    have e := hI.1.unique hin.1
    subst e
    rcases hc with ⟨h0, -⟩ | ⟨-, rfl, v1, v2, j, hD, hv, hrt⟩
    · exact absurd hE h0
    · exact ⟨rfl, ht', hE, hall, v1, v2, j, hD, hv, hrt⟩
/-- What packing the example leaves. -/
theorem live26_end {w w' : World} {q r g : Nat} {v0 : Vm} {S : Nat → Prop} {e : Ending} (h : Run24 x25 (5 + 0) v0) (hE : PkEnd w S q r g (layC x25 v0) x25.rs 4 16 9 e w') :
    e = .returned (.tuple #[.int .i64 8, .int .i64 0]) ∧ Touch (fun b => b = g ∨ S b) w w' ∧ (∃ v, VmAt w' (plus S w) q v ∧ v.pl.used = 1) ∧ RtAt w' r g [4] := by
  obtain ⟨e1, e2, e3, e4, e5, e6, e7⟩ := x25_k
  have hs := h.stays (Stays.layC h.ok x25)
  have hM := live25 h
  have hE' : PkEnd w S q r g (layC x25 v0) x25.rs (x25.page : Nat) (x25.top : Nat) 9 e w' := by rw [e2, e5]; exact hE
  obtain ⟨rfl, ht, hnd, hall, v1, v2, j, hD, hv, hrt⟩ := run26_ok h hM (by decide) (by decide) hE'
  have hz : sizes [(8, 4)] = 4 := rfl
  rw [e2, hz] at hnd hv hall
  rw [e5] at hall
  rw [e2, e5] at hD
  have hb := hD.base
  rw [hz] at hb
  have hpg : (layC x25 v0).pl.pg = 4 := by rw [hs.pg, e2]
  have hn : (layC x25 v0).n = 1028 := by rw [hs.n, e7]
  refine ⟨by rw [e2, hz]; rfl, ht, ⟨_, hv, ?_⟩, ?_⟩
  · refine used_run hb.2.2.2.1 (p0 := 1) (k := 1) (by rw [hb.2.1, hpg, hb.1, hn]; decide) (fun a ha => ?_)
    rw [hb.1, hn] at ha
    have h1 := hD.ldE hs.ok (a := a) (by rw [hz]; exact hnd) (by rw [hz, hn]; decide) (by rw [hn]; exact ha)
    rw [hz] at h1
    rw [h1, hpg, hb.2.1, hpg]
    have h2 := hs.le a (by rw [e7]; exact ha)
    rw [e2, e5, show upN 16 4 = 16 from rfl] at h2
    have h3 := hD.q2
    rw [hpg] at h3
    have h4 : pgUp (4 + 4) 4 = 2 := rfl
    rw [h4, h2]
    constructor
    · rintro ⟨(hx | ⟨-, hx⟩), hy⟩
      · split at hx
        · omega
        · cases hx
      · omega
    · intro hx
      exact ⟨.inl (if_pos (by omega)), by omega⟩
  · rw [e6, e2] at hrt
    exact hrt
set_option maxRecDepth 100000 in
set_option maxHeartbeats 3200000 in
theorem lives26 {w : World} (hT : TabAt w) : Gets Tryz.prog 27 #[] w (.bool true) := by
  have HT := hid hT
  clear hT
  unfold Gets
  go_enter Tryz.func27, Tryz.ntmps27
  have g1 : Gr w ((w.alloc (.cells #[.int .i64 0, .int .i64 0, .int .i64 3, .int .i64 0, .int .i64 0, .int .i64 3, .int .i64 0, .int .i64 0, .int .i64 3] 90)).alloc (.cells #[.int .u8 1] 5)) := ((Gr.refl w).alloc _).alloc _
  have r1 := (Rec.new w 90 [.int .i64 0, .int .i64 0, .int .i64 3, .int .i64 0, .int .i64 0, .int .i64 3, .int .i64 0, .int .i64 0, .int .i64 3]).gr ((Gr.refl _).alloc (.cells #[.int .u8 1] 5))
  have r2 := new2 w (.cells #[.int .i64 0, .int .i64 0, .int .i64 3, .int .i64 0, .int .i64 0, .int .i64 3, .int .i64 0, .int .i64 0, .int .i64 3] 90) 5 [.int .u8 1]
  have HL := hid (lay24_walk (w := ((w.alloc (.cells #[.int .i64 0, .int .i64 0, .int .i64 3, .int .i64 0, .int .i64 0, .int .i64 3, .int .i64 0, .int .i64 0, .int .i64 3] 90)).alloc (.cells #[.int .u8 1] 5))) (x := x25) (A1 := some ⟨w.heap.size, 0, none⟩) (A2 := none) (A3 := some ⟨w.heap.size + 1, 0, none⟩) (c1 := 3) (c2 := 0) (c3 := 1) (more := 0)
    ⟨fun i hi => by
        have hi : i < 3 := hi
        refine ⟨w.heap.size, 0, rfl, r1.lt, ?_⟩
        rcases (by omega : i = 0 ∨ i = 1 ∨ i = 2) with rfl | rfl | rfl
        · exact ⟨r1.cell (j := 0) rfl, r1.cell (j := 1) rfl, r1.cell (j := 2) rfl⟩
        · exact ⟨r1.cell (j := 3) rfl, r1.cell (j := 4) rfl, r1.cell (j := 5) rfl⟩
        · exact ⟨r1.cell (j := 6) rfl, r1.cell (j := 7) rfl, r1.cell (j := 8) rfl⟩, fun i hi => absurd hi (Nat.not_lt_zero _), fun i hi => by
        have hi : i < 1 := hi
        refine ⟨w.heap.size + 1, 0, rfl, r2.lt, ?_⟩
        obtain rfl : i = 0 := by omega
        exact ⟨show (1 : Nat) < 256 by decide, r2.cell (j := 0) rfl⟩, by decide, by decide, by decide, by decide, by decide, by decide, by decide⟩ (by decide))
  have HG1 := hid g1
  clear g1 r1 r2
  unfold laidV at HL
  go_upto_region 4 with (go_at_call 13; refine HL.out.mono ?_; rintro e w1 ⟨hp, q, r, g, A, c, v0, SV, rfl, hg1, hrn, hz0, hvm, hrt, hrec, hwr, hsv, hs1, hs2, hs3, hs4, hs5⟩; have HG := hid (HG1.out.trans hg1); have HV := hid hvm; have HRN := hid hrn; have HRT := hid hrt; have HRC := hid hrec; have HSV := hid (And.intro hsv (And.intro hs1 (And.intro hs2 (And.intro hs3 hs4)))); have HGL := hid hg1; clear hg1 hrn hz0 hvm hrt hrec hwr hsv hs1 hs2 hs3 hs4 hs5)
  have HCR : Hid (∀ W, Gr w1 W → Calls Tryz.prog 28 #[.pointer (some ⟨q, 0, none⟩), .pointer (some ⟨r, 0, none⟩), .int .i64 4, .int .i64 (x25.cf.tp : Nat), .int .i64 9] W fun e w' => e = .returned (.tuple #[.int .i64 8, .int .i64 0]) ∧ Touch (fun b => b = g ∨ SV b) W w' ∧ (∃ v, VmAt w' (plus SV W) q v ∧ v.pl.used = 1) ∧ RtAt w' r g [4]) := ⟨fun W hW =>
    (pk24_run HRN.out (HV.out.gr hW) (HRT.out.gr hW) HT.out (HG.out.trans hW) (fun i hi => by have := (HSV.out.1 i hi).1; have := HG1.out.size; omega) HSV.out.2.2.1 HSV.out.2.2.2.1 4 (x25.cf.tp : Nat) 9).mono (fun e w' h => live26_end HRN.out (by rw [show x25.cf.tp = 16 by decide +kernel] at h; exact h))⟩
  have HRK : Hid (∀ W W', Gr w1 W → Touch (fun b => b = g ∨ SV b) W W' → Rec W' hp 37 (heapL x25 q r (.slice A x25.n c))) := ⟨fun W W' hW t => (HRC.out.gr hW).touch t (fun h => by
    rcases h with h | h
    · exact own_ne HRT.out.row HRC.out (by decide) rfl rfl h.symm
    · exact HSV.out.2.1 h)⟩
  have HFG : Hid (∀ W', Touch (fun b => b = g ∨ SV b) w1.drew W' → Gr w W') := ⟨fun W' t => by
    have t1 : Touch (fun b => b = g ∨ SV b) w W' := ((HG.out.drew).touch _).trans t
    refine (t1.mono (T := fun _ => False) (fun i hi h => ?_)).gr
    have hz := HG1.out.size
    rcases h with h | h
    · have := HSV.out.2.2.2.2.2.2; omega
    · have := (HSV.out.1 i h).1; omega⟩
  unfold heapL at HRC HRK
  obtain ⟨cf, hcf⟩ : ∃ cf, cf = x25.cf := ⟨_, rfl⟩
  obtain ⟨pg, hpg⟩ : ∃ pg, pg = x25.page := ⟨_, rfl⟩
  obtain ⟨nn, hnn⟩ : ∃ nn, nn = x25.n := ⟨_, rfl⟩
  rw [← hcf, ← hpg, ← hnn] at HRC HRK
  rw [← hcf] at HCR
  clear hcf hpg hnn
  have z0 := HRC.out.cell (j := 0) rfl
  have z1 := HRC.out.cell (j := 1) rfl
  have z2 := HRC.out.cell (j := 2) rfl
  have z3 := HRC.out.cell (j := 3) rfl
  have z4 := HRC.out.cell (j := 4) rfl
  have z5 := HRC.out.cell (j := 5) rfl
  have z6 := HRC.out.cell (j := 6) rfl
  have z7 := HRC.out.cell (j := 7) rfl
  have z8 := HRC.out.cell (j := 8) rfl
  clear z0 z1 z2 z3 z4 z5 z6 z7 z8
  obtain ⟨Sx, hSx⟩ : ∃ Sx : World → Prop, Sx = fun W' => Rec W' hp 37 ([.pointer (some ⟨q, 0, none⟩), .pointer (some ⟨r, 0, none⟩), .int .i64 cf.fr, .int .i64 cf.tp, .int .i64 cf.to, .int .i64 cf.lm, .int .i64 cf.bk, .int .i64 cf.st, .int .i64 cf.ah, .slice A nn c, .int .i64 (pg : Nat)]) := ⟨_, rfl⟩
  have x0 : ∀ p : Held Sx, p.w.cell? ⟨hp, 0, none⟩ = some (.pointer (some ⟨q, 0, none⟩)) := fun p => by have h := Held.get hSx p; exact h.cell (j := 0) rfl
  have x1 : ∀ p : Held Sx, p.w.cell? ⟨hp, 1, none⟩ = some (.pointer (some ⟨r, 0, none⟩)) := fun p => by have h := Held.get hSx p; exact h.cell (j := 1) rfl
  have x3 : ∀ p : Held Sx, p.w.cell? ⟨hp, 3, none⟩ = some (.int .i64 cf.tp) := fun p => by have h := Held.get hSx p; exact h.cell (j := 3) rfl
  have HS : Hid (∀ W', Rec W' hp 37 ([.pointer (some ⟨q, 0, none⟩), .pointer (some ⟨r, 0, none⟩), .int .i64 cf.fr, .int .i64 cf.tp, .int .i64 cf.to, .int .i64 cf.lm, .int .i64 cf.bk, .int .i64 cf.st, .int .i64 cf.ah, .slice A nn c, .int .i64 (pg : Nat)]) → Sx W') := ⟨fun W' h => by rw [hSx]; exact h⟩
  have hS0 := HS.out _ (HRC.out.gr (Gr.refl w1).drew)
  have inst : Inhabited (Held Sx) := ⟨⟨_, hS0⟩⟩
  clear hSx
  refine wp_region_mixS Sx 19 [([0, 1, 2, 3, 4, 5, 6, 7, 8, 9, 10, 11, 12], 13)] [14, 15, 16, 17, 18] (by kernel_rfl) (by kernel_rfl) hS0 ?_
  refine segs_step ?_
  try simp only [opsAt, List.getElem?_cons_zero, List.getElem?_cons_succ]
  repeat (go_big_quiet_step (fail))
  refine wpQuiet_nil ?_
  go_wp2_with ((go_at_call 28; refine (HCR.out _ (Gr.refl _).drew).mono ?_; rintro e w2 ⟨rfl, ht2, hv2, hr2⟩; have HT2 := hid ht2; have HV2 := hid hv2; have HR2 := hid hr2; clear ht2 hv2 hr2))
  refine ⟨.inr (Held.of (HS.out _ (HRK.out _ _ (Gr.refl w1).drew HT2.out))), ?_⟩
  refine segs_end ?_
  try simp only [opsAt, List.getElem?_cons_zero, List.getElem?_cons_succ]
  repeat (go_big_quiet_step (fail))
  refine wpQuiet_nil ?_
  refine NoPanic.normal ?_
  clear x0 x1 x3 hS0 inst
  clear HS Sx
  have hb := HRK.out _ _ (Gr.refl w1).drew HT2.out
  have y0 := hb.cell (j := 0) rfl
  have y1 := hb.cell (j := 1) rfl
  obtain ⟨v2, hv2, hu2⟩ := HV2.out
  have HV3 := hid (vm_used hv2)
  have HGT := hid (rt_get HR2.out (i := 0) (by decide))
  have hbl := hb.lt
  have HV2' := hid hv2
  have HFW := hid (HFG.out _ HT2.out)
  clear hb hv2 HV3
  go_wp2_with (first
    | (go_at_call 65; refine HGT.out.mono ?_; rintro e w3 ⟨rfl, hg3⟩; have HG3 := hid hg3; have HV4 := hid (vm_used (HV2'.out.gr hg3)); rw [hu2] at HV4; have y0 := (hg3.cell hbl 0).trans y0; clear hg3 hu2)
    | (go_at_call 20; refine HV4.out.mono ?_; rintro e w4 ⟨rfl, rfl⟩))
  go_ret
  exact ⟨rfl, HFW.out.trans HG3.out⟩
/-! Of nobody. -/
end Go.Proofs.YtbmidhlilafgeaaGreatDoor
end
section
namespace Go.Proofs.YtbmidhlilafgeaaGreatDoor
open Go.RowKit Word

/-- A word that is no header that was laid. -/
def Val (y : Nat) : Prop := y ≤ 544 ∨ ∃ n, 1 ≤ n ∧ n ≤ 512 ∧ y = wrdC n
def Vals (x : LaidC) (k : Nat) (v : Vm) : Prop := ∀ a : Nat, Val (v.ldV a) ∨ ∃ j, j < k ∧ a = x.at j
section
variable {x : LaidC} {v0 : Vm}
theorem Vals.st {k : Nat} {v : Vm} (h : Vals x k v) (hv : VmOk v) (a : Int) {y : Nat} (hy : Val y) : Vals x k (v.st a y) := fun b => by
  by_cases hl : v.ldE a = 0
  · rw [hv.st_ldV y hl]
    split
    · exact .inl hy
    · exact h b
  · have : v.st a y = v := if_neg hl
    rw [this]
    exact h b
theorem fldC_vals {k : Nat} (a p : Nat) {v : Vm} {s : Vm × Nat × List Int} (hst : Stays v s.1) (h : Vals x k s.1) {M : Nat} (hM : s.2.1 + M ≤ 512) (m : Nat) (hm : m ≤ M) : Vals x k (fldC a p s m).1 ∧ (fldC a p s m).2.1 ≤ s.2.1 + m := by
  induction m with
  | zero => exact ⟨h, Nat.le_refl _⟩
  | succ m ih =>
    obtain ⟨h1, h2⟩ := ih (by omega)
    have hs := (hst.fldC a p m).1
    unfold fldC
    split
    · exact ⟨h1, by show (fldC a p s m).2.1 ≤ _; omega⟩
    · exact ⟨h1.st hs.ok _ (.inr ⟨_, by omega, by omega, rfl⟩), by show (fldC a p s m).2.1 + 1 ≤ _; omega⟩
theorem put_544 (i : Nat) : x.put i ≤ 544 := by
  have h1 := x.put_le i
  have h2 := x.top_le
  have h3 := x.page_pos
  omega
theorem obj_vals (hok : VmOk v0) (hz : ∀ a : Nat, v0.ldV a = 0) (hl : ∀ a : Nat, x.page ≤ a → a < x.top → v0.ldE a = 0) {k : Nat} (hk : k ≤ x.k) : Vals x k (objC x.page x.H v0 k).1 ∧ (objC x.page x.H v0 k).2.1 ≤ szC x.H k := by
  induction k with
  | zero => exact ⟨fun a => .inl (.inl (by show v0.ldV a ≤ 544; rw [hz a]; omega)), Nat.le_refl _⟩
  | succ k ih =>
    obtain ⟨h1, h2⟩ := ih (by omega)
    obtain ⟨p, f, c, e⟩ := hd_get (x := x) (j := k) (by omega)
    obtain ⟨n1, n2, n3, n4⟩ := at_next (x := x) (by omega) e
    have hp := x.page_pos
    have ht := x.top_le
    obtain ⟨hL, -⟩ := laid_obj hok hl (x := x) (k := k) (by omega)
    have hN : (hdrN (hdC x.H k)).toNat = 1 + p + f + c := by rw [e, show hdrN ⟨p, f, c⟩ = 1 + (p : Int) + f + c from if_pos (hdrE_of n3)]; omega
    have hlm : ∀ j : Nat, j ≤ p + f + c → v0.ldE (((x.at k : Nat) : Int) + j) = 0 := fun j hj => by
      have := hl (x.at k + j) (by omega) (by omega)
      rw [← this]; congr 1
    have hmk := mkVm_all (v := (objC x.page x.H v0 k).1) hL.st.ok (t := x.at k) (by omega) n3 (fun j hj => by rw [hL.st.sm.ldE]; exact hlm j hj)
    have hsm := hL.st.mkVm ((x.at k : Nat) : Int) ⟨p, f, c⟩
    have hE : objC x.page x.H v0 (k + 1) = fldC (x.at k) p (mkVm (objC x.page x.H v0 k).1 ((x.at k : Nat) : Int) ⟨p, f, c⟩, (objC x.page x.H v0 k).2) (p + f + c) := by
      show fldC (x.page + szC x.H k) (hdC x.H k).p.toNat (mkVm (objC x.page x.H v0 k).1 ((x.page + szC x.H k : Nat) : Int) (hdC x.H k), (objC x.page x.H v0 k).2) ((hdrN (hdC x.H k)).toNat - 1) = _
      rw [hN, e, show 1 + p + f + c - 1 = p + f + c by omega]
      rfl
    have hsz : szC x.H (k + 1) = szC x.H k + (1 + p + f + c) := by show szC x.H k + (hdrN (hdC x.H k)).toNat = _; rw [hN]
    have hat : x.at k = x.page + szC x.H k := rfl
    have hv : Vals x (k + 1) (mkVm (objC x.page x.H v0 k).1 ((x.at k : Nat) : Int) ⟨p, f, c⟩) := fun a => by
      rw [hmk.2]
      by_cases h0 : (a : Int) = ((x.at k : Nat) : Int)
      · exact .inr ⟨k, Nat.lt_succ_self k, by omega⟩
      · rw [if_neg h0]
        split
        · exact .inl (.inl (Nat.zero_le _))
        · rcases h1 a with h | ⟨j, hj, h⟩
          · exact .inl h
          · exact .inr ⟨j, by omega, h⟩
    have hf := fldC_vals (x.at k) p (s := (mkVm (objC x.page x.H v0 k).1 ((x.at k : Nat) : Int) ⟨p, f, c⟩, (objC x.page x.H v0 k).2)) hsm hv (M := p + f + c) (by show (objC x.page x.H v0 k).2.1 + (p + f + c) ≤ 512; omega) (p + f + c) (Nat.le_refl _)
    rw [hE]
    refine ⟨hf.1, Nat.le_trans hf.2 ?_⟩
    show (objC x.page x.H v0 k).2.1 + (p + f + c) ≤ _
    omega
theorem lay_vals (hok : VmOk v0) (hz : ∀ a : Nat, v0.ldV a = 0) (hl : ∀ a : Nat, x.page ≤ a → a < x.top → v0.ldE a = 0) : Vals x x.k (layC x v0) := by
  obtain ⟨h1, -⟩ := obj_vals hok hz hl (Nat.le_refl x.k)
  obtain ⟨hL, hF⟩ := laid_obj hok hl (x := x) (Nat.le_refl x.k)
  unfold layC
  split
  · exact h1
  · rename_i hne
    have key : ∀ n, Vals x x.k (ptrC x (x.fields v0) (objC x.page x.H v0 x.k).1 n) := fun n => by
      induction n with
      | zero => exact h1
      | succ n ih => exact ih.st (laid_ptr hl hL hF hne n).st.ok _ (.inl (put_544 _))
    exact key _
theorem wrd_no : ∀ n : Fin 513, 1 ≤ n.1 → tkOk (wrdC n.1) = false := by decide +kernel
/-- Where an object may be. -/
theorem weird_end {rm : Nat} (hr : Run24 x rm v0) (hz : ∀ a : Nat, v0.ldV a = 0) {a : Int} (hrd : (layC x v0).rdE a = 0) : a + (layC x v0).osz a ≤ x.top ∧ (x.page : Int) ≤ a := by
  have hLI := laid_in (x := x) hr.ok hr.map
  obtain ⟨h0, hl, -⟩ := rdE_zero hrd
  obtain ⟨b, rfl⟩ : ∃ b : Nat, a = b := ⟨a.toNat, by omega⟩
  rcases lay_vals hr.ok hz hr.map b with hv | ⟨j, hj, hj2⟩
  · exfalso
    have hE : tkE ((layC x v0).ldV b) = 0 := by
      unfold Vm.rdE at hrd
      rw [if_neg (by omega), if_neg (by omega), if_pos hl] at hrd
      exact hrd
    have hno : tkOk ((layC x v0).ldV b) = false := by
      rcases hv with hv | ⟨n, n1, n2, hv⟩
      · unfold tkOk
        rw [decide_eq_false (show ¬ (layC x v0).ldV b % 4294967296 / 16777216 = 165 by omega)]
        rfl
      · rw [hv]
        exact wrd_no ⟨n, by omega⟩ n1
    unfold tkE at hE
    rw [hno] at hE
    simp at hE
  · subst hj2
    obtain ⟨p', f', c', e', -, -, r⟩ := hLI.ob hr.map hj
    have := at_next (x := x) hj e'
    rw [r]
    omega
theorem one_len {l : List Nat} (hn : l.Nodup) {a : Nat} (h : ∀ p ∈ l, p = a) : l.length ≤ 1 := by
  match l, hn, h with
  | [], _, _ => decide
  | [_], _, _ => exact Nat.le_refl 1
  | p :: q :: r, hn, h =>
    have h1 := h p (by simp)
    have h2 := h q (by simp)
    simp only [List.nodup_cons, List.mem_cons, not_or] at hn
    omega
/-- There always is room. -/
theorem need26 {rm : Nat} (hr : Run24 x rm v0) (hrm : x.room ≤ rm) (hz : ∀ a : Nat, v0.ldV a = 0) {rs : List Int} {f t : Nat} {L : List Ob} (h1 : 1 ≤ f) (h2 : f ≤ t) (h3 : t ≤ x.n) (hI : PkIn (layC x v0) rs f t L) : needE (layC x v0) f ((f + sizes L : Nat) : Int) = 0 ∧ f + sizes L ≤ t := by
  have hs := hr.stays (Stays.layC hr.ok x)
  have hp := x.page_pos
  have ht := x.top_le
  have hup := x.up_le
  have hin : ∀ o ∈ L, f ≤ o.1 ∧ o.1 + o.2 ≤ t ∧ o.1 + o.2 ≤ x.top := fun o ho => by
    have h4 := hI.2 o ho
    obtain ⟨ha, hb, hc⟩ := hI.1.mkd.ats o ho
    have h5 := (weird_end hr hz hb).1
    omega
  have hall : f + sizes L ≤ t ∧ (L ≠ [] → f + sizes L ≤ x.top) := by
    rcases Nat.eq_zero_or_pos L.length with h0 | h0
    · have : L = [] := List.eq_nil_of_length_eq_zero h0
      subst this
      exact ⟨by simp only [sizes]; omega, fun h => absurd rfl h⟩
    · have hj : L.length - 1 < L.length := by omega
      have e1 := pk_le hI.1.mkd.good (fun o ho => (hin o ho).1) hj
      have e2 := hin _ (List.getElem_mem hj)
      have e3 := sizes_take hj
      rw [show L.length - 1 + 1 = L.length by omega, List.take_length] at e3
      exact ⟨by omega, fun _ => by omega⟩
  refine ⟨?_, hall.1⟩
  unfold needE
  rw [if_neg (by rw [hs.n]; omega)]
  by_cases hft : ((f + sizes L : Nat) : Int) ≤ (f : Int)
  · rw [if_pos hft]
  · rw [if_neg hft]
    have hne : L ≠ [] := fun e => hft (by rw [e]; simp only [sizes]; omega)
    have hT := hall.2 hne
    have e1 : ((f : Int) / ((layC x v0).pl.pg : Int)).toNat = f / x.page := by rw [hs.pg, ← Int.natCast_ediv]; exact Int.toNat_natCast _
    have e2 : pgsN (layC x v0) f ((f + sizes L : Nat) : Int) = (f + sizes L - 1) / x.page + 1 - f / x.page := by
      unfold pgsN
      rw [hs.pg, show ((f + sizes L : Nat) : Int) - 1 = ((f + sizes L - 1 : Nat) : Int) by omega, ← Int.natCast_ediv, ← Int.natCast_ediv]
      have : f / x.page ≤ (f + sizes L - 1) / x.page := Nat.div_le_div_right (by omega)
      omega
    have hmem : ∀ p ∈ unmL (layC x v0) ((f : Int) / (layC x v0).pl.pg).toNat (pgsN (layC x v0) f ((f + sizes L : Nat) : Int)), p = 0 := fun p hpm => by
      rw [unmL_mem, e1, e2] at hpm
      obtain ⟨⟨m1, m2⟩, m3⟩ := hpm
      have hb : p * x.page ≤ f + sizes L - 1 := by
        have h6 := Nat.mul_le_mul_right x.page (show p ≤ (f + sizes L - 1) / x.page by omega)
        have h7 := Nat.div_mul_le_self (f + sizes L - 1) x.page
        omega
      have hle := hs.le (p * x.page) (by omega)
      rw [hs.ok.ldE_of (by rw [hs.n]; omega), hs.pg, Nat.mul_div_cancel _ (by omega), if_pos m3] at hle
      split at hle
      · cases hle
      · rename_i hno
        rcases Nat.eq_zero_or_pos p with h | h
        · exact h
        · exact absurd ⟨Nat.le_mul_of_pos_left x.page h, by omega⟩ hno
    have hnd : (unmL (layC x v0) ((f : Int) / (layC x v0).pl.pg).toNat (pgsN (layC x v0) f ((f + sizes L : Nat) : Int))).Nodup := by
      unfold unmL
      exact (List.nodup_range' (step := 1)).filter _
    have h2l := one_len hnd hmem
    rw [if_pos]
    rw [hs.us, hs.rm]
    have hro : (x.top - 1) / x.page + 2 ≤ x.room := by
      unfold LaidC.room
      rw [show x.top - x.page + x.page - 1 = x.top - 1 by omega]
      have h13 : 1 ≤ (x.ah % 5 + 1) * max 1 (2 ^ (x.bk % 8) / x.page) := Nat.mul_pos (by omega) (by omega)
      omega
    omega
end
end Go.Proofs.YtbmidhlilafgeaaGreatDoor
end
section
namespace Go.Proofs.YtbmidhlilafgeaaGreatDoor
open Go.RowKit Word

/-- The row is a new one. -/
def ReachEndN (w : World) (v : Vm) (rs : List Int) (n : Nat) (e : Ending) (w' : World) : Prop :=
  ∃ A c L ok, e = .returned (.tuple #[.slice A (List.length L) c, .bool ok]) ∧ Gr w w' ∧ (ok = true → ObjsAt w' A L ∧ Marks v rs n L) ∧ (ok = false → ¬ Sound v rs n) ∧ ∀ a, A = some a → w.heap.size ≤ a.block
section
variable {w : World} {A0 A : Option Addr} {cp cr n M : Nat} {v : Vm} {rs : List Int}
set_option maxRecDepth 100000 in
set_option maxHeartbeats 6400000 in
theorem ref20n_reachedN (hf : FullN M v) (hW : Wrds w A0 cp M v) (hA : IntsAt w A rs) (hlen : rs.length ≤ 64) (hn1 : n ≤ 1100) : Calls Tryz.prog 78 #[.slice A0 M cp, .slice A rs.length cr, .int .i64 n] w (ReachEndN w v rs n) := by
  have HW := hid hW
  have HA := hid hA
  have HF := hid hf
  obtain ⟨ii, hii, hi0, hi1, hi2⟩ := info_parts infoIntV
  obtain ⟨R, hR⟩ : ∃ R, R = rs.length := ⟨_, rfl⟩
  have HRL := hid hR
  rw [← hR] at hlen ⊢
  clear hW hA hf hR
  go_enter Tryz.func78, Tryz.ntmps78
  go_wp2_with (fail)
  go_loopw [8, 9] (fun s8 s9 wr => ∃ (j N : Nat) (T : List Int) (vL : Value), j ≤ R ∧ N ≤ j ∧ Hid (Todo w wr vL N T) ∧ Hid (RowT v rs T ∧ ∀ r ∈ rs.take j, r ≠ 0 → r ∈ T) ∧ Hid (Touch (fun i => w.heap.size ≤ i) w wr) ∧ s8 = vL ∧ s9 = .int .i64 j) (fun _ s9 _ => R - (intOf s9).toNat)
  case atStart => exact ⟨0, 0, [], _, Nat.zero_le _, Nat.le_refl _, ⟨⟨own_nil _ _ _ _, rfl⟩⟩, ⟨RowT.nil _ _, fun r h => (by simp at h)⟩, ⟨Touch.refl _ _⟩, rfl, rfl⟩
  case round =>
    obtain ⟨j, N, T, vL, hj, hNj, HO, HP, HT, rfl, rfl⟩ := hrel
    obtain ⟨TA, tc, rfl, hc1, hc2⟩ := own_shape HO.out.own
    unfold maxLen at hc2
    by_cases hlast : j < R
    · have hjl : j < rs.length := by have := HRL.out; omega
      obtain ⟨b, o, rfl, hb, e0⟩ := HA.out j hjl
      have e0 := (HT.out.cell hb (by omega) _).trans e0
      have HTK : Hid (rs.take (j + 1) = rs.take j ++ [rs[j]] ∧ rs[j] ∈ rs) := ⟨List.take_succ_eq_append_getElem hjl, List.getElem_mem hjl⟩
      obtain ⟨y, hy⟩ : ∃ y, y = rs[j] := ⟨_, rfl⟩
      rw [← hy] at e0 HTK
      have HJ := hid hlast
      have hjI : (j : Int) < (R : Int) := by omega
      have hNb : N ≤ 64 := by omega
      have HNJ := hid hNj
      clear hb hy hlast hj hNj
      by_cases hy0 : y = 0
      · subst hy0
        go_wp2
        go_round
        case rel =>
          refine ⟨j + 1, N, T, _, HJ.out, by have := HNJ.out; omega, HO, ⟨HP.out.1, fun r h h0 => ?_⟩, HT, rfl, by go_num⟩
          rw [HTK.out.1] at h
          rcases List.mem_append.1 h with h | h
          · exact HP.out.2 r h h0
          · exact absurd (List.mem_singleton.1 h) h0
        case measure => have := HJ.out; simp [intOf]; omega
      · have d0 : (y != 0) = true := by simpa using hy0
        have HY := hid hy0
        have HI := hid (fun W (g : Gr wr W) => ref20_in (cp := tc) (HO.out.gr g).at HO.out.len (by unfold maxLen; omega) y)
        by_cases hm : y ∈ T
        · rw [decide_eq_true hm] at HI
          have HM := hid hm
          clear hm
          go_wp2_with (go_at_call 140; refine (HI.out _ (Gr.refl _)).mono ?_; rintro e w1 ⟨rfl, rfl⟩)
          go_round
          case rel =>
            refine ⟨j + 1, N, T, _, HJ.out, by have := HNJ.out; omega, HO, ⟨HP.out.1, fun r h h0 => ?_⟩, HT, rfl, by go_num⟩
            rw [HTK.out.1] at h
            rcases List.mem_append.1 h with h | h
            · exact HP.out.2 r h h0
            · rw [List.mem_singleton.1 h]; exact HM.out
          case measure => have := HJ.out; simp [intOf]; omega
        · rw [decide_eq_false hm] at HI
          have HM := hid hm
          clear hm
          go_wp2_with (first
            | (go_at_call 140; refine (HI.out _ (Gr.refl _)).mono ?_; rintro e w1 ⟨rfl, rfl⟩)
            | (at_builtin; refine wpList_append_lies _ rfl _ _ 30 rfl w.heap.size 3 ii _ 1 8 Tryz.underlying30 hii hi0 hi1 hi2 rfl (by decide) (.slice TA N tc) N (zs T) rfl (HO.out.own.alloc _) ⟨wr.heap.size, 0, none⟩ 1 1 [.int .i64 y] rfl rfl (World.news_of_block (cs := #[.int .i64 y]) (t := 3) (fr := (0, 0)) (heap_alloc_new wr (.cells #[.int .i64 y] 3))) (by simp [Value.oneCell']) (by omega) (by unfold maxLen; omega) (by omega) (by have := HT.out.size; rw [World.size_alloc]; omega) (wr.heap.size + 1) (by simp) ?_; intro g3 c3 w3 hown3 hgrow3 hat3 hlt3; have t3 : Touch (fun k => (Value.slice TA N tc).ownBlock = some k) wr w3 := (((Gr.refl _).alloc _).touch _).trans (grown_touch hgrow3 _ (fun k e _ => e)); have HT3 := hid t3; have HO3 := hid hown3; clear hown3 hgrow3 hat3 hlt3 t3))
          go_round
          case rel =>
            refine ⟨j + 1, N + 1, T ++ [y], .slice (some ⟨g3, 0, none⟩) (N + 1) c3, HJ.out, by have := HNJ.out; omega, ⟨⟨?_, by rw [List.length_append, HO.out.len]; rfl⟩⟩, ⟨HP.out.1.push HY.out (Rch.root HTK.out.2 HY.out) HM.out, fun r h h0 => ?_⟩, ⟨HT.out.trans (HT3.out.mono (fun i _ h => (own_lt HO.out.own h).1))⟩, rfl, by go_num⟩
            · unfold zs; rw [List.map_append]; exact HO3.out
            · rw [HTK.out.1] at h
              rcases List.mem_append.1 h with h | h
              · exact List.mem_append.2 (.inl (HP.out.2 r h h0))
              · exact List.mem_append.2 (.inr h)
          case measure => have := HJ.out; simp [intOf]; omega
    · obtain rfl : R = j := by omega
      have HS := hid (RefI.start (n := n) HP.out.1 (by have := HP.out.2; rwa [HRL.out, List.take_length] at this))
      clear hlast hj HP hc1 hc2
      go_wp2_with (fail)
      clear HRL
      go_loopw [8, 10, 11] (fun s8 s10 s11 wr => ∃ (i N : Nat) (T : List Int) (vL : Value) (OA : Option Addr) (oc : Nat) (L : List Ob), i ≤ n ∧ N ≤ 64 + 255 * i ∧ Hid (Todo w wr vL N T) ∧ Hid (RefI v rs n i T L) ∧ Hid (ObjsAt wr OA L) ∧ Hid (∀ a, OA = some a → vL.ownBlock ≠ some a.block ∧ w.heap.size ≤ a.block) ∧ Hid (Touch (fun i => w.heap.size ≤ i) w wr) ∧ s8 = vL ∧ s10 = .slice OA L.length oc ∧ s11 = .int .i64 i) (fun _ _ s11 _ => n + 1 - (intOf s11).toNat)
      case atStart => exact ⟨0, N, T, _, none, 0, [], Nat.zero_le _, by omega, HO, HS, ⟨fun i h => absurd h (Nat.not_lt_zero _)⟩, ⟨fun a h => by cases h⟩, HT, rfl, rfl, rfl⟩
      case round =>
        clear HS HO HT
        obtain ⟨i, N, T, vL, OA, oc, L, hin, hNi, HO, HR, HB, HD, HT, rfl, rfl, rfl⟩ := hrel
        have hNT := HO.out.len
        obtain ⟨TA, tc, rfl, hc1, hc2⟩ := own_shape HO.out.own
        unfold maxLen at hc2
        have HWr : Hid (Wrds wr A0 cp M v) := ⟨own_touch HW.out HT.out (fun g hg h => by have := (own_lt HW.out hg).2; omega)⟩
        by_cases hi : i < N
        · have hiT : i < T.length := by omega
          obtain ⟨b, tc', ea, hbw, -, -, hbl⟩ := own_form HO.out.own (by omega)
          simp only [Value.slice.injEq] at ea
          obtain ⟨rfl, -, rfl⟩ := ea
          have k0 := own_cell HO.out.own (zs_at hiT)
          have HIT := hid hiT
          obtain ⟨a, ha⟩ : ∃ a, a = T[i] := ⟨_, rfl⟩
          have HA1 : Hid (Rch v rs a) := ⟨by rw [ha]; exact (HR.out.row.rc _ (List.getElem_mem hiT)).2⟩
          rw [← ha] at k0
          have HAE : Hid (∃ h : i < T.length, T[i] = a) := ⟨⟨hiT, ha.symm⟩⟩
          have HII := hid hi
          have hiI : (i : Int) < (N : Int) := by omega
          have HNT := hid hNT
          have HBL := hid hbl
          have HRD := hid (ref15n_read HF.out HWr.out a)
          clear hi hNT hiT ha hbw hbl
          by_cases hE : v.rdE a = 0
          · obtain ⟨hap, hl, p, f, k, hh, hs⟩ := rdE_zero hE
            have hr := ldE_in hl
            rw [hh, hE] at HRD
            have HE := hid (And.intro hE hh)
            have hn4 := HF.out.n
            have ha4 : a < M := by omega
            have HSZ := hid (fun W => ref14_size hs W)
            have hN : hdrN ⟨p, f, k⟩ = 1 + (p : Int) + f + k := if_pos (hdrE_of hs)
            have HOZ : Hid (v.osz a = 1 + (p : Int) + f + k) := ⟨by unfold Vm.osz; rw [hh, hN]⟩
            rw [hN] at HSZ
            have hRec := hid (fun W => Rec.new W 90 [.int .i64 p, .int .i64 f, .int .i64 k])
            clear hE hl hh hN hn4 hr
            unfold hdrV at HRD
            go_upto_region 14 with (go_at_call 74; refine HRD.out.mono ?_; rintro e w1 ⟨rfl, hg1⟩; have HG1 := hid hg1; clear hg1)
            obtain ⟨w2, hw2⟩ : ∃ w2, w2 = w1.alloc (.cells #[.int .i64 p, .int .i64 f, .int .i64 k] 90) := ⟨_, rfl⟩
            have R2 := hRec.out w1
            obtain ⟨hq, hhq⟩ : ∃ hq, hq = w1.heap.size := ⟨_, rfl⟩
            rw [← hhq] at R2 ⊢
            have hg2 : Gr wr w2 := by rw [hw2]; exact HG1.out.alloc _
            have HHQ : Hid (wr.heap.size ≤ hq) := ⟨by rw [hhq]; exact HG1.out.size⟩
            simp only [List.toArray] at R2
            rw [← hw2] at R2 ⊢
            have HG2 := hid hg2
            have HZ2 := hid hg2.size
            have HR2 := hid R2
            have k2 := own_gr HO.out.own hg2
            have k2 := own_cell k2 (zs_at HIT.out)
            rw [HAE.out.2] at k2
            have HK2 := hid k2
            clear hw2 hhq HG1 R2 hg2 k2 hRec
            obtain ⟨Sx, hSx⟩ : ∃ Sx : World → Prop, Sx = fun W' => Gr w2 W' := ⟨_, rfl⟩
            have z0 : ∀ p' : Held Sx, p'.w.cell? ⟨b, i, none⟩ = some (.int .i64 a) := fun p' => ((Held.get hSx p').cell (Nat.lt_of_lt_of_le HBL.out HG2.out.size) i).trans HK2.out
            have z1 : ∀ p' : Held Sx, p'.w.cell? ⟨hq, 0, none⟩ = some (.int .i64 p) := fun p' => (HR2.out.gr (Held.get hSx p')).cell (j := 0) rfl
            have z2 : ∀ p' : Held Sx, p'.w.cell? ⟨hq, 1, none⟩ = some (.int .i64 f) := fun p' => (HR2.out.gr (Held.get hSx p')).cell (j := 1) rfl
            have z3 : ∀ p' : Held Sx, p'.w.cell? ⟨hq, 2, none⟩ = some (.int .i64 k) := fun p' => (HR2.out.gr (Held.get hSx p')).cell (j := 2) rfl
            have hS0 : Sx w2.drew := by rw [hSx]; exact (Gr.refl w2).drew
            have HSX := hid hSx
            have inst : Inhabited (Held Sx) := ⟨⟨_, hS0⟩⟩
            clear hSx
            have HADD := hid (fun W (g : Gr wr W) => ref13_add (c := oc) (HB.out.gr g) HR.out.mkd.good (by omega) a (1 + (p : Int) + f + k))
            unfold AddBack at HADD
            refine wp_region_mixS Sx 14 [([0, 1, 2, 3, 4, 5, 6], 7), ([], 8)] [9, 10, 11, 12, 13] (by kernel_rfl) (by kernel_rfl) hS0 ?_
            refine segs_step ?_
            simp only [opsAt, List.getElem?_cons_zero, List.getElem?_cons_succ]
            repeat (go_big_quiet_step (fail))
            refine wpQuiet_nil ?_
            go_wp2_with (go_at_call 142; refine (HSZ.out _).mono ?_; rintro e w3 ⟨rfl, hg3⟩; have HG3 := hid ((Gr.refl w2).drew.trans hg3); clear hg3)
            refine ⟨.inr (Held.of (by rw [HSX.out]; exact HG3.out)), ?_⟩
            refine segs_step ?_
            simp only [opsAt, List.getElem?_cons_zero, List.getElem?_cons_succ]
            refine wpQuiet_nil ?_
            go_wp2_with (go_at_call 141; refine (HADD.out _ (HG2.out.trans HG3.out)).mono ?_; rintro e w4 ⟨vb, rfl, hb4⟩; have HB4 := hid hb4; clear hb4)
            refine ⟨.inr (Held.of (by rw [HSX.out]; exact HG3.out.trans HB4.out.1)), ?_⟩
            refine segs_end ?_
            simp only [opsAt, List.getElem?_cons_zero, List.getElem?_cons_succ]
            repeat (go_big_quiet_step (fail))
            refine wpQuiet_nil ?_
            refine NoPanic.normal ?_
            have HG4 := hid (HG2.out.trans (HG3.out.trans HB4.out.1))
            have HR4 := hid (HR2.out.gr (HG3.out.trans HB4.out.1))
            obtain ⟨y, hy⟩ : ∃ y, y = addE L n a (1 + (p : Int) + f + k) := ⟨_, rfl⟩
            rw [← hy]
            clear z0 z1 z2 z3 hS0 inst HADD HSX HK2 HG2
            clear Sx
            by_cases hE0 : y = 0
            · subst hE0
              have HAD := hid hy
              obtain ⟨hg4, OB, ob, rfl, hob, hbn⟩ := HB4.out
              have HLN : Hid (addL L n a (1 + (p : Int) + f + k) ≠ []) := ⟨fun h => by have := add_len (L := L) (n := n) hy.symm; rw [h] at this; simp at this⟩
              obtain ⟨L2, hM⟩ : ∃ L2, L2 = addL L n a (1 + (p : Int) + f + k) := ⟨_, rfl⟩
              rw [← hM] at hob HLN ⊢
              have HMM := hid hM
              obtain ⟨go, rfl, hgl, -, -⟩ := hob 0 (List.length_pos_iff.2 HLN.out)
              have HGO : Hid (b ≠ go) := ⟨fun e => by
                subst e
                rcases hbn _ rfl with h | h
                · exact (HD.out _ h).1 rfl
                · have := HG3.out.size; have := HBL.out; have := HZ2.out
                  have h : w3.heap.size ≤ b := h
                  omega⟩
              have HGF : Hid (w.heap.size ≤ go) := ⟨by
                rcases hbn _ rfl with h | h
                · exact (HD.out _ h).2
                · have h1 := HG3.out.size
                  have h2 := HT.out.size
                  have h3 := HZ2.out
                  have h : w3.heap.size ≤ go := h
                  omega⟩
              have HOB := hid hob
              have HTD := hid (HO.out.gr HG4.out)
              have HT4 := hid (HT.out.trans (HG4.out.touch (fun i => w.heap.size ≤ i)))
              have HGL := hid hgl
              clear hy hob hbn hM HB4 HG3 HR2 hg4 hgl hc1 hc2
              go_wp2_with (fail)
              have HRW := hid (HR.out.row)
              have HCL : Hid (RowT v rs T ∧ (∃ W, T = T ++ W) ∧ ClT v T a 0) := ⟨⟨HR.out.row, ⟨[], (List.append_nil _).symm⟩, fun i h => absurd h (Nat.not_lt_zero _)⟩⟩
              go_loopw [8, 16] (fun s8 s16 wx => ∃ (q N' : Nat) (U : List Int) (vL : Value), q ≤ p ∧ N' ≤ N + q ∧ Hid (Todo w wx vL N' U) ∧ Hid (RowT v rs U ∧ (∃ W, U = T ++ W) ∧ ClT v U a q) ∧ Hid (ObjsAt wx (some ⟨go, 0, none⟩) L2) ∧ Hid (vL.ownBlock ≠ some go ∧ go < wx.heap.size) ∧ Hid (Rec wx hq 90 [.int .i64 p, .int .i64 f, .int .i64 k]) ∧ Hid (Touch (fun i => w.heap.size ≤ i) w wx) ∧ s8 = vL ∧ s16 = .int .i64 q) (fun _ s16 _ => p - (intOf s16).toNat)
              case atStart => exact ⟨0, N, T, _, Nat.zero_le _, by omega, HTD, HCL, HOB, ⟨⟨fun e => HGO.out (Option.some.inj e), HGL.out⟩⟩, HR4, HT4, rfl, rfl⟩
              case round =>
                clear HTD HCL HOB HR4 HT4 HGL
                obtain ⟨q, N', U, vL, hqp, hNq, HO', HP', HB', HD', HR', HT', rfl, rfl⟩ := hrel
                obtain ⟨W, hW⟩ := HP'.out.2.1
                have HU := hid hW
                have hiU : i < U.length := by rw [hW, List.length_append]; have := HIT.out; omega
                have hUa : U[i] = a := by
                  have e : U[i]? = some a := by rw [hW, List.getElem?_append_left HIT.out, List.getElem?_eq_getElem HIT.out, HAE.out.2]
                  exact Option.some.inj ((List.getElem?_eq_getElem hiU).symm.trans e)
                have hNU := HO'.out.len
                have hiN : i < N' := by omega
                have hiN2 : (i : Int) < (N' : Int) := by omega
                obtain ⟨b', tc', ea, -, -, -, hbl'⟩ := own_form HO'.out.own (by omega)
                obtain ⟨TA', tcc, eb, hd1, hd2⟩ := own_shape HO'.out.own
                unfold maxLen at hd2
                subst ea
                simp only [Value.slice.injEq] at eb
                obtain ⟨rfl, -, rfl⟩ := eb
                have k0 := own_cell HO'.out.own (zs_at hiU)
                rw [hUa] at k0
                have y0 := HR'.out.cell (j := 0) rfl
                have HWx : Hid (Wrds wr A0 cp M v) := ⟨own_touch HW.out HT'.out (fun g hg h => by have := (own_lt HW.out hg).2; omega)⟩
                clear hW hUa hNU hbl'
                by_cases hq2 : q < p
                · have HQ2 := hid hq2
                  have hqI : (q : Int) < (p : Int) := by omega
                  have HNQ := hid hNq
                  have HGT := hid (ref15n_get HF.out HWx.out a q)
                  have HPT : Hid ((q : Int) < (v.rdH a).p) := ⟨by rw [HE.out.2]; exact Int.ofNat_lt.2 hq2⟩
                  have hb6 : N' ≤ 300000 := by omega
                  clear hq2 hqp hNq
                  by_cases hpe : v.ptE a q = 0
                  · have hx := ptV_le hpe
                    have HPE := hid hpe
                    rw [hpe] at HGT
                    obtain ⟨x, hxv⟩ : ∃ x, x = v.ptV a q := ⟨_, rfl⟩
                    rw [← hxv] at HGT hx
                    have HXV := hid hxv
                    clear hpe hxv
                    by_cases hx0 : x = 0
                    · subst hx0
                      have HXV : Hid (v.ptV a q = 0) := ⟨HXV.out.symm⟩
                      go_wp2_with (go_at_call 143; refine HGT.out.mono ?_; rintro e w1 ⟨rfl, hg1⟩; have HG1 := hid hg1; clear hg1)
                      go_round
                      case rel => exact ⟨q + 1, N', U, _, HQ2.out, by have := HNQ.out; omega, ⟨HO'.out.gr HG1.out⟩, ⟨⟨HP'.out.1, HP'.out.2.1, HP'.out.2.2.succ HPE.out (fun h => absurd HXV.out h)⟩⟩, ⟨HB'.out.gr HG1.out⟩, ⟨⟨HD'.out.1, Nat.lt_of_lt_of_le HD'.out.2 HG1.out.size⟩⟩, ⟨HR'.out.gr HG1.out⟩, ⟨HT'.out.trans (HG1.out.touch _)⟩, rfl, by go_num⟩
                      case measure => have := HQ2.out; simp [intOf]; omega
                    · have d1 : (x != 0) = true := by simpa using hx0
                      have d2 : ((x : Int) != 0) = true := by simp; exact hx0
                      have hw0 : (x : Int) % 18446744073709551616 = (x : Int) := by omega
                      have hx1 : ¬ (x : Int) = 0 := by omega
                      have HX0 := hid hx0
                      have HI := hid (fun W (g : Gr wr W) => ref20_in (cp := tc') (HO'.out.gr g).at HO'.out.len (by unfold maxLen; omega) (x : Int))
                      by_cases hm : (x : Int) ∈ U
                      · rw [decide_eq_true hm] at HI
                        have HM := hid hm
                        clear hm
                        go_wp2_with (first
                          | (go_at_call 143; refine HGT.out.mono ?_; rintro e w1 ⟨rfl, hg1⟩; have HG1 := hid hg1; clear hg1)
                          | (go_at_call 140; refine (HI.out _ HG1.out).mono ?_; rintro e w2 ⟨rfl, rfl⟩))
                        go_round
                        case rel => exact ⟨q + 1, N', U, _, HQ2.out, by have := HNQ.out; omega, ⟨HO'.out.gr HG1.out⟩, ⟨⟨HP'.out.1, HP'.out.2.1, HP'.out.2.2.succ HPE.out (fun _ => by rw [← HXV.out]; exact HM.out)⟩⟩, ⟨HB'.out.gr HG1.out⟩, ⟨⟨HD'.out.1, Nat.lt_of_lt_of_le HD'.out.2 HG1.out.size⟩⟩, ⟨HR'.out.gr HG1.out⟩, ⟨HT'.out.trans (HG1.out.touch _)⟩, rfl, by go_num⟩
                        case measure => have := HQ2.out; simp [intOf]; omega
                      · rw [decide_eq_false hm] at HI
                        have HM := hid hm
                        clear hm
                        go_wp2_with (first
                          | (go_at_call 143; refine HGT.out.mono ?_; rintro e w1 ⟨rfl, hg1⟩; have HG1 := hid hg1; have HO1 := hid (HO'.out.gr hg1); clear hg1)
                          | (go_at_call 140; refine (HI.out _ HG1.out).mono ?_; rintro e w2 ⟨rfl, rfl⟩)
                          | (at_builtin; refine wpList_append_lies _ rfl _ _ 30 rfl w.heap.size 3 ii _ 1 8 Tryz.underlying30 hii hi0 hi1 hi2 rfl (by decide) (.slice (some ⟨b', 0, none⟩) N' tc') N' (zs U) rfl (HO1.out.own.alloc _) ⟨w1.heap.size, 0, none⟩ 1 1 [.int .i64 x] rfl rfl (World.news_of_block (cs := #[.int .i64 x]) (t := 3) (fr := (0, 0)) (heap_alloc_new w1 (.cells #[.int .i64 x] 3))) (by simp [Value.oneCell']) (by omega) (by unfold maxLen; omega) (by omega) (by have := HT'.out.size; have := HG1.out.size; rw [World.size_alloc]; omega) (w1.heap.size + 1) (by simp) ?_; intro g3 c3 w3 hown3 hgrow3 hat3 hlt3; have t3 : Touch (fun k => (Value.slice (some ⟨b', 0, none⟩) N' tc').ownBlock = some k) w1 w3 := (((Gr.refl _).alloc _).touch _).trans (grown_touch hgrow3 _ (fun k e _ => e)); have HT3 := hid t3; have HO3 := hid hown3; have HA3 := hid hat3; clear hown3 hgrow3 hat3 hlt3 t3))
                        go_round
                        case rel =>
                          have t1 := (HG1.out.touch (fun k => (Value.slice (some ⟨b', 0, none⟩) N' tc').ownBlock = some k)).trans HT3.out
                          obtain ⟨V, hV⟩ := HP'.out.2.1
                          have hpt : Points v a (x : Int) := ⟨HE.out.1, q, HPT.out, HPE.out, by rw [← HXV.out]; exact HX0.out, by rw [← HXV.out]⟩
                          refine ⟨q + 1, N' + 1, U ++ [(x : Int)], .slice (some ⟨g3, 0, none⟩) (N' + 1) c3, HQ2.out, by have := HNQ.out; omega, ⟨⟨?_, by rw [List.length_append, HO'.out.len]; rfl⟩⟩, ⟨HP'.out.1.push (by have := HX0.out; omega) (HA1.out.step hpt) HM.out, ⟨V ++ [(x : Int)], by rw [hV, List.append_assoc]⟩, (HP'.out.2.2.mono (fun y hy => List.mem_append.2 (.inl hy))).succ HPE.out (fun _ => by rw [← HXV.out]; exact List.mem_append.2 (.inr (List.mem_singleton.2 rfl)))⟩, ⟨HB'.out.touch t1 (fun a e h => by cases e; exact HD'.out.1 h)⟩, ⟨fun e => ?_, Nat.lt_of_lt_of_le HD'.out.2 t1.size⟩, ⟨HR'.out.touch t1 (fun e => own_ne HO'.out.own HR'.out (by decide) e rfl rfl)⟩, ⟨HT'.out.trans (t1.mono (fun i _ h => (own_lt HO'.out.own h).1))⟩, rfl, by go_num⟩
                          · unfold zs; rw [List.map_append]; exact HO3.out
                          · have e : g3 = go := Option.some.inj e
                            subst e
                            rcases HA3.out with h | h
                            · exact HD'.out.1 h
                            · have := HD'.out.2; have := HG1.out.size; omega
                        case measure => have := HQ2.out; simp [intOf]; omega
                  · obtain ⟨y, hy⟩ : ∃ y, y = v.ptE a q := ⟨_, rfl⟩
                    have hyn : ¬ y = 0 := by rw [hy]; exact hpe
                    have d2 : (y != 0) = true := by simpa using hyn
                    have d3 : (y == 0) = false := by simpa using hyn
                    rw [← hy] at HGT
                    have HPE := hid hpe
                    clear hpe hy
                    go_wp2_with (go_at_call 143; refine HGT.out.mono ?_; rintro e w1 ⟨rfl, hg1⟩; have HG1 := hid hg1; clear hg1)
                    go_ret2
                    exact ⟨none, 0, [], false, rfl, (touch_old HT'.out).trans HG1.out, fun h => (by cases h), fun _ hS => HPE.out (hS.pt a HA1.out q HPT.out), fun _ h => by cases h⟩
                · obtain rfl : p = q := by omega
                  have HNX : Hid (RefI v rs n (i + 1) U L2) := ⟨by
                    have hA := HAE.out.2
                    have e1 := HOZ.out
                    have := HR.out.next (U := U) HIT.out (by rw [hA]; exact HE.out.1) (by rw [hA, e1]; exact HAD.out.symm) HP'.out.1 HP'.out.2.1 (by
                      rw [hA]
                      intro kk i' _ hi'
                      refine HP'.out.2.2 i' ?_ hi'
                      rw [HE.out.2] at hi'
                      exact Int.ofNat_lt.1 hi')
                    rwa [hA, e1, ← HMM.out] at this⟩
                  have HIN : Hid (i + 1 ≤ n) := ⟨by rw [← HNX.out.len]; exact HNX.out.mkd.good.len⟩
                  clear hq2 hqp
                  go_wp2
                  go_round
                  case rel =>
                    exact ⟨i + 1, N', U, _, some ⟨go, 0, none⟩, ob, L2, HIN.out, by omega, HO', HNX, HB', ⟨fun a e => by cases e; exact ⟨HD'.out.1, HGF.out⟩⟩, HT', rfl, rfl, by go_num⟩
                  case measure => have := HIN.out; simp [intOf]; omega
            · have d2 : (y != 0) = true := by simpa using hE0
              have d3 : (y == 0) = false := by simpa using hE0
              have HEY : Hid (addE L n (T[i]'HIT.out) (v.osz (T[i]'HIT.out)) ≠ 0) := ⟨by rw [HAE.out.2, HOZ.out, ← hy]; exact hE0⟩
              clear hy
              go_wp2
              go_ret2
              exact ⟨none, 0, [], false, rfl, (touch_old HT.out).trans HG4.out, fun h => (by cases h), fun _ hS => HR.out.fail_add HIT.out HEY.out hS, fun _ h => by cases h⟩
          · obtain ⟨y, hy⟩ : ∃ y, y = v.rdE a := ⟨_, rfl⟩
            have hyn : ¬ y = 0 := by rw [hy]; exact hE
            have d2 : (y != 0) = true := by simpa using hyn
            have d3 : (y == 0) = false := by simpa using hyn
            rw [← hy] at HRD
            have HE := hid hE
            clear hE hy
            unfold hdrV at HRD
            go_wp2_with (go_at_call 74; refine HRD.out.mono ?_; rintro e w1 ⟨rfl, hg1⟩; have HG1 := hid hg1; clear hg1)
            go_ret2
            exact ⟨none, 0, [], false, rfl, (touch_old HT.out).trans (HG1.out.alloc _), fun h => (by cases h), fun _ hS => HE.out (hS.rd a HA1.out), fun _ h => by cases h⟩
        · obtain rfl : i = N := by have := HR.out.le; omega
          have HM := hid (HR.out.done (by rw [← HO.out.len]))
          clear hi HR HWr
          go_wp2
          go_ret2
          exact ⟨_, _, L, true, rfl, touch_old HT.out, fun _ => ⟨HB.out, HM.out⟩, (fun h => by cases h), fun a h => (HD.out a h).2⟩
end
end Go.Proofs.YtbmidhlilafgeaaGreatDoor
end
section
namespace Go.Proofs.YtbmidhlilafgeaaGreatDoor
open Go.RowKit Word

def farC (n1 n2 n3 : Nat) : Bool := decide (80 < n1 ∨ 300 < n2 ∨ 64 < n3)
set_option maxRecDepth 100000 in
set_option maxHeartbeats 800000 in
theorem far24 (v0 v4 v5 v6 : Value) (A1 A2 A3 : Option Addr) (n1 n2 n3 c1 c2 c3 : Nat) (w : World) : Calls Tryz.prog 14 #[.agg #[v0, .slice A1 n1 c1, .slice A2 n2 c2, .slice A3 n3 c3, v4, v5, v6]] w fun e w' => e = .returned (.bool (farC n1 n2 n3)) ∧ Gr w w' := by
  have R := Rec.new w 25 [v0, .slice A1 n1 c1, .slice A2 n2 c2, .slice A3 n3 c3, v4, v5, v6]
  have y0 := R.cell (j := 0) rfl
  have y1 := R.cell (j := 1) rfl
  have y2 := R.cell (j := 2) rfl
  have y3 := R.cell (j := 3) rfl
  have yl := R.lt
  have HG := hid ((Gr.refl w).alloc (.cells #[v0, .slice A1 n1 c1, .slice A2 n2 c2, .slice A3 n3 c3, v4, v5, v6] 25))
  have HF : Hid (farC n1 n2 n3 = decide (80 < n1 ∨ 300 < n2 ∨ 64 < n3)) := ⟨rfl⟩
  clear R
  by_cases h1 : 80 < n1
  · have d1 : decide ((80 : Int) < (n1 : Int)) = true := decide_eq_true (by omega)
    have e1 : decide (80 < n1) = true := decide_eq_true h1
    have HE : Hid (farC n1 n2 n3 = true) := ⟨by rw [HF.out]; exact decide_eq_true (.inl h1)⟩
    rw [HE.out]
    go_enter Tryz.func14, Tryz.ntmps14
    go_wp2
    go_ret
    exact ⟨rfl, HG.out⟩
  · have d1 : decide ((80 : Int) < (n1 : Int)) = false := decide_eq_false (by omega)
    have e1 : decide (80 < n1) = false := decide_eq_false h1
    by_cases h2 : 300 < n2
    · have d2 : decide ((300 : Int) < (n2 : Int)) = true := decide_eq_true (by omega)
      have e2 : decide (300 < n2) = true := decide_eq_true h2
      have HE : Hid (farC n1 n2 n3 = true) := ⟨by rw [HF.out]; exact decide_eq_true (.inr (.inl h2))⟩
      rw [HE.out]
      go_enter Tryz.func14, Tryz.ntmps14
      go_wp2
      go_ret
      exact ⟨rfl, HG.out⟩
    · have d2 : decide ((300 : Int) < (n2 : Int)) = false := decide_eq_false (by omega)
      have e2 : decide (300 < n2) = false := decide_eq_false h2
      by_cases h3 : 64 < n3
      · have d3 : decide ((64 : Int) < (n3 : Int)) = true := decide_eq_true (by omega)
        have e3 : decide (64 < n3) = true := decide_eq_true h3
        have HE : Hid (farC n1 n2 n3 = true) := ⟨by rw [HF.out]; exact decide_eq_true (.inr (.inr h3))⟩
        rw [HE.out]
        go_enter Tryz.func14, Tryz.ntmps14
        go_wp2
        go_ret
        exact ⟨rfl, HG.out⟩
      · have d3 : decide ((64 : Int) < (n3 : Int)) = false := decide_eq_false (by omega)
        have e3 : decide (64 < n3) = false := decide_eq_false h3
        have HE : Hid (farC n1 n2 n3 = false) := ⟨by rw [HF.out]; exact decide_eq_false (by omega)⟩
        rw [HE.out]
        go_enter Tryz.func14, Tryz.ntmps14
        go_wp2
        go_ret
        exact ⟨rfl, HG.out⟩
set_option maxRecDepth 100000 in
set_option maxHeartbeats 3200000 in
theorem loaded25 {w : World} {S : Nat → Prop} {q : Nat} {v : Vm} (hV : VmAt w S q v) (hn : v.n ≤ 1100) :
    Calls Tryz.prog 19 #[.pointer (some ⟨q, 0, none⟩)] w fun e w' => ∃ (A : Option Addr) (c : Nat), e = .returned (.slice A v.n c) ∧ Gr w w' ∧ w'.ownsRow w.heap.size 50 1 (.slice A v.n c) v.n (wrds v v.n) := by
  have HV := hid hV.cut
  have HWD := hid (vm_words hV)
  obtain ⟨ii, hii, hi0, hi1, hi2⟩ := info_parts infoU64
  obtain ⟨n, hne⟩ : ∃ n, n = v.n := ⟨_, rfl⟩
  rw [← hne] at hn HWD ⊢
  clear hV hne
  go_enter Tryz.func19, Tryz.ntmps19
  go_wp2_with (go_at_call 33; refine HWD.out.mono ?_; rintro e w6 ⟨rfl, rfl⟩)
  go_loopw [3, 9] (fun s3 s9 wr => ∃ (k : Nat) (vL : Value), k ≤ n ∧ Hid (wr.ownsRow w.heap.size 50 1 vL k (wrds v k)) ∧ Hid (Touch (fun i => w.heap.size ≤ i) w wr) ∧ s3 = vL ∧ s9 = .int .i64 k) (fun _ s9 _ => n - (intOf s9).toNat)
  case atStart => exact ⟨0, _, Nat.zero_le _, ⟨own_nil _ _ _ _⟩, ⟨Touch.refl _ _⟩, rfl, rfl⟩
  case round =>
    obtain ⟨k, vL, hk, HO, HT, rfl, rfl⟩ := hrel
    obtain ⟨A5, c5, rfl, hc5, hc6⟩ := own_shape HO.out
    unfold maxLen at hc6
    by_cases hlast : k < n
    · have hkI : (k : Int) < (n : Int) := by omega
      have HLD := hid (vm_load (HV.out.touch HT.out (fun b hb h1 h2 => by have := hb.2; omega)) (k : Int))
      have HSN : Hid (wrds v k ++ [.int .u64 ((v.ldV (k : Int) : Nat) : Int)] = wrds v (k + 1)) := ⟨by unfold wrds; rw [List.range_succ, List.map_append]; rfl⟩
      obtain ⟨y, hy⟩ : ∃ y, y = v.ldV (k : Int) := ⟨_, rfl⟩
      rw [← hy] at HLD HSN
      have HKN := hid (And.intro hk hlast)
      clear hy hk
      go_wp2_with (first
        | (go_at_call 64; refine HLD.out.mono ?_; rintro e w7 ⟨rfl, hg7⟩; have HG7 := hid hg7; have HO7 := hid (own_gr HO.out hg7); clear hg7)
        | (at_builtin; refine wpList_append_lies _ rfl _ _ 35 rfl w.heap.size 50 ii _ 1 8 Tryz.underlying35 hii hi0 hi1 hi2 rfl (by decide) (.slice A5 k c5) k (wrds v k) rfl (HO7.out.alloc _) ⟨w7.heap.size, 0, none⟩ 1 1 [.int .u64 (y : Nat)] rfl rfl (World.news_of_block (cs := #[.int .u64 (y : Nat)]) (t := 50) (fr := (0, 0)) (heap_alloc_new w7 (.cells #[.int .u64 (y : Nat)] 50))) (by simp [Value.oneCell']) (by have := HKN.out; omega) (by unfold maxLen; have := HKN.out; omega) (by have := HKN.out; omega) (by have := HT.out.size; have := HG7.out.size; rw [World.size_alloc]; omega) (w7.heap.size + 1) (by simp) ?_; intro g4 c4 w8 hown4 hgrow4 hat4 hlt4; have t4 : Touch (fun k' => (Value.slice A5 k c5).ownBlock = some k') w7 w8 := (((Gr.refl _).alloc _).touch _).trans (grown_touch hgrow4 _ (fun k e _ => e)); have HT4 := hid t4; have HO4 := hid hown4; clear hown4 hgrow4 hat4 hlt4 t4))
      go_round
      case rel =>
        refine ⟨k + 1, _, by have := HKN.out; omega, ⟨by rw [← HSN.out]; exact HO4.out⟩, ⟨(HT.out.trans (HG7.out.touch _)).trans (HT4.out.mono (fun i _ h => (own_lt HO7.out h).1))⟩, rfl, by go_num⟩
      case measure => have := HKN.out; simp [intOf]; omega
    · have hkI : ¬ (k : Int) < (n : Int) := by omega
      obtain rfl : n = k := by omega
      clear hlast hk
      go_wp2
      go_ret
      exact ⟨A5, c5, rfl, touch_old HT.out, HO.out⟩
end Go.Proofs.YtbmidhlilafgeaaGreatDoor
end
section
namespace Go.Proofs.YtbmidhlilafgeaaGreatDoor
open Go.RowKit Word

theorem us_at {l : List Nat} {i : Nat} (h : i < l.length) : (us l)[i]? = some (.int .u64 ((l[i] : Nat) : Int)) := by unfold us; rw [List.getElem?_map, List.getElem?_eq_getElem h]; rfl
theorem wrds_congr {u v : Vm} {M : Nat} (h : ∀ a : Nat, a < M → u.ldV a = v.ldV a) : wrds u M = wrds v M := by
  unfold wrds
  apply List.map_congr_left
  intro a ha
  rw [List.mem_range] at ha
  rw [h a ha]
/-- The words lie apart from the roots. -/
theorem words_ne {W : World} {x : LaidC} {u : Vm} {A : Option Addr} {c r g : Nat} {rs : List Int} (h : Wrds W A c x.n u) (hR : RtAt W r g rs) {b : Nat} (hb : (Value.slice A x.n c).ownBlock = some b) : b ≠ g := by
  rintro rfl
  have hp := x.page_pos
  have hn : 0 < x.n := by unfold LaidC.n; omega
  obtain ⟨b', c', ea, -, -, -, -⟩ := own_form h (by omega)
  simp only [Value.slice.injEq] at ea
  obtain ⟨rfl, -, rfl⟩ := ea
  have e : b' = b := Option.some.inj hb
  subst e
  have h1 := own_cell h (wrds_at u hn)
  have h2 := hR.cell (i := 0) (List.length_pos_iff.2 hR.ne)
  rw [h1] at h2
  simp at h2
end Go.Proofs.YtbmidhlilafgeaaGreatDoor
end
