/- Package mark: Run. -/
import Derived.Test.YtlkifhoedfjlaaaGreatDoorMarkD
namespace Go.Proofs.YtlkifhoedfjlaaaGreatDoor
open Go.RowKit Word

theorem call_mark1 (args : Array Value) (W : World) : (callFunc 30 args).run Tryz.prog W = .ok (.enter 30 args) W := by kernel_rfl
/-- A marker's own row, whatever its piece of work. -/
def mkrW (q m g : Nat) (wk : Value) (L : List Ob) (r vi : Int) : List Value := [spV q, .pointer (some ⟨m, 0, none⟩), .pointer (some ⟨g, 0, none⟩), wk, .int .i64 (L.length : Nat), .int .i64 (sizes L : Nat), .int .i64 r, .int .i64 vi]
section
variable {w : World} {SV G SW : Nat → Prop} {c : MkC} {v : Vm} {rs : List Int}
set_option maxRecDepth 100000 in
set_option maxHeartbeats 1600000 in
/-- The piece of work. -/
theorem mk_run1 {b12 b5 cp : Nat} {A : Option Addr} (hrow : Rec w c.k 76 (mkrW c.q c.m c.g (.pointer none) [] 0 0)) (h : MkAt (w.setCell ⟨c.k, 3, none⟩ (.pointer (some ⟨c.wk, 0, none⟩))) SV G SW c v s0 0 0)
    (c12 : w.cell? ⟨b12, 0, none⟩ = some (.pointer (some ⟨c.k, 0, none⟩))) (c5 : w.cell? ⟨b5, 0, none⟩ = some (.slice A rs.length cp)) (n12 : b12 ≠ c.k) (n5 : b5 ≠ c.k) (hA : IntsOff (c.T G) w A rs) (hlen : rs.length ≤ maxLen) :
    Calls Tryz.prog 30 #[.pointer (some ⟨c.wk, 0, none⟩), .pointer (some ⟨b12, 0, none⟩), .pointer (some ⟨b5, 0, none⟩)] w (MkEnd w SV G SW c v (RunP v rs c) (¬ Sound v rs c.n)) := by
  have k3 := hrow.cell (j := 3) rfl
  have kf := hrow.free 3
  have hsz : (w.setCell ⟨c.k, 3, none⟩ (.pointer (some ⟨c.wk, 0, none⟩))).heap.size = w.heap.size := World.size_setCell ..
  have hA' := hA.touch (touch_k (w := w) (c := c) (G := G) 3 (.pointer (some ⟨c.wk, 0, none⟩))) (fun _ _ h => h)
  have HRUN := hid (mk_run (cp := cp) h hA' hlen)
  have HBK : Hid (∀ e w', MkEnd (w.setCell ⟨c.k, 3, none⟩ (.pointer (some ⟨c.wk, 0, none⟩))) SV G SW c v (RunP v rs c) (¬ Sound v rs c.n) e w' → MkEnd w SV G SW c v (RunP v rs c) (¬ Sound v rs c.n) e w') := ⟨fun e w' he => by
    obtain ⟨ht, he⟩ := he
    unfold plus at he
    rw [hsz] at he
    exact ⟨(touch_k 3 _).trans ht, he⟩⟩
  have tk := (Touch.refl (fun i => i = c.k) w).setCell (a := ⟨c.k, 3, none⟩) (fun _ => rfl) (.pointer (some ⟨c.wk, 0, none⟩))
  have x5 := (tk.cell (lt_cell c5) n5 0).trans c5
  have x12 := (tk.cell (lt_cell c12) n12 0).trans c12
  clear hrow h hA hA' hsz hlen tk
  go_enter Tryz.func30, Tryz.ntmps30
  go_wp2_with (go_at_call 31; refine HRUN.out.mono ?_; intro e w1 he; have he := HBK.out _ _ he; rcases he with ⟨ht1, (⟨rfl, h1⟩ | ⟨rfl, h1⟩)⟩)
  · refine bodyPost_end (results_none rfl _ _ _) rfl ?_
    exact ⟨ht1, .inl ⟨rfl, h1⟩⟩
  · obtain ⟨-, h2⟩ := h1
    exact ⟨rfl, ht1, .inr ⟨rfl, trivial, h2⟩⟩
end
/-- What a run of the marker finds. -/
structure RunAt (w : World) (SV : Nat → Prop) (q k m p1 b1 p2 b2 n g : Nat) (v : Vm) (L : List Ob) (r vi : Int) : Prop where
  vm : VmAt w SV q v
  ext : Ext w m p1 b1 p2 b2 n L
  tab : TabAt w
  row : ∃ wk, Rec w k 76 (mkrW q m g wk L r vi)
theorem RunAt.touch {S : Nat → Prop} {w w' : World} {SV : Nat → Prop} {q k m p1 b1 p2 b2 n g : Nat} {v : Vm} {L : List Ob} {r vi : Int} (h : RunAt w SV q k m p1 b1 p2 b2 n g v L r vi) (t : Touch S w w') (hv : ∀ i, SV i → ¬ S i) (hm : ∀ i, mine m b1 b2 i → ¬ S i) (h1 : ¬ S p1) (h2 : ¬ S p2) (ht : ¬ S 0) (hk : ¬ S k) : RunAt w' SV q k m p1 b1 p2 b2 n g v L r vi :=
  ⟨h.vm.touch t (fun i hi _ => hv i hi), h.ext.touch t (hm _ (.inl rfl)) h1 (hm _ (.inr (.inl rfl))) h2 (hm _ (.inr (.inr rfl))), t.tab h.tab.lt ht h.tab, by obtain ⟨wk, hr⟩ := h.row; exact ⟨wk, hr.touch t hk⟩⟩
def RunMark (w : World) (SV SG : Nat → Prop) (q k m p1 b1 p2 b2 n g : Nat) (v : Vm) (rs : List Int) (e : Ending) (w' : World) : Prop :=
  Touch (fun i => i = k ∨ mine m b1 b2 i ∨ SG i ∨ SV i) w w' ∧ ∃ x y L r vi, e = .returned (.agg #[.int .i64 x, .int .i64 y]) ∧ RunAt w' SV q k m p1 b1 p2 b2 n g v L r vi ∧
    ((x = 0 ∧ Marks v rs n L ∧ (L = [] → r = 1 ∧ vi = 0)) ∨ (x = 25 ∧ ¬ Sound v rs n))
theorem run_mark {w : World} {SV SG : Nat → Prop} {q k m p1 b1 p2 b2 n g R b12 b5 cp : Nat} {v : Vm} {rs : List Int} {A : Option Addr} (hV : VmAt w SV q v) (hE : Ext w m p1 b1 p2 b2 n []) (hS : StkAt w SG g [] R false) (hR : Rec w k 76 (mkrW q m g (.pointer none) [] 0 0)) (hT : TabAt w)
    (c12 : w.cell? ⟨b12, 0, none⟩ = some (.pointer (some ⟨k, 0, none⟩))) (c5 : w.cell? ⟨b5, 0, none⟩ = some (.slice A rs.length cp)) (n12 : b12 ≠ k) (n5 : b5 ≠ k) (hA : IntsOff (fun i => i = k ∨ mine m b1 b2 i ∨ SG i) w A rs) (hlen : rs.length ≤ maxLen)
    (hSV : ∀ i, SV i → i < w.heap.size ∧ ¬ (i = k ∨ mine m b1 b2 i ∨ SG i)) (hSG : ∀ i, SG i → i < w.heap.size) (hp1 : ¬ (p1 = k ∨ mine m b1 b2 p1 ∨ SG p1)) (hp2 : ¬ (p2 = k ∨ mine m b1 b2 p2 ∨ SG p2)) (htb : ¬ (0 = k ∨ mine m b1 b2 0 ∨ SG 0))
    (hv1 : ¬ SV p1) (hv2 : ¬ SV p2) (hvt : ¬ SV 0) (hkm : ¬ mine m b1 b2 k) (hkg : ¬ SG k) (hmg : ∀ i, mine m b1 b2 i → ¬ SG i) :
    Calls Tryz.prog 29 #[spV q, .func (.func 30) #[] #[.pointer (some ⟨b12, 0, none⟩), .pointer (some ⟨b5, 0, none⟩)]] w (RunMark w SV SG q k m p1 b1 p2 b2 n g v rs) := by
  have hsz : (runW w q).heap.size = w.heap.size + 2 := by unfold runW; rw [World.size_alloc, World.size_alloc]
  obtain ⟨W0, hW0⟩ : ∃ W0, W0 = partW (runW w q) (w.heap.size + 1) := ⟨_, rfl⟩
  have hsz0 : W0.heap.size = w.heap.size + 5 := by rw [hW0]; unfold partW; rw [World.size_alloc, World.size_alloc, World.size_alloc, hsz]
  have g1 : Gr w (runW w q) := ((Gr.refl w).alloc _).alloc _
  have g2 : Gr (runW w q) W0 := by rw [hW0]; exact (((Gr.refl _).alloc _).alloc _).alloc _
  have g0 : Gr w W0 := g1.trans g2
  have hkl := hR.lt
  have hml : ∀ i, mine m b1 b2 i → i < w.heap.size := fun i hi => by
    rcases hi with rfl | rfl | rfl
    · exact hE.hm
    · exact hE.v1.hb
    · exact hE.v2.hb
  have hp1l : p1 < w.heap.size := hE.v1.hp
  have hp2l : p2 < w.heap.size := hE.v2.hp
  have htl := hT.lt
  obtain ⟨c, hc⟩ : ∃ c : MkC, c = ⟨k, q, m, p1, b1, p2, b2, n, g, R, w.heap.size + 1, w.heap.size + 5⟩ := ⟨_, rfl⟩
  have hTl : ∀ i, c.T SG i → i < w.heap.size := fun i hi => by
    rw [hc] at hi
    rcases hi with rfl | hi | hi
    · exact hkl
    · exact hml i hi
    · exact hSG i hi
  have hsep : MkSep c SV SG (fun i => i = w.heap.size + 1) := by
    have hTl' := hTl
    rw [hc] at hTl' ⊢
    exact ⟨fun i hi => ⟨by have := (hSV i hi).1; show i < w.heap.size + 5; omega, (hSV i hi).2⟩, fun i hi => ⟨by show i < w.heap.size + 5; omega, fun h => by have := hTl' i h; omega⟩, ⟨by show _ < w.heap.size + 5; omega, htb⟩, ⟨by show p1 < w.heap.size + 5; omega, hp1⟩, ⟨by show p2 < w.heap.size + 5; omega, hp2⟩, hkm, hkg, by show k < w.heap.size + 5; omega, hmg, fun i hi => by have := hml i hi; show i < w.heap.size + 5; omega⟩
  have hm0 : MkAt (W0.setCell ⟨c.k, 3, none⟩ (.pointer (some ⟨c.wk, 0, none⟩))) SV SG (fun i => i = w.heap.size + 1) c v s0 0 0 := by
    have tk : Touch (fun i => i = c.k) W0 (W0.setCell ⟨c.k, 3, none⟩ (.pointer (some ⟨c.wk, 0, none⟩))) := (Touch.refl (fun i => i = c.k) _).setCell (a := ⟨c.k, 3, none⟩) (fun _ => rfl) _
    have hw := (wk_new w q).gr g2
    rw [hc] at tk hsep ⊢
    refine ⟨(hV.gr g0).touch tk (fun i hi _ e => (hSV i hi).2 (.inl e)), (hE.gr g0).touch tk (fun e => hkm (.inl e.symm)) (fun e => hp1 (.inl e)) (fun e => hkm (.inr (.inl e.symm))) (fun e => hp2 (.inl e)) (fun e => hkm (.inr (.inr e.symm))), (hS.gr g0).touch tk (fun i hi _ e => hkg (by subst e; exact hi)), hw.touch tk (fun i hi _ e => by have e : i = k := e; omega), (hR.gr g0).set 3 (.pointer (some ⟨w.heap.size + 1, 0, none⟩)), tk.tab (g0.tab hT.lt hT).lt (fun e => htb (.inl e)) (g0.tab hT.lt hT), hsep, ?_⟩
    show w.heap.size + 5 ≤ _
    rw [World.size_setCell, hsz0]
    exact Nat.le_refl _
  have hbody := mk_run1 (w := W0) (b12 := b12) (b5 := b5) (cp := cp) (A := A) (rs := rs) (by rw [hc]; exact hR.gr g0) hm0 (by rw [hc]; exact (g0.cell (lt_cell c12) 0).trans c12) ((g0.cell (lt_cell c5) 0).trans c5) (by rw [hc]; exact n12) (by rw [hc]; exact n5)
    (by rw [hc]; exact hA.gr g0) hlen
  have hbody' : Calls Tryz.prog 30 (#[.pointer (some ⟨w.heap.size + 1, 0, none⟩)] ++ #[.pointer (some ⟨b12, 0, none⟩), .pointer (some ⟨b5, 0, none⟩)]) W0
      (BodyEnd q (w.heap.size + 1) (w.heap.size + 3) (c.T SG) W0 (fun w1 => ∃ s r vi, MkAt w1 SV (plus SG W0) (fun i => i = w.heap.size + 1) c v s r vi ∧ RunP v rs c s r vi)
        (fun why _ v' l S S2 w1 => why = 25 ∧ v' = v ∧ l = [] ∧ S = (fun i => i = w.heap.size + 1) ∧ S2 = SV ∧ ¬ Sound v rs c.n ∧ ∃ s r vi, MkAt w1 SV (plus SG W0) (fun i => i = w.heap.size + 1) c v s r vi)) := by
    have hb := hbody
    rw [show c.wk = w.heap.size + 1 by rw [hc]] at hb
    refine hb.mono ?_
    rintro e w1 ⟨ht, (⟨rfl, s, r, vi, hm, hp⟩ | ⟨rfl, hn, s, r, vi, hm⟩)⟩
    · exact ⟨ht, .inl ⟨rfl, s, r, vi, hm, hp⟩⟩
    · have hwk := hm.wk
      have hvm := hm.vm
      rw [show c.wk = w.heap.size + 1 by rw [hc], show c.q = q by rw [hc]] at hwk
      rw [show c.q = q by rw [hc]] at hvm
      exact ⟨ht, .inr ⟨25, 0, v, [], _, _, rfl, hwk, hvm, fun i hi h => by have := (hSV i h).1; omega, by omega, fun h => by have := (hSV _ h).1; omega, rfl, rfl, rfl, rfl, rfl, hn, s, r, vi, hm⟩⟩
  have hrun := trap_run (w := w) (q := q) (F := 30) (caps := #[.pointer (some ⟨b12, 0, none⟩), .pointer (some ⟨b5, 0, none⟩)]) call_mark1 (by rw [← hW0]; exact hbody')
    (fun i h1 h2 h => by have := hTl i h; omega) (fun h => by have := hTl _ h; omega) (fun why a' v' l S' S2 w1 h => by
      obtain ⟨-, -, -, rfl, rfl, -⟩ := h
      exact ⟨by omega, fun h => by have := (hSV _ h).1; omega⟩)
  refine hrun.mono ?_
  rintro e w' ⟨w2, fx, fy, ⟨w1, ht1, hp⟩, rfl, rfl⟩
  rw [← hW0] at ht1
  rw [hsz] at hp
  subst hc
  have T1 : Touch (fun i => i = k ∨ mine m b1 b2 i ∨ SG i ∨ SV i) w w1 := (g0.touch _).trans' ht1 (fun i hi h => h.imp id (fun h => h.imp id .inl))
  have hRA : ∀ s r vi, MkAt w1 SV (plus SG W0) (fun i => i = w.heap.size + 1) ⟨k, q, m, p1, b1, p2, b2, n, g, R, w.heap.size + 1, w.heap.size + 5⟩ v s r vi → RunAt w1 SV q k m p1 b1 p2 b2 n g v s.L r vi := fun s r vi hm => ⟨hm.vm, hm.ext, hm.tab, _, hm.row⟩
  have hbig : ∀ (W1 W2 : World) (L : List Ob) (r vi : Int), RunAt W1 SV q k m p1 b1 p2 b2 n g v L r vi → Touch (fun i => w.heap.size ≤ i) W1 W2 → RunAt W2 SV q k m p1 b1 p2 b2 n g v L r vi := fun W1 W2 L r vi h t =>
    h.touch t (fun i hi h => by have := (hSV i hi).1; omega) (fun i hi h => by have := hml i hi; omega) (by omega) (by omega) (by omega) (by omega)
  have hTS : ∀ (W : World) (z1 z2 : Value), Touch (fun i => w.heap.size ≤ i) W ((W.setCell ⟨w.heap.size, 0, none⟩ z1).setCell ⟨w.heap.size, 1, none⟩ z2) := fun W z1 z2 =>
    ((Touch.refl (fun i => w.heap.size ≤ i) W).setCell (a := ⟨w.heap.size, 0, none⟩) (fun _ => Nat.le_refl _) z1).setCell (a := ⟨w.heap.size, 1, none⟩) (fun _ => Nat.le_refl _) z2
  rcases hp with ⟨⟨s, r, vi, hm, hp1', hp2'⟩, he, rfl⟩ | ⟨why, a', v', l, S', S2, ⟨rfl, rfl, rfl, rfl, rfl, hn, s, r, vi, hm⟩, he, hcc⟩
  · simp only [Ending.returned.injEq, Value.agg.injEq] at he
    have hfx : fx = 0 ∧ fy = 0 := by simpa using he
    obtain ⟨rfl, rfl⟩ := hfx
    have hT2 := ((Touch.refl (fun i => w.heap.size ≤ i) w1).setCell (a := ⟨w.heap.size + 2 + 1, 0, none⟩) (fun _ => by show w.heap.size ≤ w.heap.size + 2 + 1; omega) (.int .i64 0)).setCell (a := ⟨w.heap.size + 2 + 1, 1, none⟩) (fun _ => by show w.heap.size ≤ w.heap.size + 2 + 1; omega) (.int .i64 0)
    have hT3 := hT2.trans (hTS _ (.int .i64 0) (.int .i64 0))
    exact ⟨T1.trans' hT3 (fun i hi h => by omega), 0, 0, s.L, r, vi, rfl, hbig _ _ _ _ _ (hRA s r vi hm) hT3, .inl ⟨rfl, hp1', hp2'⟩⟩
  · simp only [Ending.returned.injEq, Value.agg.injEq] at he
    have hfx : fx = 25 ∧ fy = a' := by simpa using he
    obtain ⟨rfl, rfl⟩ := hfx
    obtain ⟨q1, q2, q3, q4⟩ := hcc
    have hlt : ∀ i, i < w.heap.size → ¬ S2 i → ¬ (i = w.heap.size + 1 ∨ S2 i ∨ i = w.heap.size + 2 + 1) := fun i hi hs h => by
      rcases h with h | h | h
      · omega
      · exact hs h
      · omega
    have hr1 := hRA s r vi hm
    have hr2 : RunAt w2 S2 q k m p1 b1 p2 b2 n g v' s.L r vi := ⟨q2, hr1.ext.touch q1 (hlt _ (hml _ (.inl rfl)) (fun h => (hSV _ h).2 (.inr (.inl (.inl rfl))))) (hlt _ hp1l hv1) (hlt _ (hml _ (.inr (.inl rfl))) (fun h => (hSV _ h).2 (.inr (.inl (.inr (.inl rfl)))))) (hlt _ hp2l hv2) (hlt _ (hml _ (.inr (.inr rfl))) (fun h => (hSV _ h).2 (.inr (.inl (.inr (.inr rfl)))))),
      q1.tab hr1.tab.lt (hlt _ htl hvt) hr1.tab, by obtain ⟨wk, hr⟩ := hr1.row; exact ⟨wk, hr.touch q1 (hlt _ hkl (fun h => (hSV _ h).2 (.inl rfl)))⟩⟩
    refine ⟨(T1.trans' q1 (fun i hi h => ?_)).trans' (hTS _ _ _) (fun i hi h => by omega), 25, fy, s.L, r, vi, rfl, hbig _ _ _ _ _ hr2 (hTS _ _ _), .inr ⟨rfl, hn⟩⟩
    rcases h with h | h | h
    · omega
    · exact .inr (.inr (.inr h))
    · omega
end Go.Proofs.YtlkifhoedfjlaaaGreatDoor
