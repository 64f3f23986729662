/- Package mark: need, reach, visit, drain. -/
import Derived.Test.YtlkifhoedfjlaaaGreatDoorMarkP
import Derived.Test.YtlkifhoedfjlaaaGreatDoorTrapC
import Derived.Test.YtlkifhoedfjlaaaGreatDoorStk
namespace Go.Proofs.YtlkifhoedfjlaaaGreatDoor
open Go.RowKit Word

/-- Where a marker and its parts lie. -/
structure MkC where
  k : Nat
  q : Nat
  m : Nat
  p1 : Nat
  b1 : Nat
  p2 : Nat
  b2 : Nat
  n : Nat
  g : Nat
  R : Nat
  wk : Nat
  B : Nat
/-- What a marker writes. -/
def MkC.T (c : MkC) (G : Nat → Prop) (i : Nat) : Prop := i = c.k ∨ mine c.m c.b1 c.b2 i ∨ G i
structure MkSep (c : MkC) (SV G SW : Nat → Prop) : Prop where
  sv' : ∀ i, SV i → i < c.B ∧ ¬ c.T G i
  sw' : ∀ i, SW i → i < c.B ∧ ¬ c.T G i
  tab' : 0 < c.B ∧ ¬ c.T G 0
  p1' : c.p1 < c.B ∧ ¬ c.T G c.p1
  p2' : c.p2 < c.B ∧ ¬ c.T G c.p2
  k1 : ¬ mine c.m c.b1 c.b2 c.k
  k2 : ¬ G c.k
  kB : c.k < c.B
  mg : ∀ i, mine c.m c.b1 c.b2 i → ¬ G i
  mB : ∀ i, mine c.m c.b1 c.b2 i → i < c.B
section
variable {c : MkC} {SV G SW : Nat → Prop}
theorem MkSep.sv (h : MkSep c SV G SW) : ∀ i, SV i → ¬ c.T G i := fun i hi => (h.sv' i hi).2
theorem MkSep.sw (h : MkSep c SV G SW) : ∀ i, SW i → ¬ c.T G i := fun i hi => (h.sw' i hi).2
theorem MkSep.tab (h : MkSep c SV G SW) : ¬ c.T G 0 := h.tab'.2
theorem MkSep.p1 (h : MkSep c SV G SW) : ¬ c.T G c.p1 := h.p1'.2
theorem MkSep.p2 (h : MkSep c SV G SW) : ¬ c.T G c.p2 := h.p2'.2
theorem MkSep.plus (h : MkSep c SV G SW) {w : World} (hw : c.B ≤ w.heap.size) : MkSep c SV (plus G w) SW := by
  have key : ∀ i, i < c.B ∧ ¬ c.T G i → i < c.B ∧ ¬ c.T (Go.Proofs.YtlkifhoedfjlaaaGreatDoor.plus G w) i := fun i hi => ⟨hi.1, fun ht => by
    rcases ht with h1 | h1 | h1 | h1
    · exact hi.2 (.inl h1)
    · exact hi.2 (.inr (.inl h1))
    · exact hi.2 (.inr (.inr h1))
    · have := hi.1; omega⟩
  exact ⟨fun i hi => key i (h.sv' i hi), fun i hi => key i (h.sw' i hi), key _ h.tab', key _ h.p1', key _ h.p2', h.k1, fun h1 => h1.elim h.k2 (fun h2 => by have := h.kB; omega), h.kB, fun i hi h1 => h1.elim (h.mg i hi) (fun h2 => by have := h.mB i hi; omega), h.mB⟩
end
def mkrV (c : MkC) (L : List Ob) (r vi : Int) : List Value := [spV c.q, .pointer (some ⟨c.m, 0, none⟩), .pointer (some ⟨c.g, 0, none⟩), .pointer (some ⟨c.wk, 0, none⟩), .int .i64 (L.length : Nat), .int .i64 (sizes L : Nat), .int .i64 r, .int .i64 vi]
/-- A marker at work. -/
structure MkAt (w : World) (SV G SW : Nat → Prop) (c : MkC) (v : Vm) (s : MkS) (r vi : Int) : Prop where
  vm : VmAt w SV c.q v
  ext : Ext w c.m c.p1 c.b1 c.p2 c.b2 c.n s.L
  stk : StkAt w G c.g s.st c.R s.lost
  wk : WkAt w SW c.wk c.q []
  row : Rec w c.k 76 (mkrV c s.L r vi)
  tab : TabAt w
  sep : MkSep c SV G SW
  bB : c.B ≤ w.heap.size
theorem MkAt.gr {w w' : World} {SV G SW : Nat → Prop} {c : MkC} {v : Vm} {s : MkS} {r vi : Int} (h : MkAt w SV G SW c v s r vi) (g : Gr w w') : MkAt w' SV G SW c v s r vi :=
  ⟨h.vm.gr g, h.ext.gr g, h.stk.gr g, h.wk.gr g, h.row.gr g, g.tab h.tab.lt h.tab, h.sep, Nat.le_trans h.bB g.size⟩
/-- Behind a turn of the marker's own row. -/
theorem MkAt.set {w : World} {SV G SW : Nat → Prop} {c : MkC} {v : Vm} {s : MkS} {r vi : Int} (h : MkAt w SV G SW c v s r vi) {j : Nat} {u : Value} {r' vi' : Int} (hj : (mkrV c s.L r vi).set j u = mkrV c s.L r' vi') : MkAt (w.setCell ⟨c.k, j, none⟩ u) SV G SW c v s r' vi' := by
  have t : Touch (fun i => i = c.k) w (w.setCell ⟨c.k, j, none⟩ u) := (Touch.refl (fun i => i = c.k) w).setCell (a := ⟨c.k, j, none⟩) (fun _ => rfl) u
  have hs := h.sep
  refine ⟨h.vm.touch t (fun i hi _ e => hs.sv i hi (.inl e)), ?_, h.stk.touch t (fun i hi _ e => hs.k2 (e ▸ hi)), h.wk.touch t (fun i hi _ e => hs.sw i hi (.inl e)), hj ▸ h.row.set j u, t.tab h.tab.lt (fun e => hs.tab (.inl e)) h.tab, hs, Nat.le_trans h.bB t.size⟩
  exact h.ext.touch t (fun e => hs.k1 (e ▸ .inl rfl)) (fun e => hs.p1 (.inl e)) (fun e => hs.k1 (e ▸ .inr (.inl rfl))) (fun e => hs.p2 (.inl e)) (fun e => hs.k1 (e ▸ .inr (.inr rfl)))
theorem touch_k {w : World} {c : MkC} {G : Nat → Prop} (j : Nat) (u : Value) : Touch (c.T G) w (w.setCell ⟨c.k, j, none⟩ u) := (Touch.refl _ w).setCell (a := ⟨c.k, j, none⟩) (fun _ => .inl rfl) u
def MkEnd (w : World) (SV G SW : Nat → Prop) (c : MkC) (v : Vm) (P : MkS → Int → Int → Prop) (N : Prop) (e : Ending) (w' : World) : Prop :=
  Touch (c.T G) w w' ∧ ((e = .returned (.tuple #[]) ∧ ∃ s r vi, MkAt w' SV (plus G w) SW c v s r vi ∧ P s r vi) ∨ (e = .panicked [{ v := thrV 25 0, recovered := false }] ∧ N ∧ ∃ s r vi, MkAt w' SV (plus G w) SW c v s r vi))
section
variable {w w' : World} {SV G SW : Nat → Prop} {c : MkC} {v : Vm} {P : MkS → Int → Int → Prop} {N : Prop} {s : MkS} {r vi : Int}
theorem MkAt.sub {G' : Nat → Prop} (h : MkAt w SV G SW c v s r vi) (hg : ∀ i, G i → G' i) (hs : MkSep c SV G' SW) : MkAt w SV G' SW c v s r vi := ⟨h.vm, h.ext, h.stk.mono hg, h.wk, h.row, h.tab, hs, h.bB⟩
theorem MkAt.up (h : MkAt w' SV G SW c v s r vi) (hw : c.B ≤ w.heap.size) : MkAt w' SV (plus G w) SW c v s r vi := h.sub (fun _ h => .inl h) (h.sep.plus hw)
theorem MkAt.back {w0 : World} (h : MkAt w' SV (plus (plus G w0) w) SW c v s r vi) (hz : w0.heap.size ≤ w.heap.size) (hs : MkSep c SV G SW) (hw : c.B ≤ w0.heap.size) : MkAt w' SV (plus G w0) SW c v s r vi :=
  h.sub (fun _ h => h.elim id (fun h => .inr (Nat.le_trans hz h))) (hs.plus hw)
theorem touch_plus {a b d : World} (h : Touch (c.T G) a b) (k : Touch (c.T (plus G a)) b d) : Touch (c.T G) a d :=
  h.trans' k (fun i hi ht => by
    rcases ht with h1 | h1 | h1 | h1
    · exact .inl h1
    · exact .inr (.inl h1)
    · exact .inr (.inr h1)
    · omega)
theorem MkEnd.ok (t : Touch (c.T G) w w') (h : MkAt w' SV (plus G w) SW c v s r vi) (p : P s r vi) : MkEnd w SV G SW c v P N (.returned (.tuple #[])) w' := ⟨t, .inl ⟨rfl, s, r, vi, h, p⟩⟩
theorem MkEnd.no (t : Touch (c.T G) w w') (h : MkAt w' SV (plus G w) SW c v s r vi) (n : N) : MkEnd w SV G SW c v P N (.panicked [{ v := thrV 25 0, recovered := false }]) w' := ⟨t, .inr ⟨rfl, n, s, r, vi, h⟩⟩
end
theorem sizes_insO (L : List Ob) (o : Ob) : sizes (insO L o) = sizes L + o.2 := by
  induction L with
  | nil => simp [insO, sizes]
  | cons q t ih =>
    unfold insO
    split
    · simp only [sizes]; omega
    · simp only [sizes, ih]; omega
theorem find_hs {n : Nat} {L : List Ob} (h : Good n L) {a : Int} (ha : Hs L a) : findO L a < L.length ∧ obS L (findO L a) = a := by
  obtain ⟨o, ho, rfl⟩ := ha
  obtain ⟨j, hj, rfl⟩ := List.getElem_of_mem ho
  have hz := (h.sz _ ho).1
  rw [findO_eq h hj (Int.le_refl _) (by omega)]
  exact ⟨hj, (obS_in hj).1⟩
theorem find_not {L : List Ob} {a : Int} (hn : ¬ Hs L a) (hf : findO L a < L.length) : obS L (findO L a) ≠ a := by
  rw [(obS_in hf).1]
  exact fun e => hn ⟨_, List.getElem_mem hf, e⟩
theorem StkAt.set2 {w : World} {G : Nat → Prop} {g R k i j : Nat} {l : List Int} {b : Bool} {u u' : Value} (h : StkAt w G g l R b) (hk : ¬ G k) : StkAt ((w.setCell ⟨k, i, none⟩ u).setCell ⟨k, j, none⟩ u') G g l R b :=
  (h.touch ((Touch.refl (fun x => x = k) w).setCell (a := ⟨k, i, none⟩) (fun _ => rfl) u) (fun _ hx _ e => hk (e ▸ hx))).touch ((Touch.refl (fun x => x = k) _).setCell (a := ⟨k, j, none⟩) (fun _ => rfl) u') (fun _ hx _ e => hk (e ▸ hx))
theorem mkrV_add {c : MkC} {L : List Ob} {r vi a z : Int} (he : addE L c.n a z = 0) : ((mkrV c L r vi).set 4 (.int .i64 ((L.length : Nat) + 1))).set 5 (.int .i64 ((sizes L : Nat) + z)) = mkrV c (addL L c.n a z) r vi := by
  have hz := (addE_zero he).1
  have h1 := add_len he
  have h2 : sizes (addL L c.n a z) = sizes L + z.toNat := by unfold addL; rw [if_pos he, sizes_insO]
  unfold mkrV
  rw [h1, h2]
  show [_, _, _, _, _, _, _, _] = [_, _, _, _, _, _, _, _]
  have e1 : ((L.length : Nat) : Int) + 1 = ((L.length + 1 : Nat) : Int) := by omega
  have e2 : ((sizes L : Nat) : Int) + z = ((sizes L + z.toNat : Nat) : Int) := by omega
  rw [e1, e2]
theorem MkAt.pushed {w w4 w5 : World} {SV G SW : Nat → Prop} {c : MkC} {v : Vm} {s : MkS} {r vi : Int} (h : MkAt w SV G SW c v s r vi) {L' : List Ob} {st' : List Int} {lost' : Bool} {u u' : Value} (t4 : Touch (mine c.m c.b1 c.b2) w w4) (x4 : Ext w4 c.m c.p1 c.b1 c.p2 c.b2 c.n L')
    (t5 : Touch G ((w4.setCell ⟨c.k, 4, none⟩ u).setCell ⟨c.k, 5, none⟩ u') w5) (s5 : StkAt w5 (plus G ((w4.setCell ⟨c.k, 4, none⟩ u).setCell ⟨c.k, 5, none⟩ u')) c.g st' c.R lost') (hm : ((mkrV c s.L r vi).set 4 u).set 5 u' = mkrV c L' r vi) :
    MkAt w5 SV (plus G w) SW c v ⟨L', st', lost'⟩ r vi ∧ Touch (c.T G) w w5 := by
  have hs := h.sep
  have tk : Touch (fun i => i = c.k) w4 ((w4.setCell ⟨c.k, 4, none⟩ u).setCell ⟨c.k, 5, none⟩ u') :=
    ((Touch.refl (fun i => i = c.k) w4).setCell (a := ⟨c.k, 4, none⟩) (fun _ => rfl) u).setCell (a := ⟨c.k, 5, none⟩) (fun _ => rfl) u'
  have hz : w.heap.size ≤ ((w4.setCell ⟨c.k, 4, none⟩ u).setCell ⟨c.k, 5, none⟩ u').heap.size := Nat.le_trans t4.size tk.size
  have hk5 : ¬ G c.k := hs.k2
  refine ⟨⟨((h.vm.touch t4 (fun i hi _ e => hs.sv i hi (.inr (.inl e)))).touch tk (fun i hi _ e => hs.sv i hi (.inl e))).touch t5 (fun i hi _ e => hs.sv i hi (.inr (.inr e))), ?_, s5.mono (fun i hi => hi.imp id (fun h' => Nat.le_trans hz h')), ((h.wk.touch t4 (fun i hi _ e => hs.sw i hi (.inr (.inl e)))).touch tk (fun i hi _ e => hs.sw i hi (.inl e))).touch t5 (fun i hi _ e => hs.sw i hi (.inr (.inr e))),
      (hm ▸ ((h.row.touch t4 hs.k1).set 4 u).set 5 u').touch t5 hk5, ?_, hs.plus h.bB, Nat.le_trans h.bB (Nat.le_trans hz t5.size)⟩, ?_⟩
  · have e1 := x4.touch tk (fun e => hs.k1 (e ▸ .inl rfl)) (fun e => hs.p1 (.inl e)) (fun e => hs.k1 (e ▸ .inr (.inl rfl))) (fun e => hs.p2 (.inl e)) (fun e => hs.k1 (e ▸ .inr (.inr rfl)))
    exact e1.touch t5 (hs.mg _ (.inl rfl)) (fun e => hs.p1 (.inr (.inr e))) (hs.mg _ (.inr (.inl rfl))) (fun e => hs.p2 (.inr (.inr e))) (hs.mg _ (.inr (.inr rfl)))
  · have a1 := t4.tab h.tab.lt (fun e => hs.tab (.inr (.inl e))) h.tab
    have a2 := tk.tab a1.lt (fun e => hs.tab (.inl e)) a1
    exact t5.tab a2.lt (fun e => hs.tab (.inr (.inr e))) a2
  · exact ((t4.mono (fun i _ hi => .inr (.inl hi))).trans (tk.mono (fun i _ hi => .inl hi))).trans (t5.mono (fun i _ hi => .inr (.inr hi)))
section
variable {w : World} {SV G SW : Nat → Prop} {c : MkC} {v : Vm} {s : MkS} {r vi : Int} {X : Int → Prop} {rs : List Int}
set_option maxRecDepth 100000 in
theorem mk_need_ok (w : World) (k : Nat) : Calls Tryz.prog 88 #[.pointer (some ⟨k, 0, none⟩), .bool true] w fun e w' => e = .returned (.tuple #[]) ∧ w = w' := by
  go_enter Tryz.func88, Tryz.ntmps88
  go_wp2
  refine bodyPost_end (results_none rfl _ _ _) rfl ?_
  exact ⟨rfl, rfl⟩
set_option maxRecDepth 100000 in
theorem mk_need_no (h : MkAt w SV G SW c v s r vi) : Calls Tryz.prog 88 #[.pointer (some ⟨c.k, 0, none⟩), .bool false] w fun e w' => e = .panicked [{ v := thrV 25 0, recovered := false }] ∧ w = w' := by
  have c3 := h.row.cell (j := 3) rfl
  have HF := hid (wk_fail h.wk 25 0)
  clear h
  go_enter Tryz.func88, Tryz.ntmps88
  go_wp2_with (go_at_call 78; refine HF.out.mono ?_; rintro e w1 ⟨rfl, rfl⟩)
  exact ⟨rfl, rfl, rfl⟩
def ReachP (s : MkS) (v : Vm) (rs : List Int) (c : MkC) (X : Int → Prop) (a r vi : Int) (s' : MkS) (r' vi' : Int) : Prop := MarkInv v rs c.n c.R X s' ∧ Later s s' ∧ (a ≠ 0 → Hs s'.L a) ∧ r' = r ∧ vi' = vi
set_option maxRecDepth 100000 in
set_option maxHeartbeats 3200000 in
theorem mk_reach (h : MkAt w SV G SW c v s r vi) (hi : MarkInv v rs c.n c.R X s) {a : Int} (ha : a ≠ 0 → Rch v rs a) : Calls Tryz.prog 59 #[.pointer (some ⟨c.k, 0, none⟩), .int .i64 a] w (MkEnd w SV G SW c v (ReachP s v rs c X a r vi) (¬ Sound v rs c.n)) := by
  have H := hid h
  have HI := hid hi
  by_cases h0 : a = 0
  · subst h0
    clear h hi ha
    go_enter Tryz.func59, Tryz.ntmps59
    go_wp2
    refine bodyPost_end (results_none rfl _ _ _) rfl ?_
    exact MkEnd.ok (Touch.refl _ _) (H.out.up H.out.bB) ⟨HI.out, Later.refl _, fun h => absurd rfl h, rfl, rfl⟩
  · have hR := ha h0
    have HR := hid hR
    have d0 : (a == 0) = false := by simpa using h0
    have c0 := h.row.cell (j := 0) rfl
    have c1 := h.row.cell (j := 1) rfl
    unfold spV at c0
    have HFD := hid (ext_find h.ext h.tab a)
    unfold tellO at HFD
    have hgd := hi.mkd.good
    by_cases hs : Hs s.L a
    · obtain ⟨f1, f2⟩ := find_hs hgd hs
      rw [f2, decide_eq_true f1] at HFD
      have HS := hid hs
      clear h hi ha h0 hR hs hgd f1 f2
      go_enter Tryz.func59, Tryz.ntmps59
      go_wp2_with (go_at_call 24; refine HFD.out.mono ?_; rintro e w1 ⟨rfl, rfl⟩)
      refine bodyPost_end (results_none rfl _ _ _) rfl ?_
      exact MkEnd.ok (Touch.refl _ _) (H.out.up H.out.bB) ⟨HI.out, Later.refl _, fun _ => HS.out, rfl, rfl⟩
    · have HFN := hid (fun hf => find_not hs hf)
      have HNS := hid hs
      obtain ⟨st, hst⟩ : ∃ st, st = obS s.L (findO s.L a) := ⟨_, rfl⟩
      obtain ⟨sz, hsz⟩ : ∃ sz, sz = obZ s.L (findO s.L a) := ⟨_, rfl⟩
      obtain ⟨fb, hfb⟩ : ∃ fb, fb = decide (findO s.L a < s.L.length) := ⟨_, rfl⟩
      rw [← hst, ← hsz, ← hfb] at HFD
      rw [← hst] at HFN
      have HFB := hid hfb
      have hft : fb = false ∨ (fb = true ∧ (st == a) = false) := by
        cases hb : fb with
        | false => exact .inl rfl
        | true => exact .inr ⟨rfl, by have := HFN.out (of_decide_eq_true (HFB.out.symm.trans hb)); simpa using this⟩
      have HRD := hid (fun W (g : Gr w W) => obj_read (h.vm.gr g) a)
      unfold spV at HRD
      have hln : s.L.length ≤ 1048576 := Nat.le_trans hgd.len h.ext.nb.2
      have hsn : sizes s.L ≤ 1048576 := Nat.le_trans (sizes_le hgd) h.ext.nb.2
      by_cases hE : v.rdE a = 0
      · have HE := hid hE
        obtain ⟨-, -, p, f, k, hh, hsm⟩ := rdE_zero hE
        have hpos := osz_pos hE
        have HSZ := hid (fun W => hdr_size ⟨p, f, k⟩ W)
        have ho : v.osz a = hdrN ⟨p, f, k⟩ := by unfold Vm.osz; rw [hh]
        rw [← ho] at HSZ
        rw [hE, hh] at HRD
        unfold hdrV at HRD HSZ
        obtain ⟨z, hz⟩ : ∃ z, z = v.osz a := ⟨_, rfl⟩
        rw [← hz] at HSZ hpos
        have HZ := hid hz
        have HAD := hid (fun W (g : Gr w W) => ext_add (h.ext.gr g) (g.tab h.tab.lt h.tab) a z)
        unfold AddEnd at HAD
        have hsep := h.sep
        have HT1 := hid (fun (W W' : World) (g : Gr w W) (t : Touch (mine c.m c.b1 c.b2) W W') (x : Ext W' c.m c.p1 c.b1 c.p2 c.b2 c.n s.L) => (⟨(h.vm.gr g).touch t (fun i hi _ e => hsep.sv i hi (.inr (.inl e))), x, (h.stk.gr g).touch t (fun i hi _ e => hsep.mg i e hi), (h.wk.gr g).touch t (fun i hi _ e => hsep.sw i hi (.inr (.inl e))), (h.row.gr g).touch t hsep.k1, t.tab (g.tab h.tab.lt h.tab).lt (fun e => hsep.tab (.inr (.inl e))) (g.tab h.tab.lt h.tab), hsep, Nat.le_trans h.bB (Nat.le_trans g.size t.size)⟩ : MkAt W' SV G SW c v s r vi))
        by_cases hA : addE s.L c.n a z = 0
        · have HA := hid hA
          rw [hA] at HAD
          have HMV := hid (mkrV_add (c := c) (r := r) (vi := vi) hA)
          have hk2 := h.sep.k2
          have HK2 := hid hk2
          have HPU := hid (hi.push hR hE (by rw [← hz]; exact hA))
          rw [← hz] at HPU
          have hz1 : 1 ≤ z := hpos.2.1
          have hz2 : z ≤ 256 := hpos.2.2
          obtain ⟨LN, hLN⟩ : ∃ LN : Nat, LN = s.L.length := ⟨_, rfl⟩
          obtain ⟨SN, hSN⟩ : ∃ SN : Nat, SN = sizes s.L := ⟨_, rfl⟩
          rw [← hLN] at hln HMV
          rw [← hSN] at hsn HMV
          have HLN := hid (And.intro hLN hSN)
          clear h hi ha h0 hR hs hgd hst hsz hfb hE HFN HFB hh hsm ho hz hA hsep hk2 hpos hLN hSN
          rcases hft with rfl | ⟨rfl, d3⟩
          all_goals
            go_enter Tryz.func59, Tryz.ntmps59
            go_wp2_with (first
              | (go_at_call 24; refine HFD.out.mono ?_; rintro e w1 ⟨rfl, rfl⟩)
              | (go_at_call 87; refine (HRD.out _ (Gr.refl _)).mono ?_; rintro e w1 ⟨rfl, hg1⟩; have HG1 := hid (hg1.alloc (.cells #[.int .i64 p, .int .i64 f, .int .i64 k] 52)); clear hg1)
              | (go_at_call 88; (with_reducible refine (mk_need_ok _ _).mono ?_); rintro e w2 ⟨rfl, rfl⟩)
              | (go_at_call 18; refine (HSZ.out _).mono ?_; rintro e w3 ⟨rfl, hg3⟩; have HG3 := hid (HG1.out.trans hg3); have kk1 := (H.out.gr (HG1.out.trans hg3)).row.cell (j := 1) rfl; clear hg3)
              | (go_at_call 8; refine (HAD.out _ HG3.out).mono ?_; rintro e w4 ⟨rfl, ht4, hx4⟩; have HX4 := hid hx4; have HT4 := hid ht4; have HM3 := hid (H.out.gr HG3.out); have HR4 := hid (HM3.out.row.touch ht4 HM3.out.sep.k1); have y2 := HR4.out.cell (j := 2) rfl; have y4 := HR4.out.cell (j := 4) rfl; have y5 := HR4.out.cell (j := 5) rfl; have yf := HR4.out.free; have HS4 := hid (HM3.out.stk.touch ht4 (fun i hi _ e => HM3.out.sep.mg i e hi)); rw [← HLN.out.1] at y4; rw [← HLN.out.2] at y5; clear ht4 hx4)
              | (go_at_call 89; refine (stk_push (HS4.out.set2 HK2.out) a).mono ?_; intro e w5 hp; have hp' : (∃ b, e = .returned (.bool b)) := by { rcases hp with ⟨_, rfl, _⟩ | ⟨_, rfl, _⟩ <;> exact ⟨_, rfl⟩ }; have HP := hid hp; obtain ⟨pb, rfl⟩ := hp'; clear hp))
            refine bodyPost_end (results_none rfl _ _ _) rfl ?_
            have hmv := HMV.out
            rw [HLN.out.1, HLN.out.2] at hmv
            have key : ∀ st' lost', s.push c.R (addL s.L c.n a z) a = ⟨addL s.L c.n a z, st', lost'⟩ → Touch G ((w4.setCell ⟨c.k, 4, none⟩ (.int .i64 ((s.L.length : Nat) + 1))).setCell ⟨c.k, 5, none⟩ (.int .i64 ((sizes s.L : Nat) + z))) w5 ∧ StkAt w5 (plus G ((w4.setCell ⟨c.k, 4, none⟩ (.int .i64 ((s.L.length : Nat) + 1))).setCell ⟨c.k, 5, none⟩ (.int .i64 ((sizes s.L : Nat) + z)))) c.g st' c.R lost' → MkEnd w SV G SW c v (ReachP s v rs c X a r vi) (¬ Sound v rs c.n) (.returned (.tuple #[])) w5 := fun st' lost' hpe ⟨ht5, hs5⟩ => by
              obtain ⟨q1, q2, q3⟩ := HPU.out
              rw [hpe] at q1 q2 q3
              obtain ⟨m5, t5⟩ := HM3.out.pushed HT4.out HX4.out ht5 hs5 hmv
              exact MkEnd.ok ((HG3.out.touch _).trans t5) (m5.sub (fun i hi => hi.imp id (fun h' => Nat.le_trans HG3.out.size h')) (H.out.sep.plus H.out.bB)) ⟨q1, q2, fun _ => q3, rfl, rfl⟩
            rcases HP.out with ⟨hf, -, ht5, hs5⟩ | ⟨hf, -, ht5, hs5⟩
            · refine key s.st true (if_neg (by omega)) ⟨?_, ?_⟩
              · rw [HLN.out.1, HLN.out.2] at ht5; exact ht5
              · rw [HLN.out.1, HLN.out.2] at hs5; exact hs5
            · refine key (s.st ++ [a]) s.lost (if_pos hf) ⟨?_, ?_⟩
              · rw [HLN.out.1, HLN.out.2] at ht5; exact ht5
              · rw [HLN.out.1, HLN.out.2] at hs5; exact hs5
        · obtain ⟨y, hy⟩ : ∃ y, y = addE s.L c.n a z := ⟨_, rfl⟩
          have d2 : (y == 0) = false := by rw [hy]; simpa using hA
          have HAE := hid hA
          have HY := hid hy
          clear h hi ha h0 hR hs hgd hst hsz hfb hE HFN HFB hh hsm ho hz hA hy hsep
          rcases hft with rfl | ⟨rfl, d3⟩
          all_goals
            go_enter Tryz.func59, Tryz.ntmps59
            go_wp2_with (first
              | (go_at_call 24; refine HFD.out.mono ?_; rintro e w1 ⟨rfl, rfl⟩)
              | (go_at_call 87; refine (HRD.out _ (Gr.refl _)).mono ?_; rintro e w1 ⟨rfl, hg1⟩; have HG1 := hid (hg1.alloc (.cells #[.int .i64 p, .int .i64 f, .int .i64 k] 52)); clear hg1)
              | (go_at_call 88; (with_reducible refine (mk_need_no HM4.out).mono ?_); rintro e w2 ⟨rfl, rfl⟩)
              | (go_at_call 88; (with_reducible refine (mk_need_ok _ _).mono ?_); rintro e w2 ⟨rfl, rfl⟩)
              | (go_at_call 18; refine (HSZ.out _).mono ?_; rintro e w3 ⟨rfl, hg3⟩; have HG3 := hid (HG1.out.trans hg3); have kk1 := (H.out.gr (HG1.out.trans hg3)).row.cell (j := 1) rfl; clear hg3)
              | (go_at_call 8; refine (HAD.out _ HG3.out).mono ?_; rintro e w4 ⟨rfl, ht4, hx4⟩; rw [← HY.out]; have HT4 := hid ((HG3.out.touch (c.T G)).trans (ht4.mono (fun i _ hi => .inr (.inl hi)))); have HM4 := hid (HT1.out _ _ HG3.out ht4 (by rw [show addL s.L c.n a z = s.L from if_neg HAE.out] at hx4; exact hx4)); clear ht4 hx4))
            exact ⟨rfl, MkEnd.no HT4.out (HM4.out.up H.out.bB) (HI.out.mkd.fail HR.out HNS.out (by rw [← HZ.out]; exact HAE.out))⟩
      · have HE := hid hE
        obtain ⟨y, hy⟩ : ∃ y, y = v.rdE a := ⟨_, rfl⟩
        have d2 : (y == 0) = false := by rw [hy]; simpa using hE
        rw [← hy] at HRD
        unfold hdrV at HRD
        clear h hi ha h0 hR hs hgd hst hsz hfb hE hy HFN HFB
        rcases hft with rfl | ⟨rfl, d3⟩
        all_goals
          go_enter Tryz.func59, Tryz.ntmps59
          go_wp2_with (first
            | (go_at_call 24; refine HFD.out.mono ?_; rintro e w1 ⟨rfl, rfl⟩)
            | (go_at_call 87; refine (HRD.out _ (Gr.refl _)).mono ?_; rintro e w1 ⟨rfl, hg1⟩; have HG1 := hid hg1; clear hg1)
            | (go_at_call 88; refine (mk_need_no (H.out.gr (HG1.out.alloc _))).mono ?_; rintro e w2 ⟨rfl, rfl⟩))
          exact ⟨rfl, MkEnd.no ((HG1.out.alloc _).touch _) ((H.out.gr (HG1.out.alloc _)).up H.out.bB) (not_sound_rd HR.out HE.out)⟩
def VisitP (s : MkS) (v : Vm) (rs : List Int) (c : MkC) (X : Int → Prop) (a r : Int) (s' : MkS) (r' _vi' : Int) : Prop := MarkInv v rs c.n c.R X s' ∧ Later s s' ∧ Cl v s'.L a ∧ r' = r
set_option maxRecDepth 100000 in
set_option maxHeartbeats 3200000 in
theorem mk_visit (h : MkAt w SV G SW c v s r vi) (hi : MarkInv v rs c.n c.R X s) {a : Int} (ha : Hs s.L a) : Calls Tryz.prog 64 #[.pointer (some ⟨c.k, 0, none⟩), .int .i64 a] w (MkEnd w SV G SW c v (VisitP s v rs c X a r) (¬ Sound v rs c.n)) := by
  have H := hid h
  have HI := hid hi
  obtain ⟨hR, hE⟩ := hi.mkd.hs ha
  obtain ⟨-, -, p, f, k, hh, hsm⟩ := rdE_zero hE
  have HR := hid (And.intro hR (And.intro hE hh))
  have HRD := hid (fun W (g : Gr w W) => obj_read (h.vm.gr g) a)
  rw [hE, hh] at HRD
  unfold spV hdrV at HRD
  have c0 := h.row.cell (j := 0) rfl
  unfold spV at c0
  have HN := hid (Rec.new w 52 [.int .i64 p, .int .i64 f, .int .i64 k])
  clear h hi ha hR hE hh
  go_enter Tryz.func64, Tryz.ntmps64
  go_wp2_with (first
    | (go_at_call 87; refine (HRD.out _ (Gr.refl _)).mono ?_; rintro e w1 ⟨rfl, hg1⟩; have HG1 := hid (hg1.alloc (.cells #[.int .i64 p, .int .i64 f, .int .i64 k] 52)); clear hg1)
    | (go_at_call 88; (with_reducible refine (mk_need_ok _ _).mono ?_); rintro e w2 ⟨rfl, rfl⟩))
  go_loopw [24] (fun s24 wr => ∃ (j : Nat) (s' : MkS) (r' vi' : Int), j ≤ p ∧ Hid (MkAt wr SV (plus G w) SW c v s' r' vi') ∧ Hid (Touch (c.T G) w wr) ∧ Hid (MarkInv v rs c.n c.R X s' ∧ Later s s' ∧ ClN v s'.L a j ∧ r' = r) ∧ s24 = .int .i64 j) (fun s24 _ => p - (intOf s24).toNat)
  case atStart => exact ⟨0, s, r, vi, by omega, ⟨(H.out.gr HG1.out).up H.out.bB⟩, ⟨HG1.out.touch _⟩, ⟨HI.out, Later.refl _, fun i hi => by omega, rfl⟩, rfl⟩
  case round =>
    obtain ⟨j, s', r', vi', hj, HM, HT, HJ, rfl⟩ := hrel
    have k0 := HM.out.row.cell (j := 0) rfl
    have k7 := HM.out.row.cell (j := 7) rfl
    have kf := HM.out.row.free 7
    unfold spV at k0
    clear c0
    by_cases hlast : j = p
    · subst hlast
      go_wp2
      refine bodyPost_end (results_none rfl _ _ _) rfl ?_
      obtain ⟨q1, q2, q3, q4⟩ := HJ.out
      exact MkEnd.ok (HT.out.trans (touch_k 7 _)) (HM.out.set (r' := r') (vi' := wrap64 (vi' + 1)) rfl) ⟨q1, q2, q3.cl (by rw [HR.out.2.2]; exact Int.le_refl _), q4⟩
    · have hjl : (j : Int) < (p : Int) := by omega
      have HPT := hid (obj_pointer HM.out.vm a (j : Int))
      unfold spV at HPT
      have HRP : Hid (v.ptE a j = 0 → ((v.ptV a j : Nat) : Int) ≠ 0 → Rch v rs (v.ptV a j : Nat)) := ⟨fun h1 h2 => HR.out.1.step ⟨HR.out.2.1, j, by rw [HR.out.2.2]; exact hjl, h1, by omega, rfl⟩⟩
      have HJL := hid (And.intro hj hlast)
      clear hj hlast
      by_cases hpt : v.ptE a j = 0
      · have HP0 := hid hpt
        rw [hpt] at HPT
        obtain ⟨x, hx⟩ : ∃ x, x = v.ptV a j := ⟨_, rfl⟩
        rw [← hx] at HPT HRP
        have HXX := hid hx
        clear hpt hx
        go_wp2_with (first
          | (go_at_call 91; refine HPT.out.mono ?_; rintro e w2 ⟨rfl, hg2⟩; have HM2 := hid (HM.out.gr hg2); have HT2 := hid (HT.out.trans (hg2.touch _)); clear hg2)
          | (go_at_call 88; (with_reducible refine (mk_need_ok _ _).mono ?_); rintro e w3 ⟨rfl, rfl⟩)
          | (go_at_call 59; refine (mk_reach HM2.out HJ.out.1 (HRP.out HP0.out)).mono ?_; rintro e w4 ⟨ht4, (⟨rfl, s4, r4, vi4, hm4, hp4⟩ | ⟨rfl, hp4, s4, r4, vi4, hm4⟩)⟩ <;> (have HT4 := hid (touch_plus HT2.out ht4); have HM4 := hid (hm4.back HT2.out.size H.out.sep H.out.bB); have HP4 := hid hp4; clear ht4 hm4 hp4)))
        · go_round
          case rel =>
            obtain ⟨q1, q2, q3, q4⟩ := HJ.out
            obtain ⟨p1, p2, p3, p4, p5⟩ := HP4.out
            refine ⟨j + 1, s4, r4, vi4, by have := HJL.out; omega, HM4, HT4, ⟨p1, q2.trans p2, (q3.mono p2.sub).succ HP0.out (fun h0 => ?_), p4.trans q4⟩, by go_num⟩
            rw [← HXX.out] at h0 ⊢
            exact p3 (by omega)
          case measure => have := HJL.out; simp [intOf]; omega
        · exact ⟨rfl, MkEnd.no HT4.out HM4.out HP4.out⟩
      · have HP0 := hid hpt
        obtain ⟨y, hy⟩ : ∃ y, y = v.ptE a j := ⟨_, rfl⟩
        have d2 : (y == 0) = false := by rw [hy]; simpa using hpt
        rw [← hy] at HPT
        clear hpt hy
        go_wp2_with (first
          | (go_at_call 91; refine HPT.out.mono ?_; rintro e w2 ⟨rfl, hg2⟩; have HM2 := hid (HM.out.gr hg2); have HT2 := hid (HT.out.trans (hg2.touch _)); clear hg2)
          | (go_at_call 88; (with_reducible refine (mk_need_no HM2.out).mono ?_); rintro e w3 ⟨rfl, rfl⟩))
        exact ⟨rfl, MkEnd.no HT2.out HM2.out (not_sound_pt HR.out.1 (by rw [HR.out.2.2]; exact hjl) HP0.out)⟩
end
end Go.Proofs.YtlkifhoedfjlaaaGreatDoor
