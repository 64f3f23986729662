/- Package mark: drain, run. -/
import Derived.Test.YtlkifhoedfjlaaaGreatDoorMark
import Derived.Test.YtlkifhoedfjlaaaGreatDoorMarkB
import Derived.Deep.LoopGhost
namespace Go.Proofs.YtlkifhoedfjlaaaGreatDoor
open Go.RowKit Word

def NilOk (s : MkS) (r vi : Int) : Prop := s.L = [] → r = 1 ∧ vi = 0
theorem MkAt.popped {w w' : World} {SV G SW : Nat → Prop} {c : MkC} {v : Vm} {L : List Ob} {st st' : List Int} {lost lost' : Bool} {r vi : Int} (h : MkAt w SV G SW c v ⟨L, st, lost⟩ r vi) (t : Touch G w w') (s' : StkAt w' G c.g st' c.R lost') : MkAt w' SV G SW c v ⟨L, st', lost'⟩ r vi := by
  have hs := h.sep
  have hk5 : ¬ G c.k := hs.k2
  exact ⟨h.vm.touch t (fun i hi _ e => hs.sv i hi (.inr (.inr e))), h.ext.touch t (hs.mg _ (.inl rfl)) (fun e => hs.p1 (.inr (.inr e))) (hs.mg _ (.inr (.inl rfl))) (fun e => hs.p2 (.inr (.inr e))) (hs.mg _ (.inr (.inr rfl))), s', h.wk.touch t (fun i hi _ e => hs.sw i hi (.inr (.inr e))), h.row.touch t hk5, t.tab h.tab.lt (fun e => hs.tab (.inr (.inr e))) h.tab, hs, Nat.le_trans h.bB t.size⟩
def PopS (st st' : List Int) (a : Int) (b : Bool) : Prop := (b = true ∧ st = st' ++ [a]) ∨ (b = false ∧ st = [] ∧ st' = [])
def PopM (w : World) (SV G SW : Nat → Prop) (c : MkC) (v : Vm) (s : MkS) (r vi : Int) (e : Ending) (w' : World) : Prop := ∃ a b st', e = .returned (.tuple #[.int .i64 a, .bool b]) ∧ Touch (c.T G) w w' ∧ MkAt w' SV G SW c v ⟨s.L, st', s.lost⟩ r vi ∧ PopS s.st st' a b
section
variable {w : World} {SV G SW : Nat → Prop} {c : MkC} {v : Vm} {s : MkS} {r vi : Int} {X : Int → Prop} {rs : List Int}
theorem mk_pop (h : MkAt w SV G SW c v s r vi) : Calls Tryz.prog 90 #[.pointer (some ⟨c.g, 0, none⟩)] w (PopM w SV G SW c v s r vi) := by
  refine (stk_pop h.stk).mono ?_
  rintro e w' (⟨h0, rfl, rfl⟩ | ⟨l', a, h0, rfl, ht, hs⟩)
  · refine ⟨0, false, [], rfl, Touch.refl _ _, ?_, .inr ⟨rfl, h0, rfl⟩⟩
    rw [← h0]; exact h
  · exact ⟨a, true, l', rfl, ht.mono (fun i _ hi => .inr (.inr hi)), MkAt.popped (L := s.L) (st := s.st) (lost := s.lost) h ht hs, .inl ⟨rfl, h0⟩⟩
/-- Where the draining stands. -/
def DrS (v : Vm) (rs : List Int) (c : MkC) (X : Int → Prop) (s : MkS) (a : Int) (b : Bool) (k : Nat) : Prop :=
  ((b = false ∧ s.st = [] ∧ MarkInv v rs c.n c.R X s) ∨ (b = true ∧ Hs s.L a ∧ MarkInv v rs c.n c.R (fun x => X x ∨ x = a) s)) ∧ 2 * c.n + s.st.length + (if b then 1 else 0) ≤ 2 * s.L.length + k
theorem DrS.of {s : MkS} (h : MarkInv v rs c.n c.R X s) {st' : List Int} {a : Int} {b : Bool} (hp : PopS s.st st' a b) {k : Nat} (hk : 2 * c.n + s.st.length ≤ 2 * s.L.length + k) : DrS v rs c X ⟨s.L, st', s.lost⟩ a b k := by
  rcases hp with ⟨rfl, h1⟩ | ⟨rfl, h1, rfl⟩
  · have h' : MarkInv v rs c.n c.R X ⟨s.L, st' ++ [a], s.lost⟩ := by rw [← h1]; exact h
    refine ⟨.inr ⟨rfl, h'.pop.2, h'.pop.1⟩, ?_⟩
    rw [h1] at hk
    simp at hk ⊢
    omega
  · refine ⟨.inl ⟨rfl, rfl, by rw [← h1]; exact h⟩, ?_⟩
    rw [h1] at hk
    simpa using hk
def DrainP (s : MkS) (v : Vm) (rs : List Int) (c : MkC) (X : Int → Prop) (r vi : Int) (s' : MkS) (r' vi' : Int) : Prop := MarkInv v rs c.n c.R X s' ∧ Later s s' ∧ s'.st = [] ∧ (NilOk s r vi → NilOk s' r' vi')
theorem later_pop {s t : MkS} {st' : List Int} {a : Int} {b : Bool} (h : Later s t) (hp : PopS t.st st' a b) : Later s ⟨t.L, st', t.lost⟩ := by
  refine ⟨h.sub, h.len, h.los, ?_⟩
  have := h.mea
  rcases hp with ⟨-, h1⟩ | ⟨-, h1, rfl⟩
  · rw [h1] at this; simp at this; show 2 * s.L.length + st'.length ≤ 2 * t.L.length + s.st.length; omega
  · rw [h1] at this; exact this
theorem hs_ne {L : List Ob} {a : Int} (h : Hs L a) : L ≠ [] := by
  rintro rfl
  obtain ⟨o, ho, -⟩ := h
  cases ho
set_option maxRecDepth 100000 in
set_option maxHeartbeats 3200000 in
theorem mk_drain (h : MkAt w SV G SW c v s r vi) (hi : MarkInv v rs c.n c.R X s) : Calls Tryz.prog 60 #[.pointer (some ⟨c.k, 0, none⟩)] w (MkEnd w SV G SW c v (DrainP s v rs c X r vi) (¬ Sound v rs c.n)) := by
  have H := hid h
  have HI := hid hi
  have c2 := h.row.cell (j := 2) rfl
  clear h hi
  go_enter Tryz.func60, Tryz.ntmps60
  go_wp2_with (go_at_call 90; refine (mk_pop H.out).mono ?_; rintro e w1 ⟨a0, b0, st0, rfl, ht1, hm1, hp1⟩; have HT1 := hid ht1; have HM1 := hid (hm1.up (w := w) H.out.bB); have HP1 := hid hp1; clear ht1 hm1 hp1)
  go_loopg [2, 3] (2 * c.n + s.st.length) (fun k s2 s3 wr => ∃ (a : Int) (b : Bool) (s' : MkS) (r' vi' : Int), s2 = .int .i64 a ∧ s3 = .bool b ∧ Hid (MkAt wr SV (plus G w) SW c v s' r' vi') ∧ Hid (Touch (c.T G) w wr) ∧ Hid (Later s s' ∧ (NilOk s r vi → NilOk s' r' vi') ∧ DrS v rs c X s' a b k))
  case atStart =>
    refine ⟨a0, b0, _, r, vi, rfl, rfl, HM1, HT1, ⟨later_pop (Later.refl _) HP1.out, fun h => h, DrS.of HI.out HP1.out (by omega)⟩⟩
  case round =>
    obtain ⟨a, b, s', r', vi', rfl, rfl, HM, HT, HJ⟩ := hrel
    clear c2
    have k2 := HM.out.row.cell (j := 2) rfl
    cases b with
    | false =>
      go_wp2
      refine bodyPost_end (results_none rfl _ _ _) rfl ?_
      obtain ⟨q1, q2, q3, -⟩ := HJ.out
      rcases q3 with ⟨-, h1, h2⟩ | ⟨h1, -⟩
      · exact MkEnd.ok HT.out HM.out ⟨h2, q1, h1, q2⟩
      · cases h1
    | true =>
      have HA : Hid (Hs s'.L a ∧ MarkInv v rs c.n c.R (fun x => X x ∨ x = a) s' ∧ 2 * c.n + s'.st.length + 1 ≤ 2 * s'.L.length + gk) := ⟨by
        obtain ⟨q1, q2, q3, q4⟩ := HJ.out
        rcases q3 with ⟨h1, -⟩ | ⟨-, h1, h2⟩
        · cases h1
        · exact ⟨h1, h2, q4⟩⟩
      go_wp2_with (first
        | (go_at_call 64; refine (mk_visit HM.out HA.out.2.1 HA.out.1).mono ?_; rintro e w4 ⟨ht4, (⟨rfl, s4, r4, vi4, hm4, hp4⟩ | ⟨rfl, hp4, s4, r4, vi4, hm4⟩)⟩ <;> (have HT4 := hid (touch_plus HT.out ht4); have HM4 := hid (hm4.back HT.out.size H.out.sep H.out.bB); have HP4 := hid hp4; have k4 := hm4.row.cell (j := 2) rfl; clear ht4 hm4 hp4))
        | (go_at_call 90; refine (mk_pop HM4.out).mono ?_; rintro e w5 ⟨a5, b5, st5, rfl, ht5, hm5, hp5⟩; have HT5 := hid (touch_plus HT4.out ht5); have HM5 := hid hm5; have HP5 := hid hp5; clear ht5 hm5 hp5))
      · have hgk : 1 ≤ gk := by
          have := HA.out.2.2
          have := HA.out.2.1.mkd.good.len
          omega
        go_roundg (gk - 1)
        case measure => omega
        case rel =>
          obtain ⟨q1, q2, -⟩ := HJ.out
          obtain ⟨p1, p2, p3, p4⟩ := HP4.out
          have hme := HA.out.2.2
          have hm4 := p2.mea
          refine ⟨a5, b5, _, r4, vi4, rfl, rfl, HM5, HT5, ⟨later_pop (q1.trans p2) HP5.out, fun _ h0 => absurd h0 (hs_ne (p2.sub a HA.out.1)), DrS.of (p1.done p3 (fun x hx => hx)) HP5.out (by omega)⟩⟩
      · exact ⟨rfl, MkEnd.no HT4.out HM4.out HP4.out⟩
end
end Go.Proofs.YtlkifhoedfjlaaaGreatDoor
