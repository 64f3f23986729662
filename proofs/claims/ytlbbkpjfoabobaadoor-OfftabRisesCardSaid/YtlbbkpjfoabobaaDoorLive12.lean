/- Layer 12's helper 'bits', and the example of its statements. -/
import Derived.Test.YtlbbkpjfoabobaaDoorRankN
import Derived.Test.YtlbbkpjfoabobaaDoorRefO
import Derived.Test.YtlbbkpjfoabobaaDoorLive11
namespace Go.Proofs.YtlbbkpjfoabobaaDoor
open Go.RowKit Word

/-- The first k of the bits l. -/
def bitsK (l : List Bool) (k : Nat) : List Bool := l.mapIdx fun i x => decide (i < k) && x
theorem bitsK_len (l : List Bool) (k : Nat) : (bitsK l k).length = l.length := by unfold bitsK; simp
theorem bitsK_at (l : List Bool) (k i : Nat) : at_ (bitsK l k) i = (decide (i < k) && at_ l i) := by
  unfold bitsK at_
  rw [List.getD_eq_getElem?_getD, List.getElem?_mapIdx, List.getD_eq_getElem?_getD]
  cases l[i]? <;> simp
theorem bitsK_zero (l : List Bool) : bitsK l 0 = List.replicate l.length false :=
  ext_at (by rw [bitsK_len]; simp) (fun i hi => by rw [bitsK_at]; simp [at_, List.getD_eq_getElem?_getD, List.getElem?_replicate]; split <;> rfl)
theorem bitsK_all (l : List Bool) : bitsK l l.length = l :=
  ext_at (bitsK_len ..) (fun i hi => by rw [bitsK_len] at hi; rw [bitsK_at, decide_eq_true hi]; rfl)
theorem bitsK_on {l : List Bool} {k : Nat} (hk : k < l.length) (h : at_ l k = true) : (bitsK l k).set k true = bitsK l (k + 1) :=
  ext_at (by rw [List.length_set, bitsK_len, bitsK_len]) (fun i hi => by
    rw [bitsK_at]
    unfold at_
    rw [getD_set _ k i true (by rw [bitsK_len]; exact hk)]
    by_cases e : i = k
    · subst e; rw [if_pos rfl, decide_eq_true (by omega)]; show true = (true && at_ l i); rw [h]; rfl
    · rw [if_neg e]
      show at_ (bitsK l k) i = _
      rw [bitsK_at]
      show (decide (i < k) && at_ l i) = (decide (i < k + 1) && at_ l i)
      rw [show decide (i < k) = decide (i < k + 1) from decide_eq_decide.2 (by omega)])
theorem bitsK_off {l : List Bool} {k : Nat} (h : at_ l k = false) : bitsK l k = bitsK l (k + 1) :=
  ext_at (by rw [bitsK_len, bitsK_len]) (fun i hi => by
    rw [bitsK_at, bitsK_at]
    by_cases e : i = k
    · subst e; rw [h]; simp
    · rw [show decide (i < k) = decide (i < k + 1) from decide_eq_decide.2 (by omega)])

/-- A vector of the bits l, apart from all that was there. -/
def FreshVec (w : World) (l : List Bool) (e : Ending) (w' : World) : Prop :=
  ∃ p b, e = .returned (.pointer (some ⟨p, 0, none⟩)) ∧ Gr w w' ∧ Vec w' p b l ∧ w.heap.size ≤ p ∧ w.heap.size ≤ b
set_option maxRecDepth 100000 in
set_option maxHeartbeats 1600000 in
theorem bits12 {w : World} {g o c : Nat} {l : List Bool} (hB : BoolsO w g o l) (h1 : 1 ≤ l.length) :
    Calls Tryd.prog 35 #[.slice (some ⟨g, o, none⟩) l.length c] w (FreshVec w l) := by
  have n2 := hB.n2
  have HB := hid hB
  clear hB
  go_enter Tryd.func35, Tryd.ntmps35
  go_wp2_with (go_at_call 16; refine (new_vec l.length h1 n2 _).mono ?_; rintro e w1 ⟨p, b, rfl, hg1, hV1, hp, hb⟩; rw [← bitsK_zero] at hV1; have HG1 := hid hg1; have HV1 := hid hV1; have HP := hid (And.intro hp hb); clear hg1 hV1 hp hb)
  go_loopw [15] (fun i wr => ∃ k : Nat, k ≤ l.length ∧ Hid (Gr w wr) ∧ Hid (Vec wr p b (bitsK l k)) ∧ i = .int .i64 k) (fun i _ => l.length - (intOf i).toNat)
  case atStart => exact ⟨0, by omega, HG1, HV1, rfl⟩
  case round =>
    obtain ⟨k, hk, hG, hV, rfl⟩ := hrel
    by_cases hlt : k < l.length
    · have hc := (hG.out.cell HB.out.lt _).trans (HB.out.cell k hlt)
      cases hat : at_ l k with
      | true =>
        rw [hat] at hc
        have E := hid (bitsK_on hlt hat)
        have HL := hid (show k < (bitsK l k).length by rw [bitsK_len]; exact hlt)
        clear hat
        go_wp2_with (go_at_call 52; refine (set_in hV.out k HL.out).mono ?_; rintro e w2 ⟨rfl, ht, hv⟩; rw [E.out] at hv; have HT := hid ht; have HV2 := hid hv; clear ht hv)
        go_roundw
        case rel => exact ⟨k + 1, by omega, ⟨((hG.out.touch (fun _ => False)).trans' HT.out (fun i hi (h : i = b) => by have := HP.out; omega)).gr⟩, HV2, by go_num⟩
        case measure => simp [intOf]; omega
      | false =>
        rw [hat] at hc
        have E := hid (bitsK_off hat)
        clear hat
        go_wp2
        go_roundw
        case rel => exact ⟨k + 1, by omega, hG, ⟨E.out ▸ hV.out⟩, by go_num⟩
        case measure => simp [intOf]; omega
    · obtain rfl : k = l.length := by omega
      rw [bitsK_all] at hV
      go_wp2
      go_ret
      exact ⟨p, b, rfl, hG.out, hV.out, HP.out.1, HP.out.2⟩

def live12 : List Bool := layL ((List.replicate 100 false).set 1 true) 64 66 true
theorem live12_ahead : aheadV live12 32 2 = 1 ∧ aheadE live12.length 32 2 = 0 := by decide +kernel
theorem live12_pick : pickV live12 2 = 65 ∧ pickB live12 2 = true := by decide +kernel
theorem live12_before : countL live12 0 65 = 2 := by decide +kernel
set_option maxRecDepth 100000 in
set_option maxHeartbeats 1600000 in
theorem lives12 {w : World} (hT : TabAt w) : Gets Tryd.prog 33 #[] w (.bool true) := by
  have HT := hid hT
  clear hT
  unfold Gets
  go_enter Tryd.func33, Tryd.ntmps33
  go_wp2_with (first
    | (go_at_call 16; refine (new_vec 100 (by decide) (by decide) _).mono ?_; rintro e w1 ⟨p, b, rfl, hg1, hV1, hp, hb⟩; have HG1 := hid hg1; have HV1 := hid hV1; clear hg1 hV1)
    | (go_at_call 52; refine (set_in HV1.out 1 (by simp)).mono ?_; rintro e w2 ⟨rfl, ht2, hV2⟩; have HG2 := hid ((HG1.out.touch (fun _ => False)).trans' ht2 (fun i hi (h : i = b) => by omega)).gr; have HV2 := hid hV2; clear ht2 hV2)
    | (go_at_call 17; refine (fill_vec HV2.out _ _ (by decide)).mono ?_; rintro e w3 ⟨rfl, ht3, hV3⟩; have HG3 := hid ((HG2.out.touch (fun _ => False)).trans' ht3 (fun i hi (h : i = b) => by omega)).gr; have HV3 := hid (show Vec w3 p b live12 from hV3); clear ht3 hV3)
    | (go_at_call 34; refine (rank_new_in HV3.out 32 (by decide)).mono ?_; rintro e w4 ⟨x, p2, b2, a, rfl, hg4, hI, -, -, -, -⟩; have HG4 := hid (HG3.out.trans hg4); have HI := hid hI; clear hg4 hI)
    | (go_at_call 48; refine (rank_ahead HI.out 2).mono ?_; rintro e w5 ⟨rfl, rfl⟩; rw [live12_ahead.1, live12_ahead.2])
    | (go_at_call 37; refine (rank_pick HI.out (HG4.out.tab HT.out.lt HT.out) 2).mono ?_; rintro e w6 ⟨rfl, hg6⟩; rw [live12_pick.1, live12_pick.2]; have HG6 := hid (HG4.out.trans hg6); have HI6 := hid (HI.out.gr hg6); clear hg6)
    | (go_at_call 38; refine (rank_before HI6.out 65).mono ?_; rintro e w7 ⟨rfl, hg7⟩; rw [live12_before]))
  go_ret
  exact ⟨rfl, HG6.out.trans hg7⟩
end Go.Proofs.YtlbbkpjfoabobaaDoor
