/- The reference of layer 13: a row of objects. What only reads. -/
import Derived.Test.YtlbbkpjfoabobaaDoorObjC
import Derived.Test.YtlbbkpjfoabobaaDoorMem
import Derived.Test.YtlbbkpjfoabobaaDoorBools
import Derived.Test.YtlbbkpjfoabobaaDoorVecB
namespace Go.Proofs.YtlbbkpjfoabobaaDoor
open Go.RowKit Word

/-- The objects L lie behind A, two cells each. -/
def ObjsAt (w : World) (A : Option Addr) (L : List Ob) : Prop := ∀ i (h : i < L.length), ∃ g, A = some ⟨g, 0, none⟩ ∧ g < w.heap.size ∧
  w.cell? ⟨g, i * 2, none⟩ = some (.int .i64 (L[i].1 : Nat)) ∧ w.cell? ⟨g, i * 2 + 1, none⟩ = some (.int .i64 (L[i].2 : Nat))
theorem ObjsAt.touch {S : Nat → Prop} {w w' : World} {A : Option Addr} {L : List Ob} (h : ObjsAt w A L) (t : Touch S w w') (hS : ∀ a, A = some a → ¬ S a.block) : ObjsAt w' A L := fun i hi => by
  obtain ⟨g, rfl, h1, h2, h3⟩ := h i hi
  have hn := hS _ rfl
  exact ⟨g, rfl, Nat.lt_of_lt_of_le h1 t.size, (t.cell h1 hn _).trans h2, (t.cell h1 hn _).trans h3⟩
theorem ObjsAt.gr {w w' : World} {A : Option Addr} {L : List Ob} (h : ObjsAt w A L) (t : Gr w w') : ObjsAt w' A L := h.touch (t.touch (fun _ => False)) (fun _ _ h => h)
/-- The place number j, -1 behind the last. -/
def idxI (L : List Ob) (j : Nat) : Int := if j < L.length then j else -1

set_option maxRecDepth 100000 in
set_option maxHeartbeats 800000 in
theorem ref13_find {w : World} {A : Option Addr} {c : Nat} {L : List Ob} (hA : ObjsAt w A L) {n : Nat} (hg : Good n L) (hn : n ≤ 1048576) (a : Int) (ha : a ≤ 9223372036854775807) :
    Gets Tryd.prog 60 #[.slice A L.length c, .int .i64 a] w (.int .i64 (idxI L (findO L a))) := by
  unfold Gets
  have HA := hid hA
  have HG := hid hg
  have hlen := hg.len
  clear hA hg
  go_enter Tryd.func60, Tryd.ntmps60
  go_wp2
  go_loopw [5] (fun i wr => ∃ k : Nat, k ≤ L.length ∧ Hid (Gr w wr) ∧ Hid (∀ i (h : i < L.length), i < k → ¬ ((L[i].1 : Int) ≤ a ∧ a < L[i].1 + L[i].2)) ∧ i = .int .i64 k) (fun i _ => L.length - (intOf i).toNat)
  case atStart => exact ⟨0, by omega, ⟨Gr.refl w⟩, ⟨fun i _ h => by omega⟩, rfl⟩
  case round =>
    obtain ⟨k, hk, hgr, hno, rfl⟩ := hrel
    by_cases hlt : k < L.length
    · obtain ⟨g, rfl, -, q1, q2⟩ := (HA.out.gr hgr.out) k hlt
      have hsz := HG.out.sz _ (List.getElem_mem hlt)
      obtain ⟨s, hs⟩ : ∃ s, s = L[k].1 := ⟨_, rfl⟩
      obtain ⟨z, hz⟩ : ∃ z, z = L[k].2 := ⟨_, rfl⟩
      rw [← hs] at q1
      rw [← hz] at q2
      rw [← hs, ← hz] at hsz
      by_cases h1 : (s : Int) ≤ a
      · have d1 : decide ((s : Int) ≤ a) = true := by simp [h1]
        by_cases h2 : a - s < z
        · have d2 : decide (a - (s : Int) < (z : Int)) = true := by simp [h2]
          have E : Hid (findO L a = k) := ⟨findO_eq HG.out hlt (by rw [← hs]; exact h1) (by rw [← hs, ← hz]; omega)⟩
          clear hs hz hno
          go_wp2
          go_quiet (fail)
          go_wp2
          go_ret
          exact ⟨ret_int (by rw [E.out]; unfold idxI; rw [if_pos hlt]), hgr.out.drewN _⟩
        · have d2 : decide (a - (s : Int) < (z : Int)) = false := by simp; omega
          have HN : Hid (∀ i (h : i < L.length), i < k + 1 → ¬ ((L[i].1 : Int) ≤ a ∧ a < L[i].1 + L[i].2)) := ⟨fun i h hi => by
            rcases Nat.lt_or_ge i k with h3 | h3
            · exact hno.out i h h3
            · obtain rfl : i = k := by omega
              rw [← hs, ← hz]; omega⟩
          clear hs hz hno
          go_wp2
          go_quiet (fail)
          go_wp2
          go_roundw
          case rel => exact ⟨k + 1, by omega, ⟨hgr.out.drewN _⟩, HN, by go_num⟩
          case measure => simp [intOf]; omega
      · have d1 : decide ((s : Int) ≤ a) = false := by simp; omega
        have HN : Hid (∀ i (h : i < L.length), i < k + 1 → ¬ ((L[i].1 : Int) ≤ a ∧ a < L[i].1 + L[i].2)) := ⟨fun i h hi => by
          rcases Nat.lt_or_ge i k with h3 | h3
          · exact hno.out i h h3
          · obtain rfl : i = k := by omega
            rw [← hs, ← hz]; omega⟩
        clear hs hz hno
        go_wp2
        go_quiet (fail)
        go_wp2
        go_roundw
        case rel => exact ⟨k + 1, by omega, ⟨hgr.out.drewN _⟩, HN, by go_num⟩
        case measure => simp [intOf]; omega
    · have E : Hid (findO L a = L.length) := ⟨findO_none (fun o ho => by
        obtain ⟨i, hi, rfl⟩ := List.getElem_of_mem ho
        exact hno.out i hi (by omega))⟩
      clear hno
      go_wp2
      go_ret
      exact ⟨ret_int (by rw [E.out]; unfold idxI; rw [if_neg (Nat.lt_irrefl _)]), hgr.out⟩

set_option maxRecDepth 100000 in
set_option maxHeartbeats 800000 in
theorem ref13_next {w : World} {A : Option Addr} {c : Nat} {L : List Ob} (hA : ObjsAt w A L) {n : Nat} (hg : Good n L) (hn : n ≤ 1048576) (a : Int) :
    Calls Tryd.prog 62 #[.slice A L.length c, .int .i64 a] w fun e w' => e = .returned (.int .i64 (idxI L (nextO L a))) ∧ w = w' := by
  have HA := hid hA
  have hlen := hg.len
  clear hA hg
  go_enter Tryd.func62, Tryd.ntmps62
  go_wp2
  go_loop [5] (fun i => ∃ k : Nat, k ≤ L.length ∧ Hid (∀ i (h : i < L.length), i < k → (L[i].1 : Int) < a) ∧ i = .int .i64 k) (fun i => L.length - (intOf i).toNat)
  case atStart => exact ⟨0, by omega, ⟨fun i _ h => by omega⟩, rfl⟩
  case round =>
    obtain ⟨k, hk, hno, rfl⟩ := hrel
    by_cases hlt : k < L.length
    · obtain ⟨g, rfl, -, q1, q2⟩ := HA.out k hlt
      obtain ⟨s, hs⟩ : ∃ s, s = L[k].1 := ⟨_, rfl⟩
      rw [← hs] at q1
      by_cases h1 : a ≤ (s : Int)
      · have d1 : decide (a ≤ (s : Int)) = true := by simp [h1]
        have E : Hid (nextO L a = k) := ⟨nextO_eq (by omega) hno.out (fun _ => by rw [← hs]; exact h1)⟩
        clear hs hno
        go_wp2
        go_ret
        exact ⟨ret_int (by rw [E.out]; unfold idxI; rw [if_pos hlt]), rfl⟩
      · have d1 : decide (a ≤ (s : Int)) = false := by simp; omega
        have HN : Hid (∀ i (h : i < L.length), i < k + 1 → (L[i].1 : Int) < a) := ⟨fun i h hi => by
          rcases Nat.lt_or_ge i k with h3 | h3
          · exact hno.out i h h3
          · obtain rfl : i = k := by omega
            rw [← hs]; omega⟩
        clear hs hno
        go_wp2
        go_round
        case rel => exact ⟨k + 1, by omega, HN, by go_num⟩
        case measure => simp [intOf]; omega
    · have E : Hid (nextO L a = L.length) := ⟨nextO_eq (Nat.le_refl _) (fun i hi _ => hno.out i hi (by omega)) (fun h => absurd h (Nat.lt_irrefl _))⟩
      clear hno
      go_wp2
      go_ret
      exact ⟨ret_int (by rw [E.out]; unfold idxI; rw [if_neg (Nat.lt_irrefl _)]), rfl⟩

theorem liveN_succ (L : List Ob) (n : Nat) (f t : Int) : liveN L (n + 1) f t = liveN L n f t + if f ≤ n ∧ (n : Int) < t ∧ findO L n < L.length then 1 else 0 := by
  unfold liveN
  rw [cnt_succ, liveB_find]
  by_cases h1 : f ≤ (n : Int) <;> by_cases h2 : (n : Int) < t <;> by_cases h3 : findO L n < L.length <;> simp [h1, h2, h3]
theorem idxI_ge (L : List Ob) (j : Nat) : decide (0 ≤ idxI L j) = decide (j < L.length) := by unfold idxI; split <;> simp_all
set_option maxRecDepth 100000 in
set_option maxHeartbeats 800000 in
theorem ref13_live {w : World} {A : Option Addr} {c : Nat} {L : List Ob} (hA : ObjsAt w A L) {n : Nat} (hg : Good n L) (hn : n ≤ 1048576) (f t : Int) :
    Gets Tryd.prog 64 #[.slice A L.length c, .int .i64 n, .int .i64 f, .int .i64 t] w (.int .i64 (liveN L n f t : Nat)) := by
  unfold Gets
  have HA := hid hA
  have HG := hid hg
  clear hA hg
  go_enter Tryd.func64, Tryd.ntmps64
  go_wp2
  go_loopw [9, 10] (fun s9 i wr => ∃ k : Nat, k ≤ n ∧ Hid (Gr w wr) ∧ s9 = .int .i64 (liveN L k f t : Nat) ∧ i = .int .i64 k) (fun _ i _ => n - (intOf i).toNat)
  case atStart => exact ⟨0, by omega, ⟨Gr.refl w⟩, rfl, rfl⟩
  case round =>
    obtain ⟨k, hk, hgr, rfl, rfl⟩ := hrel
    have hle : liveN L k f t ≤ k := cnt_le _ _
    have HS := hid (liveN_succ L k f t)
    have HA2 := hid (HA.out.gr hgr.out)
    obtain ⟨v, hv⟩ : ∃ v, v = liveN L k f t := ⟨_, rfl⟩
    rw [← hv] at hle ⊢ HS
    have HV := hid hv
    clear hv
    by_cases hlt : k < n
    · by_cases h1 : f ≤ (k : Int)
      · by_cases h2 : (k : Int) < t
        · by_cases h3 : findO L k < L.length
          · have E : Hid (liveN L (k + 1) f t = v + 1) := ⟨by rw [HS.out, if_pos ⟨h1, h2, h3⟩]⟩
            have HD : Hid (idxI L (findO L k) = (findO L k : Nat)) := ⟨if_pos h3⟩
            clear h3
            go_wp2_with (go_at_call 60; refine (ref13_find HA2.out HG.out hn _ (by omega)).mono ?_; rintro e w1 ⟨rfl, hg1⟩; rw [HD.out]; have HG1 := hid (hgr.out.trans hg1); clear hg1)
            go_roundw
            case rel => exact ⟨k + 1, by omega, HG1, vint (by rw [E.out]; omega), by go_num⟩
            case measure => simp [intOf]; omega
          · have E : Hid (liveN L (k + 1) f t = v) := ⟨by rw [HS.out, if_neg (fun h => h3 h.2.2)]; rfl⟩
            have HD : Hid (idxI L (findO L k) = -1) := ⟨if_neg h3⟩
            clear h3
            go_wp2_with (go_at_call 60; refine (ref13_find HA2.out HG.out hn _ (by omega)).mono ?_; rintro e w1 ⟨rfl, hg1⟩; rw [HD.out]; have HG1 := hid (hgr.out.trans hg1); clear hg1)
            go_roundw
            case rel => exact ⟨k + 1, by omega, HG1, vint (by rw [E.out]), by go_num⟩
            case measure => simp [intOf]; omega
        · have E : Hid (liveN L (k + 1) f t = v) := ⟨by rw [HS.out, if_neg (fun h => h2 h.2.1)]; rfl⟩
          have h2' : t ≤ (k : Int) := by omega
          clear h2
          go_wp2
          go_roundw
          case rel => exact ⟨k + 1, by omega, hgr, vint (by rw [E.out]), by go_num⟩
          case measure => simp [intOf]; omega
      · have E : Hid (liveN L (k + 1) f t = v) := ⟨by rw [HS.out, if_neg (fun h => h1 h.1)]; rfl⟩
        go_wp2
        go_roundw
        case rel => exact ⟨k + 1, by omega, hgr, vint (by rw [E.out]), by go_num⟩
        case measure => simp [intOf]; omega
    · obtain rfl : k = n := by omega
      clear HS HA2
      go_wp2
      go_ret
      exact ⟨ret_int (by rw [HV.out]), hgr.out⟩
end Go.Proofs.YtlbbkpjfoabobaaDoor
