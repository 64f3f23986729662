/- Layer 24's Far; layer 25's Loaded and pages. -/
import Derived.Test.YtbmidhlilafgeaaGreatDoorRef25B
import Derived.Test.YtbmidhlilafgeaaGreatDoorLay24P
import Derived.Test.YtbmidhlilafgeaaGreatDoorKM3
namespace Go.Proofs.YtbmidhlilafgeaaGreatDoor
open Go.RowKit Word

def farC (n1 n2 n3 : Nat) : Bool := decide (80 < n1 ∨ 300 < n2 ∨ 64 < n3)
set_option maxRecDepth 100000 in
set_option maxHeartbeats 800000 in
theorem far24 (v0 v4 v5 v6 : Value) (A1 A2 A3 : Option Addr) (n1 n2 n3 c1 c2 c3 : Nat) (w : World) : Calls Tryz.prog 14 #[.agg #[v0, .slice A1 n1 c1, .slice A2 n2 c2, .slice A3 n3 c3, v4, v5, v6]] w fun e w' => e = .returned (.bool (farC n1 n2 n3)) ∧ Gr w w' := by
  have R := Rec.new w 25 [v0, .slice A1 n1 c1, .slice A2 n2 c2, .slice A3 n3 c3, v4, v5, v6]
  have y0 := R.cell (j := 0) rfl
  have y1 := R.cell (j := 1) rfl
  have y2 := R.cell (j := 2) rfl
  have y3 := R.cell (j := 3) rfl
  have yl := R.lt
  have HG := hid ((Gr.refl w).alloc (.cells #[v0, .slice A1 n1 c1, .slice A2 n2 c2, .slice A3 n3 c3, v4, v5, v6] 25))
  have HF : Hid (farC n1 n2 n3 = decide (80 < n1 ∨ 300 < n2 ∨ 64 < n3)) := ⟨rfl⟩
  clear R
  by_cases h1 : 80 < n1
  · have d1 : decide ((80 : Int) < (n1 : Int)) = true := decide_eq_true (by omega)
    have e1 : decide (80 < n1) = true := decide_eq_true h1
    have HE : Hid (farC n1 n2 n3 = true) := ⟨by rw [HF.out]; exact decide_eq_true (.inl h1)⟩
    rw [HE.out]
    go_enter Tryz.func14, Tryz.ntmps14
    go_wp2
    go_ret
    exact ⟨rfl, HG.out⟩
  · have d1 : decide ((80 : Int) < (n1 : Int)) = false := decide_eq_false (by omega)
    have e1 : decide (80 < n1) = false := decide_eq_false h1
    by_cases h2 : 300 < n2
    · have d2 : decide ((300 : Int) < (n2 : Int)) = true := decide_eq_true (by omega)
      have e2 : decide (300 < n2) = true := decide_eq_true h2
      have HE : Hid (farC n1 n2 n3 = true) := ⟨by rw [HF.out]; exact decide_eq_true (.inr (.inl h2))⟩
      rw [HE.out]
      go_enter Tryz.func14, Tryz.ntmps14
      go_wp2
      go_ret
      exact ⟨rfl, HG.out⟩
    · have d2 : decide ((300 : Int) < (n2 : Int)) = false := decide_eq_false (by omega)
      have e2 : decide (300 < n2) = false := decide_eq_false h2
      by_cases h3 : 64 < n3
      · have d3 : decide ((64 : Int) < (n3 : Int)) = true := decide_eq_true (by omega)
        have e3 : decide (64 < n3) = true := decide_eq_true h3
        have HE : Hid (farC n1 n2 n3 = true) := ⟨by rw [HF.out]; exact decide_eq_true (.inr (.inr h3))⟩
        rw [HE.out]
        go_enter Tryz.func14, Tryz.ntmps14
        go_wp2
        go_ret
        exact ⟨rfl, HG.out⟩
      · have d3 : decide ((64 : Int) < (n3 : Int)) = false := decide_eq_false (by omega)
        have e3 : decide (64 < n3) = false := decide_eq_false h3
        have HE : Hid (farC n1 n2 n3 = false) := ⟨by rw [HF.out]; exact decide_eq_false (by omega)⟩
        rw [HE.out]
        go_enter Tryz.func14, Tryz.ntmps14
        go_wp2
        go_ret
        exact ⟨rfl, HG.out⟩
set_option maxRecDepth 100000 in
theorem pages25 (n pg : Nat) (hpg : 1 ≤ pg) (h1 : n ≤ 1048576) (h2 : pg ≤ 1048576) (w : World) : Calls Tryz.prog 22 #[.int .i64 n, .int .i64 pg] w fun e w' => e = .returned (.int .i64 ((n + pg - 1) / pg : Nat)) ∧ w = w' := by
  obtain ⟨s, hs⟩ : ∃ s, s = n + pg - 1 := ⟨_, rfl⟩
  have q1 : (s : Int).tdiv (pg : Int) = ((s / pg : Nat) : Int) := rfl
  have q2 : (s : Int) / (pg : Int) = ((s / pg : Nat) : Int) := rfl
  rw [← hs]
  obtain ⟨d, hd⟩ : ∃ d, d = s / pg := ⟨_, rfl⟩
  rw [← hd] at q1 q2 ⊢
  have q3 : (n : Int) + (pg : Int) - 1 = (s : Int) := by omega
  have hdb : d ≤ s := by rw [hd]; exact Nat.div_le_self _ _
  have hpz : (pg : Int) ≠ 0 := by omega
  have q4 : ((n : Int) + (pg : Int) - 1).tdiv (pg : Int) = (d : Int) := by rw [q3]; exact q1
  have q5 : ((n : Int) + (pg : Int) - 1) / (pg : Int) = (d : Int) := by rw [q3]; exact q2
  have hsb : s ≤ 2097152 := by omega
  have HS := hid hs
  clear hd hs q3
  go_enter Tryz.func22, Tryz.ntmps22
  go_wp2
  go_ret
  exact ⟨ret_int rfl, rfl⟩
set_option maxRecDepth 100000 in
set_option maxHeartbeats 3200000 in
theorem loaded25 {w : World} {S : Nat → Prop} {q : Nat} {v : Vm} (hV : VmAt w S q v) (hn : v.n ≤ 1100) :
    Calls Tryz.prog 19 #[.pointer (some ⟨q, 0, none⟩)] w fun e w' => ∃ (A : Option Addr) (c : Nat), e = .returned (.slice A v.n c) ∧ Gr w w' ∧ w'.ownsRow w.heap.size 50 1 (.slice A v.n c) v.n (wrds v v.n) := by
  have HV := hid hV.cut
  have HWD := hid (vm_words hV)
  obtain ⟨ii, hii, hi0, hi1, hi2⟩ := info_parts infoU64
  obtain ⟨n, hne⟩ : ∃ n, n = v.n := ⟨_, rfl⟩
  rw [← hne] at hn HWD ⊢
  clear hV hne
  go_enter Tryz.func19, Tryz.ntmps19
  go_wp2_with (go_at_call 33; refine HWD.out.mono ?_; rintro e w6 ⟨rfl, rfl⟩)
  go_loopw [3, 9] (fun s3 s9 wr => ∃ (k : Nat) (vL : Value), k ≤ n ∧ Hid (wr.ownsRow w.heap.size 50 1 vL k (wrds v k)) ∧ Hid (Touch (fun i => w.heap.size ≤ i) w wr) ∧ s3 = vL ∧ s9 = .int .i64 k) (fun _ s9 _ => n - (intOf s9).toNat)
  case atStart => exact ⟨0, _, Nat.zero_le _, ⟨own_nil _ _ _ _⟩, ⟨Touch.refl _ _⟩, rfl, rfl⟩
  case round =>
    obtain ⟨k, vL, hk, HO, HT, rfl, rfl⟩ := hrel
    obtain ⟨A5, c5, rfl, hc5, hc6⟩ := own_shape HO.out
    unfold maxLen at hc6
    by_cases hlast : k < n
    · have hkI : (k : Int) < (n : Int) := by omega
      have HLD := hid (vm_load (HV.out.touch HT.out (fun b hb h1 h2 => by have := hb.2; omega)) (k : Int))
      have HSN : Hid (wrds v k ++ [.int .u64 ((v.ldV (k : Int) : Nat) : Int)] = wrds v (k + 1)) := ⟨by unfold wrds; rw [List.range_succ, List.map_append]; rfl⟩
      obtain ⟨y, hy⟩ : ∃ y, y = v.ldV (k : Int) := ⟨_, rfl⟩
      rw [← hy] at HLD HSN
      have HKN := hid (And.intro hk hlast)
      clear hy hk
      go_wp2_with (first
        | (go_at_call 64; refine HLD.out.mono ?_; rintro e w7 ⟨rfl, hg7⟩; have HG7 := hid hg7; have HO7 := hid (own_gr HO.out hg7); clear hg7)
        | (at_builtin; refine wpList_append_lies _ rfl _ _ 35 rfl w.heap.size 50 ii _ 1 8 Tryz.underlying35 hii hi0 hi1 hi2 rfl (by decide) (.slice A5 k c5) k (wrds v k) rfl (HO7.out.alloc _) ⟨w7.heap.size, 0, none⟩ 1 1 [.int .u64 (y : Nat)] rfl rfl (World.news_of_block (cs := #[.int .u64 (y : Nat)]) (t := 50) (fr := (0, 0)) (heap_alloc_new w7 (.cells #[.int .u64 (y : Nat)] 50))) (by simp [Value.oneCell']) (by have := HKN.out; omega) (by unfold maxLen; have := HKN.out; omega) (by have := HKN.out; omega) (by have := HT.out.size; have := HG7.out.size; rw [World.size_alloc]; omega) (w7.heap.size + 1) (by simp) ?_; intro g4 c4 w8 hown4 hgrow4 hat4 hlt4; have t4 : Touch (fun k' => (Value.slice A5 k c5).ownBlock = some k') w7 w8 := (((Gr.refl _).alloc _).touch _).trans (grown_touch hgrow4 _ (fun k e _ => e)); have HT4 := hid t4; have HO4 := hid hown4; clear hown4 hgrow4 hat4 hlt4 t4))
      go_round
      case rel =>
        refine ⟨k + 1, _, by have := HKN.out; omega, ⟨by rw [← HSN.out]; exact HO4.out⟩, ⟨(HT.out.trans (HG7.out.touch _)).trans (HT4.out.mono (fun i _ h => (own_lt HO7.out h).1))⟩, rfl, by go_num⟩
      case measure => have := HKN.out; simp [intOf]; omega
    · have hkI : ¬ (k : Int) < (n : Int) := by omega
      obtain rfl : n = k := by omega
      clear hlast hk
      go_wp2
      go_ret
      exact ⟨A5, c5, rfl, touch_old HT.out, HO.out⟩
end Go.Proofs.YtbmidhlilafgeaaGreatDoor
