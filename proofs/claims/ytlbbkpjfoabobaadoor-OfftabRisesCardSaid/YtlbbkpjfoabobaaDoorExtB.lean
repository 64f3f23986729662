/- extent's Live. -/
import Derived.Test.YtlbbkpjfoabobaaDoorExt
namespace Go.Proofs.YtlbbkpjfoabobaaDoor
open Go.RowKit Word

section
variable {w : World} {m p1 b1 p2 b2 n : Nat} {L : List Ob}
def okV : Value → Bool
  | .bool b => b
  | _ => false
theorem obS_bd {n : Nat} {L : List Ob} (h : Good n L) (hn : n ≤ 1048576) (j : Nat) : 0 ≤ obS L j ∧ 0 ≤ obZ L j ∧ obS L j + obZ L j ≤ 1048576 := by
  by_cases hj : j < L.length
  · rw [(obS_in hj).1, (obS_in hj).2]
    have := h.sz _ (List.getElem_mem hj); omega
  · rw [(obS_out hj).1, (obS_out hj).2]; omega
/-- The tail of Live: the loop over the objects, from number nextO on. -/
theorem overs_bd {n : Nat} {L : List Ob} (h : Good n L) (hn : n ≤ 1048576) (j : Nat) (f t : Int) : 0 ≤ overs (L.take j) f t ∧ overs (L.take j) f t ≤ 1048576 := by
  have hg : Good n (L.take j) := ⟨h.pw.sublist (List.take_sublist ..), fun o ho => h.sz o (List.mem_of_mem_take ho)⟩
  have h1 := liveN_eq hg f t
  have h2 : liveN (L.take j) n f t ≤ n := cnt_le _ _
  omega
set_option maxRecDepth 100000 in
set_option maxHeartbeats 3200000 in
theorem ext_live (hE : Ext w m p1 b1 p2 b2 n L) (hT : TabAt w) (f t : Int) (hf : f ≤ 9223372036854775807) (ht : -9223372036854775808 ≤ t) :
    Calls Tryd.prog 45 #[.pointer (some ⟨m, 0, none⟩), .int .i64 f, .int .i64 t] w fun e w' => e = .returned (.int .i64 (overs L f t)) ∧ w = w' := by
  have hb := hE.nb
  have hg := hE.good
  have HE := hid hE
  have HT := hid hT
  rw [← overs_clip hg f t]
  obtain ⟨lo, hlo⟩ : ∃ lo, lo = max f 0 := ⟨_, rfl⟩
  obtain ⟨hi, hhi⟩ : ∃ hi, hi = min t (n : Int) := ⟨_, rfl⟩
  have hlo0 : 0 ≤ lo ∧ lo ≤ 9223372036854775807 := by omega
  have hhib : hi ≤ 1048576 ∧ -9223372036854775808 ≤ hi := by omega
  have HLO := hid hlo
  have HHI := hid hhi
  have hmax : ∀ w', (Builtin.max_ #[3, 3] 3 #[.int .i64 f, .int .i64 0]).run Tryd.prog w' = .ok (.int .i64 lo) w' := fun w' => by rw [run_maxB2, hlo]
  have hmin : ∀ w', (Builtin.min_ #[3, 3] 3 #[.int .i64 t, .int .i64 n]).run Tryd.prog w' = .ok (.int .i64 hi) w' := fun w' => by rw [run_minB2, hhi]
  rw [← hlo, ← hhi]
  have hmin2 := fun x y => run_minB2 Tryd.prog #[3, 3] 3 .i64 x y
  obtain ⟨jf, hjf⟩ : ∃ j, j = findO L lo := ⟨_, rfl⟩
  obtain ⟨jn, hjn⟩ : ∃ j, j = nextO L lo := ⟨_, rfl⟩
  have hjnl : jn ≤ L.length := by rw [hjn]; exact nextO_le _ _
  have hhead := overs_head hg (f := lo) (t := hi)
  rw [← hjf, ← hjn] at hhead
  have hss : ((L[jf]?.getD (0, 0)).1 : Int) = obS L jf := rfl
  have hzz : ((L[jf]?.getD (0, 0)).2 : Int) = obZ L jf := rfl
  rw [hss, hzz] at hhead
  have hbf := obS_bd hg hb.2 jf
  obtain ⟨s, hs⟩ : ∃ s, s = obS L jf := ⟨_, rfl⟩
  obtain ⟨z, hz⟩ : ∃ z, z = obZ L jf := ⟨_, rfl⟩
  obtain ⟨bf, hbff⟩ : ∃ b, b = decide (jf < L.length) := ⟨_, rfl⟩
  rw [← hs, ← hz] at hhead hbf
  have HF : Hid (tellO L (findO L lo) = .tuple #[.int .i64 s, .int .i64 z, .bool bf]) := ⟨by rw [hs, hz, hbff, hjf]; rfl⟩
  obtain ⟨s1, hs1⟩ : ∃ s, s = obS L jn := ⟨_, rfl⟩
  obtain ⟨z1, hz1⟩ : ∃ z, z = obZ L jn := ⟨_, rfl⟩
  obtain ⟨bn, hbn⟩ : ∃ b, b = decide (jn < L.length) := ⟨_, rfl⟩
  have HN : Hid (tellO L (nextO L lo) = .tuple #[.int .i64 s1, .int .i64 z1, .bool bn]) := ⟨by rw [hs1, hz1, hbn, hjn]; rfl⟩
  have HN1 := hid (And.intro hs1 (And.intro hz1 hbn))
  obtain ⟨v0, hv0⟩ : ∃ v, v = overs (L.take jn) lo hi := ⟨_, rfl⟩
  rw [← hv0] at hhead
  have HV0 := hid hv0
  have HJN := hid hjn
  have hpart : (bf = true ∧ s < lo ∧ lo < hi ∧ v0 = min (s + z) hi - lo) ∨ (bf = false ∧ v0 = 0) ∨ (bf = true ∧ lo ≤ s ∧ v0 = 0) ∨ (bf = true ∧ s < lo ∧ hi ≤ lo ∧ v0 = 0) := by
    by_cases h1 : jf < L.length
    · have e1 : bf = true := by rw [hbff, decide_eq_true h1]
      by_cases h2 : s < lo
      · by_cases h3 : lo < hi
        · left; rw [if_pos ⟨h1, h2, h3⟩] at hhead; exact ⟨e1, h2, h3, hhead⟩
        · right; right; right; rw [if_neg (fun h => h3 h.2.2)] at hhead; exact ⟨e1, h2, by omega, hhead⟩
      · right; right; left; rw [if_neg (fun h => h2 h.2.1)] at hhead; exact ⟨e1, by omega, hhead⟩
    · right; left; rw [if_neg (fun h => h1 h.1)] at hhead; exact ⟨by rw [hbff, decide_eq_false h1], hhead⟩
  have HG := hid hg
  clear hE hT hlo hhi hjf hjn hhead hss hzz hs hz hbff hs1 hz1 hbn hv0 hg
  rcases hpart with ⟨rfl, h2, h3, rfl⟩ | ⟨rfl, rfl⟩ | ⟨rfl, h2, rfl⟩ | ⟨rfl, h2, h3, rfl⟩
  all_goals
    have hmm : min (s + z) hi ≤ 1048576 := by omega
    go_enter Tryd.func45, Tryd.ntmps45
    go_wp2_with (first
      | (go_at_call 90; refine (ext_none HE.out).mono ?_; rintro e w' ⟨rfl, rfl⟩)
      | (go_at_call 65; refine (ext_words HE.out).mono ?_; rintro e w' ⟨rfl, rfl⟩)
      | (go_at_call 58; refine (ext_find HE.out HT.out _).mono ?_; rintro e w' ⟨rfl, rfl⟩; rw [HF.out])
      | (go_at_call 61; refine (ext_next HE.out HT.out _).mono ?_; rintro e w' ⟨rfl, rfl⟩; rw [HN.out]))
    clear hmax hmin
  all_goals
    go_loop [7, 11, 12, 13] (fun s7 s11 s12 s13 => ∃ j, jn ≤ j ∧ j ≤ L.length ∧ s7 = .int .i64 (overs (L.take j) lo hi) ∧ s11 = .int .i64 (obS L j) ∧ s12 = .int .i64 (obZ L j) ∧ s13 = .bool (decide (j < L.length))) (fun _ s11 _ s13 => if okV s13 then 1048577 - (intOf s11).toNat else 0)
    case atStart => exact ⟨jn, Nat.le_refl _, hjnl, by rw [← HV0.out], by rw [HN1.out.1], by rw [HN1.out.2.1], by rw [HN1.out.2.2]⟩
    case round =>
      obtain ⟨j, hj1, hj2, rfl, rfl, rfl, rfl⟩ := hrel
      have hbo := overs_bd HG.out hb.2 j lo hi
      have hbj := obS_bd HG.out hb.2 j
      by_cases hj : j < L.length
      · rw [decide_eq_true hj]
        obtain ⟨o1, o2⟩ := obS_in hj
        have hsz := HG.out.sz _ (List.getElem_mem hj)
        obtain ⟨sj, hsj⟩ : ∃ s, s = obS L j := ⟨_, rfl⟩
        obtain ⟨zj, hzj⟩ : ∃ z, z = obZ L j := ⟨_, rfl⟩
        obtain ⟨vj, hvj⟩ : ∃ v, v = overs (L.take j) lo hi := ⟨_, rfl⟩
        have hge : lo ≤ sj := by
          rw [hsj, o1]
          have hjn2 : nextO L lo < L.length := by have := HJN.out; omega
          have hy := nextO_yes hjn2
          rcases Nat.lt_or_ge (nextO L lo) j with h | h
          · have := HG.out.at hjn2 hj h; omega
          · have e : L[nextO L lo]'hjn2 = L[j] := by congr 1; have := HJN.out; omega
            rw [e] at hy; exact hy
        have hz1 : 1 ≤ zj := by rw [hzj, o2]; omega
        have htk := overs_take hj lo hi
        have hov : over L[j] lo hi = max 0 (min (sj + zj) hi - sj) := by
          unfold over
          rw [hsj, hzj, o1, o2] at *
          omega
        rw [hov, ← hvj] at htk
        have hbo2 := overs_bd HG.out hb.2 (j + 1) lo hi
        have hnx : nextO L (sj + zj) = j + 1 := by rw [hsj, hzj, o1, o2]; exact next_after_ob HG.out hj
        obtain ⟨s2, hs2⟩ : ∃ s, s = obS L (j + 1) := ⟨_, rfl⟩
        obtain ⟨z2, hz2⟩ : ∃ z, z = obZ L (j + 1) := ⟨_, rfl⟩
        obtain ⟨b2', hb2⟩ : ∃ b, b = decide (j + 1 < L.length) := ⟨_, rfl⟩
        have HX : Hid (tellO L (nextO L (sj + zj)) = .tuple #[.int .i64 s2, .int .i64 z2, .bool b2']) := ⟨by rw [hnx, hs2, hz2, hb2]; rfl⟩
        have HX2 := hid (And.intro hs2 (And.intro hz2 hb2))
        have hlt2 : b2' = true → sj + zj ≤ s2 := fun h => by
          rw [hb2] at h
          have h := of_decide_eq_true h
          have := HG.out.at hj h (Nat.lt_succ_self j)
          rw [hsj, hzj, hs2, o1, o2, (obS_in h).1]; omega
        have HLT := hid hlt2
        rw [← hsj, ← hzj] at hbj ⊢
        rw [← hvj] at hbo ⊢
        have HVJ := hid hvj
        have HSJ := hid hsj
        by_cases hhi : sj < hi
        · have hmj : min (sj + zj) hi ≤ 1048576 ∧ sj ≤ min (sj + zj) hi := by omega
          have htk' : overs (L.take (j + 1)) lo hi = vj + (min (sj + zj) hi - sj) := by rw [htk]; omega
          have hsum : 0 ≤ vj + (min (sj + zj) hi - sj) ∧ vj + (min (sj + zj) hi - sj) ≤ 1048576 := by rw [← htk']; exact hbo2
          have HTK := hid htk'
          clear hsj hzj hvj hov htk htk' hbo2 hnx hs2 hz2 hb2 hlt2 o1 o2 hsz
          go_wp2_with (go_at_call 61; refine (ext_next HE.out HT.out _).mono ?_; rintro e w' ⟨rfl, rfl⟩; rw [HX.out])
          go_round
          case rel => exact ⟨j + 1, by omega, by omega, by rw [HTK.out], by rw [HX2.out.1], by rw [HX2.out.2.1], by rw [HX2.out.2.2]⟩
          case measure =>
            have e0 : okV (Value.bool true) = true := rfl
            rw [if_pos e0]
            by_cases h : b2' = true
            · have := HLT.out h
              rw [if_pos (show okV (Value.bool b2') = true from h)]
              simp only [intOf]; omega
            · rw [if_neg (show ¬ okV (Value.bool b2') = true from h)]
              simp only [intOf]; omega
        · have htl := overs_tail HG.out (j := j) (f := lo) (t := hi) (fun hl => by
            have := HSJ.out; rw [(obS_in hl).1] at this; omega)
          have hE : Hid (overs L lo hi = vj) := ⟨by rw [overs_split L j, htl, ← HVJ.out]; omega⟩
          clear hsj hzj hvj hov htk hbo2 hnx hs2 hz2 hb2 hlt2 o1 o2 hsz htl
          go_wp2
          go_ret
          exact ⟨ret_int hE.out.symm, rfl⟩
      · rw [decide_eq_false hj]
        have htl := overs_tail HG.out (j := j) (f := lo) (t := hi) (fun hl => absurd hl hj)
        have hE : Hid (overs L lo hi = overs (L.take j) lo hi) := ⟨by rw [overs_split L j, htl]; omega⟩
        obtain ⟨vj, hvj⟩ : ∃ v, v = overs (L.take j) lo hi := ⟨_, rfl⟩
        rw [← hvj] at hbo ⊢ hE
        clear htl hvj
        go_wp2
        go_ret
        exact ⟨ret_int hE.out.symm, rfl⟩
end
end Go.Proofs.YtlbbkpjfoabobaaDoor
