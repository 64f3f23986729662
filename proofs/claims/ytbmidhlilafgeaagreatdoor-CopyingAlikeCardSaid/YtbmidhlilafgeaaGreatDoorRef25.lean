/- The reference of layer 25: in, Order. -/
import Derived.Test.YtbmidhlilafgeaaGreatDoorRef20
import Derived.Test.YtbmidhlilafgeaaGreatDoorGhost
namespace Go.Proofs.YtbmidhlilafgeaaGreatDoor
open Go.RowKit Word

set_option maxRecDepth 100000 in
set_option maxHeartbeats 800000 in
theorem ref25_in {w : World} {A : Option Addr} {n cp : Nat} {l : List Int} (hA : IntsAt w A l) (hn : n = l.length) (hlen : n ≤ maxLen) (a : Int) : Calls Tryz.prog 81 #[.slice A n cp, .int .i64 a] w fun e w' => e = .returned (.bool (decide (a ∈ l))) ∧ w = w' := by
  have HA := hid hA
  have HN := hid hn
  unfold maxLen at hlen
  clear hA hn
  go_enter Tryz.func81, Tryz.ntmps81
  go_wp2
  go_loop [5] (fun i => ∃ j : Nat, j ≤ n ∧ i = .int .i64 j ∧ Hid (a ∉ l.take j)) (fun i => n - (intOf i).toNat)
  case atStart => exact ⟨0, Nat.zero_le _, rfl, ⟨by simp⟩⟩
  case round =>
    obtain ⟨j, hj, rfl, HJ⟩ := hrel
    by_cases hlast : j = n
    · subst hlast
      go_wp2
      go_ret
      exact ⟨congrArg (fun b => Ending.returned (.bool b)) (decide_eq_false (by have := HJ.out; rwa [HN.out, List.take_length] at this)).symm, rfl⟩
    · have hjl : j < l.length := by have := HN.out; omega
      have hjI : (j : Int) < (n : Int) := by omega
      obtain ⟨b, o, rfl, hb, e0⟩ := HA.out j hjl
      have HTK : Hid (l.take (j + 1) = l.take j ++ [l[j]] ∧ l[j] ∈ l) := ⟨List.take_succ_eq_append_getElem hjl, List.getElem_mem hjl⟩
      obtain ⟨y, hy⟩ : ∃ y, y = l[j] := ⟨_, rfl⟩
      rw [← hy] at e0 HTK
      have HJL := hid (And.intro hj hlast)
      clear hy hb hj hlast
      by_cases hya : y = a
      · have d0 : (y == a) = true := by simpa using hya
        have HYA := hid hya
        clear hya
        go_wp2
        go_ret
        exact ⟨congrArg (fun b => Ending.returned (.bool b)) (decide_eq_true (by rw [← HYA.out]; exact HTK.out.2)).symm, rfl⟩
      · have d0 : (y == a) = false := by simpa using hya
        have HYA := hid hya
        clear hya
        go_wp2
        go_round
        case rel =>
          refine ⟨j + 1, by have := HJL.out; omega, by go_num, ⟨fun h => ?_⟩⟩
          rw [HTK.out.1] at h
          rcases List.mem_append.1 h with h | h
          · exact HJ.out h
          · exact HYA.out (List.mem_singleton.1 h).symm
        case measure => have := HJL.out; simp [intOf]; omega
/-- A row of objects that are reached, each once. -/
structure RowO (v : Vm) (rs O : List Int) : Prop where
  nd : O.Nodup
  rc : ∀ a ∈ O, Rch v rs a
theorem RowO.add {v : Vm} {rs O : List Int} (h : RowO v rs O) {a : Int} (ha : a ≠ 0 → Rch v rs a) : RowO v rs (addC O a) :=
  ⟨addC_nodup h.nd a, fun b hb => by
    rcases mem_addC.1 hb with h' | ⟨rfl, h0⟩
    · exact h.rc b h'
    · exact ha h0⟩
theorem RowO.len {v : Vm} {rs O : List Int} {n : Nat} {L : List Ob} (h : RowO v rs O) (hM : Marks v rs n L) : O.length ≤ n := by
  have h1 := sum_le (v := v) (fun o ho => (hM.mkd.ats o ho).2.2) h.nd (fun a ha => hM.all a (h.rc a ha))
  have h2 := sizes_le hM.mkd.good
  have h3 : ∀ P : List Int, (∀ a ∈ P, Rch v rs a) → (P.length : Int) ≤ sumC v P := fun P => by
    induction P with
    | nil => intro _; exact Int.le_refl _
    | cons a r ih =>
      intro hR
      have := ih (fun b hb => hR b (List.mem_cons_of_mem _ hb))
      have := osz_pos (hM.sound.rd a (hR a (List.mem_cons_self ..)))
      simp only [List.length_cons, sumC]
      omega
  have := h3 O h.rc
  omega
/-- An object that is reached: its header and its pointers. -/
theorem rch_obj {v : Vm} {rs : List Int} {n : Nat} (hS : Sound v rs n) {a : Int} (ha : Rch v rs a) :
    ∃ b p f k : Nat, a = b ∧ v.rdE a = 0 ∧ v.rdH a = ⟨p, f, k⟩ ∧ p + f + k ≤ 255 ∧ (b : Int) + (1 + p + f + k) ≤ n ∧ 0 < b ∧ v.osz a = 1 + (p : Int) + f + k ∧
      ∀ m : Nat, m < p → v.ldE (a + 1 + m) = 0 ∧ v.ldV (a + 1 + m) ≤ 2147483647 ∧ (v.ldV (a + 1 + m) ≠ 0 → Rch v rs (v.ldV (a + 1 + m) : Nat)) := by
  have hrd := hS.rd a ha
  obtain ⟨h0, -, p, f, k, hh, hs⟩ := rdE_zero hrd
  obtain ⟨b, rfl⟩ : ∃ b : Nat, a = b := ⟨a.toNat, by omega⟩
  have ho : v.osz b = 1 + (p : Int) + f + k := by unfold Vm.osz; rw [hh]; exact if_pos (hdrE_of hs)
  have hin := hS.rm b ha
  refine ⟨b, p, f, k, rfl, hrd, hh, hs, by omega, by omega, ho, fun m hm => ?_⟩
  have hm' : (m : Int) < (v.rdH b).p := by rw [hh]; show (m : Int) < (p : Int); omega
  have hpt := hS.pt b ha m hm'
  have he := ptV_of hpt
  refine ⟨he.2.2.1, he.2.1, fun h0 => ?_⟩
  exact ha.step ⟨hrd, m, hm', hpt, by rw [he.1]; exact h0, by rw [he.1]⟩
section
variable {w : World} {A0 A : Option Addr} {cp cr M : Nat} {v : Vm} {rs : List Int} {L : List Ob}
set_option maxRecDepth 100000 in
set_option maxHeartbeats 6400000 in
theorem ref25_order (hf : FullN M v) (hW : Wrds w A0 cp M v) (hA : IntsAt w A rs) (hlen : rs.length ≤ 64) (hM : Marks v rs M L) (hM2 : M ≤ 1100) :
    Calls Tryz.prog 24 #[.slice A0 M cp, .slice A rs.length cr] w fun e w' => ∃ (A' : Option Addr) (c k : Nat), k = (ordC v rs k).length ∧ e = .returned (.slice A' (ordC v rs k).length c) ∧ Gr w w' ∧ IntsAt w' A' (ordC v rs k) := by
  have HW := hid hW
  have HA := hid hA
  have HF := hid hf
  have HM := hid hM
  obtain ⟨ii, hii, hi0, hi1, hi2⟩ := info_parts infoIntV
  obtain ⟨R, hR⟩ : ∃ R, R = rs.length := ⟨_, rfl⟩
  have HRL := hid hR
  rw [← hR] at hlen ⊢
  clear hW hA hf hR hM
  go_enter Tryz.func24, Tryz.ntmps24
  go_wp2_with (fail)
  go_loopw [5, 6] (fun s5 s6 wr => ∃ (j N : Nat) (T : List Int) (vL : Value), j ≤ R ∧ Hid (Todo w wr vL N T) ∧ Hid (T = addsC [] (rs.take j) ∧ RowO v rs T) ∧ Hid (Touch (fun i => w.heap.size ≤ i) w wr) ∧ s5 = vL ∧ s6 = .int .i64 j) (fun _ s6 _ => R - (intOf s6).toNat)
  case atStart => exact ⟨0, 0, [], _, Nat.zero_le _, ⟨⟨own_nil _ _ _ _, rfl⟩⟩, ⟨⟨rfl, List.nodup_nil, fun _ h => (by cases h)⟩⟩, ⟨Touch.refl _ _⟩, rfl, rfl⟩
  case round =>
    obtain ⟨j, N, T, vL, hj, HO, HP, HT, rfl, rfl⟩ := hrel
    obtain ⟨TA, tc, rfl, hc1, hc2⟩ := own_shape HO.out.own
    unfold maxLen at hc2
    have hNb : N ≤ 1100 := by have := HP.out.2.len HM.out; have := HO.out.len; omega
    by_cases hlast : j < R
    · have hjl : j < rs.length := by have := HRL.out; omega
      obtain ⟨b, o, rfl, hb, e0⟩ := HA.out j hjl
      have e0 := (HT.out.cell hb (by omega) _).trans e0
      have HTK : Hid (rs.take (j + 1) = rs.take j ++ [rs[j]] ∧ rs[j] ∈ rs) := ⟨List.take_succ_eq_append_getElem hjl, List.getElem_mem hjl⟩
      obtain ⟨y, hy⟩ : ∃ y, y = rs[j] := ⟨_, rfl⟩
      rw [← hy] at e0 HTK
      have HJ := hid hlast
      have hjI : (j : Int) < (R : Int) := by omega
      have HNX : Hid (addC T y = addsC [] (rs.take (j + 1)) ∧ RowO v rs (addC T y)) := ⟨⟨by rw [HTK.out.1, addsC_snoc, ← HP.out.1], HP.out.2.add (fun h0 => Rch.root HTK.out.2 h0)⟩⟩
      clear hb hy hlast hj
      by_cases hy0 : y = 0
      · subst hy0
        have hz : addC T 0 = T := if_pos (.inl rfl)
        rw [hz] at HNX
        clear hz
        go_wp2
        go_round
        case rel => exact ⟨j + 1, N, T, _, HJ.out, HO, HNX, HT, rfl, by go_num⟩
        case measure => have := HJ.out; simp [intOf]; omega
      · have d0 : (y != 0) = true := by simpa using hy0
        have HY := hid hy0
        have HI := hid (fun W (g : Gr wr W) => ref25_in (cp := tc) (HO.out.gr g).at HO.out.len (by unfold maxLen; omega) y)
        by_cases hm : y ∈ T
        · rw [decide_eq_true hm] at HI
          have hz : addC T y = T := if_pos (.inr hm)
          rw [hz] at HNX
          clear hz hm
          go_wp2_with (go_at_call 81; refine (HI.out _ (Gr.refl _)).mono ?_; rintro e w1 ⟨rfl, rfl⟩)
          go_round
          case rel => exact ⟨j + 1, N, T, _, HJ.out, HO, HNX, HT, rfl, by go_num⟩
          case measure => have := HJ.out; simp [intOf]; omega
        · rw [decide_eq_false hm] at HI
          have hz : addC T y = T ++ [y] := if_neg (fun h => h.elim hy0 hm)
          rw [hz] at HNX
          clear hz hm
          go_wp2_with (first
            | (go_at_call 81; refine (HI.out _ (Gr.refl _)).mono ?_; rintro e w1 ⟨rfl, rfl⟩)
            | (at_builtin; refine wpList_append_lies _ rfl _ _ 30 rfl w.heap.size 3 ii _ 1 8 Tryz.underlying30 hii hi0 hi1 hi2 rfl (by decide) (.slice TA N tc) N (zs T) rfl (HO.out.own.alloc _) ⟨wr.heap.size, 0, none⟩ 1 1 [.int .i64 y] rfl rfl (World.news_of_block (cs := #[.int .i64 y]) (t := 3) (fr := (0, 0)) (heap_alloc_new wr (.cells #[.int .i64 y] 3))) (by simp [Value.oneCell']) (by omega) (by unfold maxLen; omega) (by omega) (by have := HT.out.size; rw [World.size_alloc]; omega) (wr.heap.size + 1) (by simp) ?_; intro g3 c3 w3 hown3 hgrow3 hat3 hlt3; have t3 : Touch (fun k => (Value.slice TA N tc).ownBlock = some k) wr w3 := (((Gr.refl _).alloc _).touch _).trans (grown_touch hgrow3 _ (fun k e _ => e)); have HT3 := hid t3; have HO3 := hid hown3; clear hown3 hgrow3 hat3 hlt3 t3))
          go_round
          case rel =>
            refine ⟨j + 1, N + 1, T ++ [y], .slice (some ⟨g3, 0, none⟩) (N + 1) c3, HJ.out, ⟨⟨?_, by rw [List.length_append, HO.out.len]; rfl⟩⟩, HNX, ⟨HT.out.trans (HT3.out.mono (fun i _ h => (own_lt HO.out.own h).1))⟩, rfl, by go_num⟩
            unfold zs; rw [List.map_append]; exact HO3.out
          case measure => have := HJ.out; simp [intOf]; omega
    · obtain rfl : R = j := by omega
      have HS : Hid (T = ordC v rs 0 ∧ RowO v rs T) := ⟨⟨by have := HP.out.1; rwa [HRL.out, List.take_length] at this, HP.out.2⟩⟩
      clear hlast hj HP hc1 hc2 hNb
      go_wp2_with (fail)
      clear HRL
      go_loopw [5, 7] (fun s5 s7 wr => ∃ (i N : Nat) (T : List Int) (vL : Value), i ≤ N ∧ Hid (Todo w wr vL N T) ∧ Hid (T = ordC v rs i ∧ RowO v rs T) ∧ Hid (Touch (fun i => w.heap.size ≤ i) w wr) ∧ s5 = vL ∧ s7 = .int .i64 i) (fun _ s7 _ => M + 1 - (intOf s7).toNat)
      case atStart => exact ⟨0, N, T, _, Nat.zero_le _, HO, HS, HT, rfl, rfl⟩
      case round =>
        clear HS HO HT
        obtain ⟨i, N, T, vL, hiN, HO, HR, HT, rfl, rfl⟩ := hrel
        have hNT := HO.out.len
        have hNM : N ≤ M := by have := HR.out.2.len HM.out; omega
        obtain ⟨TA, tc, rfl, hc1, hc2⟩ := own_shape HO.out.own
        unfold maxLen at hc2
        have HWr : Hid (Wrds wr A0 cp M v) := ⟨own_touch HW.out HT.out (fun g hg h => by have := (own_lt HW.out hg).2; omega)⟩
        by_cases hi : i < N
        · have hiT : i < T.length := by omega
          obtain ⟨b, tc', ea, hbw, -, -, hbl⟩ := own_form HO.out.own (by omega)
          simp only [Value.slice.injEq] at ea
          obtain ⟨rfl, -, rfl⟩ := ea
          have k0 := own_cell HO.out.own (zs_at hiT)
          have HIT := hid hiT
          have hra := HR.out.2.rc _ (List.getElem_mem hiT)
          obtain ⟨a, p, f, k, hae, hE, hh, hs, hin, hap, hoz, hpts⟩ := rch_obj HM.out.sound hra
          rw [hae] at k0 hE hh hoz hpts hra
          have HAE : Hid (∃ h : i < T.length, T[i] = (a : Int)) := ⟨⟨hiT, hae⟩⟩
          have HII := hid hi
          have hiI : (i : Int) < (N : Int) := by omega
          have HNT := hid hNT
          have HBL := hid hbl
          have HRD := hid (ref15n_read HF.out HWr.out (a : Int))
          rw [hh, hE] at HRD
          have HOB := hid (And.intro hE (And.intro hh hra))
          have HPT := hid hpts
          have HIN : Hid (a + (1 + p + f + k) ≤ M) := ⟨by omega⟩
          have hRec := hid (fun W => Rec.new W 90 [.int .i64 p, .int .i64 f, .int .i64 k])
          have HGD : Hid (i < (ordC v rs i).length ∧ (ordC v rs i).getD i 0 = (a : Int)) := ⟨by
            rw [← HR.out.1]
            exact ⟨hiT, by rw [List.getD_eq_getElem?_getD, List.getElem?_eq_getElem hiT, hae]; rfl⟩⟩
          have HPL : Hid ((ptsC v (a : Int)).length = p) := ⟨by rw [ptsC_len, hh]; exact Int.toNat_natCast p⟩
          clear hi hNT hiT hae hbw hbl hE hh hra hoz hpts hin
          unfold hdrV at HRD
          go_upto_region 11 with (go_at_call 74; refine HRD.out.mono ?_; rintro e w1 ⟨rfl, hg1⟩; have HG1 := hid hg1; clear hg1)
          obtain ⟨w2, hw2⟩ : ∃ w2, w2 = w1.alloc (.cells #[.int .i64 p, .int .i64 f, .int .i64 k] 90) := ⟨_, rfl⟩
          have R2 := hRec.out w1
          obtain ⟨hq, hhq⟩ : ∃ hq, hq = w1.heap.size := ⟨_, rfl⟩
          rw [← hhq] at R2 ⊢
          have hg2 : Gr wr w2 := by rw [hw2]; exact HG1.out.alloc _
          simp only [List.toArray] at R2
          rw [← hw2] at R2 ⊢
          have HTD := hid (HO.out.gr hg2)
          have HT4 := hid (HT.out.trans (hg2.touch (fun i => w.heap.size ≤ i)))
          have HR4 := hid R2
          have HCL : Hid (T = addsC T ((ptsC v (a : Int)).take 0) ∧ RowO v rs T) := ⟨⟨rfl, HR.out.2⟩⟩
          clear hw2 hhq HG1 R2 hg2 hRec hc1 hc2
          go_wp2_with (fail)
          go_loopw [5, 10] (fun s5 s10 wx => ∃ (q N' : Nat) (U : List Int) (vL : Value), q ≤ p ∧ Hid (Todo w wx vL N' U) ∧ Hid (U = addsC T ((ptsC v (a : Int)).take q) ∧ RowO v rs U) ∧ Hid (Rec wx hq 90 [.int .i64 p, .int .i64 f, .int .i64 k]) ∧ Hid (Touch (fun i => w.heap.size ≤ i) w wx) ∧ s5 = vL ∧ s10 = .int .i64 q) (fun _ s10 _ => p - (intOf s10).toNat)
          case atStart => exact ⟨0, N, T, _, Nat.zero_le _, HTD, HCL, HR4, HT4, rfl, rfl⟩
          case round =>
            clear HTD HCL HR4 HT4
            obtain ⟨q, N', U, vL, hqp, HO', HP', HR', HT', rfl, rfl⟩ := hrel
            obtain ⟨W, hW⟩ := addsC_ext T ((ptsC v (a : Int)).take q)
            rw [← HP'.out.1] at hW
            have HU := hid hW
            have hiU : i < U.length := by rw [hW, List.length_append]; have := HIT.out; omega
            have hUa : U[i] = (a : Int) := by
              have e : U[i]? = some (a : Int) := by rw [hW, List.getElem?_append_left HIT.out, List.getElem?_eq_getElem HIT.out, HAE.out.2]
              exact Option.some.inj ((List.getElem?_eq_getElem hiU).symm.trans e)
            have hNU := HO'.out.len
            have hNM' : N' ≤ M := by have := HP'.out.2.len HM.out; omega
            have hiN : i < N' := by omega
            have hiN2 : (i : Int) < (N' : Int) := by omega
            obtain ⟨b', tc', ea, -, -, -, hbl'⟩ := own_form HO'.out.own (by omega)
            obtain ⟨TA', tcc, eb, hd1, hd2⟩ := own_shape HO'.out.own
            unfold maxLen at hd2
            subst ea
            simp only [Value.slice.injEq] at eb
            obtain ⟨rfl, -, rfl⟩ := eb
            have k0 := own_cell HO'.out.own (zs_at hiU)
            rw [hUa] at k0
            have y0 := HR'.out.cell (j := 0) rfl
            have HWx : Hid (Wrds wr A0 cp M v) := ⟨own_touch HW.out HT'.out (fun g hg h => by have := (own_lt HW.out hg).2; omega)⟩
            clear hW hUa hbl'
            by_cases hq2 : q < p
            · have HQ2 := hid hq2
              have hqI : (q : Int) < (p : Int) := by omega
              obtain ⟨t1, t2, t3⟩ := HPT.out q hq2
              rw [show (a : Int) + 1 + (q : Int) = ((a + 1 + q : Nat) : Int) by omega] at t1 t2 t3
              have hidx : a + 1 + q < M := by have := HIN.out; omega
              obtain ⟨gw, cw, ew, -, -, -, hgw⟩ := own_form HWx.out (by omega)
              simp only [Value.slice.injEq] at ew
              obtain ⟨rfl, -, rfl⟩ := ew
              have k5 := own_cell HWx.out (wrds_at v hidx)
              have HTK : Hid ((ptsC v (a : Int)).take (q + 1) = (ptsC v (a : Int)).take q ++ [((v.ldV ((a + 1 + q : Nat) : Int) : Nat) : Int)]) := ⟨by
                have hql : q < (ptsC v (a : Int)).length := by rw [HPL.out]; exact hq2
                rw [List.take_succ_eq_append_getElem hql, ptsC_at, show (a : Int) + 1 + (q : Int) = ((a + 1 + q : Nat) : Int) by omega]⟩
              obtain ⟨x, hx⟩ : ∃ x, x = v.ldV ((a + 1 + q : Nat) : Int) := ⟨_, rfl⟩
              rw [← hx] at t2 t3 k5 HTK
              have HNX : Hid (addC U (x : Int) = addsC T ((ptsC v (a : Int)).take (q + 1)) ∧ RowO v rs (addC U (x : Int))) := ⟨⟨by rw [HTK.out, addsC_snoc, ← HP'.out.1], HP'.out.2.add (fun h0 => t3 (by omega))⟩⟩
              have hM4 : M ≤ 1100 := hM2
              have haI : (a : Int) + 1 + (q : Int) < (M : Int) := by omega
              have ha0 : (0 : Int) ≤ (a : Int) + 1 + (q : Int) := by omega
              have haN : ((a : Int) + 1 + (q : Int)).toNat = a + 1 + q := by omega
              have hwx : IntKind.i64.wrap (x : Int) = (x : Int) := IntWalk.i64_in _ (by omega)
              have HHX := hid hx
              clear hq2 hqp t1 t3 hx hNU
              by_cases hx0 : x = 0
              · subst hx0
                have hz : addC U ((0 : Nat) : Int) = U := if_pos (.inl rfl)
                rw [hz] at HNX
                clear hz
                go_wp2
                go_round
                case rel => exact ⟨q + 1, N', U, _, HQ2.out, HO', HNX, HR', HT', rfl, by go_num⟩
                case measure => have := HQ2.out; simp [intOf]; omega
              · have d2 : ((x : Int) != 0) = true := by simp; exact hx0
                have HI := hid (fun W (g : Gr wr W) => ref25_in (cp := tc') (HO'.out.gr g).at HO'.out.len (by unfold maxLen; omega) (x : Int))
                by_cases hm : (x : Int) ∈ U
                · rw [decide_eq_true hm] at HI
                  have hz : addC U (x : Int) = U := if_pos (.inr hm)
                  rw [hz] at HNX
                  clear hz hm
                  go_wp2_with (go_at_call 81; refine (HI.out _ (Gr.refl _)).mono ?_; rintro e w2 ⟨rfl, rfl⟩)
                  go_round
                  case rel => exact ⟨q + 1, N', U, _, HQ2.out, HO', HNX, HR', HT', rfl, by go_num⟩
                  case measure => have := HQ2.out; simp [intOf]; omega
                · rw [decide_eq_false hm] at HI
                  have hz : addC U (x : Int) = U ++ [(x : Int)] := if_neg (fun h => h.elim (by omega) hm)
                  rw [hz] at HNX
                  clear hz hm
                  go_wp2_with (first
                    | (go_at_call 81; refine (HI.out _ (Gr.refl _)).mono ?_; rintro e w2 ⟨rfl, rfl⟩)
                    | (at_builtin; refine wpList_append_lies _ rfl _ _ 30 rfl w.heap.size 3 ii _ 1 8 Tryz.underlying30 hii hi0 hi1 hi2 rfl (by decide) (.slice (some ⟨b', 0, none⟩) N' tc') N' (zs U) rfl (HO'.out.own.alloc _) ⟨wr.heap.size, 0, none⟩ 1 1 [.int .i64 x] rfl rfl (World.news_of_block (cs := #[.int .i64 x]) (t := 3) (fr := (0, 0)) (heap_alloc_new wr (.cells #[.int .i64 x] 3))) (by simp [Value.oneCell']) (by omega) (by unfold maxLen; omega) (by omega) (by have := HT'.out.size; rw [World.size_alloc]; omega) (wr.heap.size + 1) (by simp) ?_; intro g3 c3 w3 hown3 hgrow3 hat3 hlt3; have t3 : Touch (fun k => (Value.slice (some ⟨b', 0, none⟩) N' tc').ownBlock = some k) wr w3 := (((Gr.refl _).alloc _).touch _).trans (grown_touch hgrow3 _ (fun k e _ => e)); have HT3 := hid t3; have HO3 := hid hown3; clear hown3 hgrow3 hat3 hlt3 t3))
                  go_round
                  case rel =>
                    refine ⟨q + 1, N' + 1, U ++ [(x : Int)], .slice (some ⟨g3, 0, none⟩) (N' + 1) c3, HQ2.out, ⟨⟨?_, by rw [List.length_append, HO'.out.len]; rfl⟩⟩, HNX, ⟨HR'.out.touch HT3.out (fun e => own_ne HO'.out.own HR'.out (by decide) e rfl rfl)⟩, ⟨HT'.out.trans (HT3.out.mono (fun i _ h => (own_lt HO'.out.own h).1))⟩, rfl, by go_num⟩
                    unfold zs; rw [List.map_append]; exact HO3.out
                  case measure => have := HQ2.out; simp [intOf]; omega
            · obtain rfl : p = q := by omega
              have HNX : Hid (U = ordC v rs (i + 1) ∧ RowO v rs U) := ⟨by
                refine ⟨?_, HP'.out.2⟩
                rw [ord_next HGD.out.1, HGD.out.2, ← HR.out.1]
                have := HP'.out.1
                rwa [show (ptsC v (a : Int)).take p = ptsC v (a : Int) by rw [← HPL.out, List.take_length]] at this⟩
              clear hq2 hqp
              go_wp2
              go_round
              case rel => exact ⟨i + 1, N', U, _, by omega, HO', HNX, HT', rfl, by go_num⟩
              case measure => have := HII.out; simp [intOf]; omega
        · obtain rfl : N = i := by omega
          have HNT := hid hNT
          clear hi hiN hNT
          go_wp2
          go_ret
          exact ⟨TA, tc, N, by rw [← HR.out.1]; exact HNT.out, by rw [← HR.out.1, ← HNT.out]; rfl, touch_old HT.out, by rw [← HR.out.1]; exact HO.out.at⟩
end
end Go.Proofs.YtbmidhlilafgeaaGreatDoor
