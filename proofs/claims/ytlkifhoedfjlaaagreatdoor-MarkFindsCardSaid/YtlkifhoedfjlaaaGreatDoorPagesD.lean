/- Package pages: Put, Frame, Drop, New. -/
import Derived.Test.YtlkifhoedfjlaaaGreatDoorPagesC
namespace Go.Proofs.YtlkifhoedfjlaaaGreatDoor
open Go.RowKit Word

def frE (pt : List Nat) (p : Int) : Int := if pgE pt p = 0 then (if pt.getD p.toNat 0 = 0 then 12 else 0) else 11
def frV (pt : List Nat) (p : Int) : Int := if frE pt p = 0 then (pt.getD p.toNat 0 : Nat) - 1 else 0
section
variable {w : World} {S : Nat → Prop} {q : Nat} {pt : List Nat}
theorem pg_in1 (hM : PgAt w S q pt) {b : Nat} {p : Int} (hc : w.cell? ⟨b, 0, none⟩ = some (.int .i64 p)) : Calls Tryz.prog 97 #[.pointer (some ⟨q, 0, none⟩), .slice (some ⟨b, 0, none⟩) 1 1] w fun e w' => e = .returned (.int .i64 (pgE pt p)) ∧ w = w' := by
  have := pg_in hM (b := b) (n := 1) (l := [p]) rfl (by omega) (fun i hi => by
    obtain rfl : i = 0 := by omega
    exact hc)
  refine this.mono ?_
  rintro e w' ⟨rfl, rfl⟩
  refine ⟨ret_int ?_, rfl⟩
  unfold pgsE
  rcases pgE_cut pt p with h | h | h
  · simp [h.2]
  · simp [h.2.2]
  · simp [h.2.2]
theorem pgE_zero {pt : List Nat} {p : Int} (h : pgE pt p = 0) : ∃ j : Nat, p = j ∧ j < pt.length := by
  unfold pgE at h
  split at h
  · exact ⟨p.toNat, by omega, by omega⟩
  · cases h
theorem pgE_two (pt : List Nat) (p : Int) : pgE pt p = 0 ∨ pgE pt p = 11 := by unfold pgE; split <;> simp
set_option maxRecDepth 100000 in
set_option maxHeartbeats 800000 in
theorem pg_frame (hM : PgAt w S q pt) (p : Int) : Calls Tryz.prog 74 #[.pointer (some ⟨q, 0, none⟩), .int .i64 p] w fun e w' => e = .returned (.tuple #[.int .i64 (frV pt p), .int .i64 (frE pt p)]) ∧ Gr w w' := by
  have HM := hid hM
  rcases pgE_two pt p with h0 | h0
  · obtain ⟨j, rfl, hj⟩ := pgE_zero h0
    have hl : pt.getD j 0 < 4294967296 := by
      rw [List.getD_eq_getElem?_getD, List.getElem?_eq_getElem hj]
      exact hM.ok.lt _ (List.getElem_mem hj)
    have HV : Hid (frE pt j = if pt.getD j 0 = 0 then 12 else 0) := ⟨by unfold frE; rw [if_pos h0, Int.toNat_natCast]⟩
    have HF : Hid (frV pt j = if frE pt j = 0 then ((pt.getD j 0 : Nat) : Int) - 1 else 0) := ⟨by unfold frV; rw [Int.toNat_natCast]⟩
    have HG := hid (fun (w' : World) (h : Gr w w') => pg_get (hM.gr h) hj)
    have H0 := hid h0
    clear hM hj h0
    generalize pt.getD j 0 = x at HV HF HG hl
    by_cases hx : x = 0
    · subst hx
      have E1 := HV.out
      rw [if_pos rfl] at E1
      have E2 := HF.out
      rw [E1, if_neg (by decide)] at E2
      have HE := hid (And.intro E1 E2)
      clear E1 E2 HV HF
      go_enter Tryz.func74, Tryz.ntmps74
      go_wp2_with (first
        | (go_at_call 97; refine (pg_in1 (HM.out.gr ((Gr.refl w).alloc _)) (p := j) (World.cell?_alloc_at _ _ _ 0 rfl)).mono ?_; rintro e w1 ⟨rfl, rfl⟩; rw [H0.out])
        | (go_at_call 98; refine (HG.out _ ((Gr.refl w).alloc _)).mono ?_; rintro e w1 ⟨rfl, rfl⟩))
      go_ret2
      exact ⟨ret2 (vint (by rw [HE.out.2])) (vint (by rw [HE.out.1])), (Gr.refl w).alloc _⟩
    · have E1 := HV.out
      rw [if_neg hx] at E1
      have E2 := HF.out
      rw [E1, if_pos rfl] at E2
      have HE := hid (And.intro E1 E2)
      have d0 : ((x : Int) == 0) = false := by simpa using hx
      clear E1 E2 HV HF
      go_enter Tryz.func74, Tryz.ntmps74
      go_wp2_with (first
        | (go_at_call 97; refine (pg_in1 (HM.out.gr ((Gr.refl w).alloc _)) (p := j) (World.cell?_alloc_at _ _ _ 0 rfl)).mono ?_; rintro e w1 ⟨rfl, rfl⟩; rw [H0.out])
        | (go_at_call 98; refine (HG.out _ ((Gr.refl w).alloc _)).mono ?_; rintro e w1 ⟨rfl, rfl⟩))
      go_ret2
      exact ⟨ret2 (vint (by rw [HE.out.2])) (vint (by rw [HE.out.1])), (Gr.refl w).alloc _⟩
  · have E1 : frE pt p = 11 := by unfold frE; rw [if_neg (by rw [h0]; decide)]
    have E2 : frV pt p = 0 := by unfold frV; rw [if_neg (by rw [E1]; decide)]
    have HE := hid (And.intro E1 E2)
    have H0 := hid h0
    clear E1 E2 h0 hM
    go_enter Tryz.func74, Tryz.ntmps74
    go_wp2_with (go_at_call 97; refine (pg_in1 (HM.out.gr ((Gr.refl w).alloc _)) (p := p) (World.cell?_alloc_at _ _ _ 0 rfl)).mono ?_; rintro e w1 ⟨rfl, rfl⟩; rw [H0.out])
    go_ret2
    exact ⟨ret2 (vint (by rw [HE.out.2])) (vint (by rw [HE.out.1])), (Gr.refl w).alloc _⟩
set_option maxRecDepth 100000 in
set_option maxHeartbeats 800000 in
theorem pg_put (hM : PgAt w S q pt) {p f : Nat} (hp : p < pt.length) (h0 : pt.getD p 0 = 0) (hf : f < 4096) : Calls Tryz.prog 76 #[.pointer (some ⟨q, 0, none⟩), .int .i64 p, .int .i64 f] w fun e w' => e = .returned (.int .i64 0) ∧ SetEnd w S q pt p (f + 1) w' := by
  have HM := hid hM
  have HI : Hid (pgE pt p = 0) := ⟨by unfold pgE; rw [if_pos ⟨by omega, by omega⟩]⟩
  have HG := hid (fun (w' : World) (h : Gr w w') => pg_get (hM.gr h) hp)
  have HS := hid (fun (w' : World) (h : Gr w w') => pg_set (hM.gr h) (x := f + 1) hp (by omega) (by rw [if_neg (by omega)]; exact h0))
  rw [h0] at HG
  have b1 : ((f : Int) + 1) % 4294967296 = (f : Int) + 1 := by omega
  have b2 : (f : Int) % 4294967296 = (f : Int) := by omega
  clear hM hp h0
  go_enter Tryz.func76, Tryz.ntmps76
  go_wp2_with (first
    | (go_at_call 97; refine (pg_in1 (HM.out.gr ((Gr.refl w).alloc _)) (p := p) (World.cell?_alloc_at _ _ _ 0 rfl)).mono ?_; rintro e w1 ⟨rfl, rfl⟩; rw [HI.out])
    | (go_at_call 98; refine (HG.out _ ((Gr.refl w).alloc _)).mono ?_; rintro e w1 ⟨rfl, rfl⟩)
    | (go_at_call 95; refine (HS.out _ ((Gr.refl w).alloc _)).mono ?_; rintro e w1 ⟨rfl, hs1⟩; have HE := hid hs1; clear hs1))
  go_ret
  obtain ⟨t1, t2⟩ := HE.out
  exact ⟨rfl, (((Gr.refl w).alloc _).touch S).trans t1, t2.mono (fun k hk => hk.imp id (fun h => Nat.le_trans ((Gr.refl w).alloc _).size h))⟩
/-- Drop's results. -/
def PgDropEnd (w : World) (S : Nat → Prop) (q : Nat) (pt : List Nat) (p : Int) (w' : World) : Prop := (frE pt p ≠ 0 ∧ Gr w w') ∨ (frE pt p = 0 ∧ SetEnd w S q pt p.toNat 0 w')
theorem frE_zero {pt : List Nat} {p : Int} (h : frE pt p = 0) : ∃ j : Nat, p = j ∧ j < pt.length ∧ pt.getD j 0 ≠ 0 := by
  unfold frE at h
  split at h
  · rename_i h0
    obtain ⟨j, rfl, hj⟩ := pgE_zero h0
    refine ⟨j, rfl, hj, fun e => ?_⟩
    rw [Int.toNat_natCast, if_pos e] at h
    cases h
  · cases h
theorem frE_range (pt : List Nat) (p : Int) : 0 ≤ frE pt p ∧ frE pt p ≤ 12 := by unfold frE; split <;> (try split) <;> omega
set_option maxRecDepth 100000 in
set_option maxHeartbeats 800000 in
theorem pg_drop (hM : PgAt w S q pt) (p : Int) : Calls Tryz.prog 72 #[.pointer (some ⟨q, 0, none⟩), .int .i64 p] w fun e w' => e = .returned (.tuple #[.int .i64 (frV pt p), .int .i64 (frE pt p)]) ∧ PgDropEnd w S q pt p w' := by
  have HM := hid hM
  by_cases h0 : frE pt p = 0
  · have HZ := hid h0
    obtain ⟨j, rfl, hj, hx⟩ := frE_zero h0
    have HS := hid (fun (w' : World) (h : Gr w w') => pg_set (hM.gr h) (x := 0) hj (by omega) (by rw [if_pos rfl]; exact hx))
    clear h0 hM hj hx
    go_enter Tryz.func72, Tryz.ntmps72
    go_wp2_with (first
      | (go_at_call 74; refine (pg_frame HM.out j).mono ?_; rintro e w1 ⟨rfl, hg1⟩; rw [HZ.out]; have HG1 := hid hg1; clear hg1)
      | (go_at_call 95; refine (HS.out _ HG1.out).mono ?_; rintro e w2 ⟨rfl, hs1⟩; have HE := hid hs1; clear hs1))
    go_ret2
    obtain ⟨t1, t2⟩ := HE.out
    refine ⟨ret2 rfl (vint (by rw [HZ.out])), .inr ⟨HZ.out, (HG1.out.touch S).trans t1, ?_⟩⟩
    rw [Int.toNat_natCast]
    exact t2.mono (fun k hk => hk.imp id (fun h => Nat.le_trans HG1.out.size h))
  · have HZ := hid h0
    have hr := frE_range pt p
    have HV : Hid (frE pt p = frE pt p) := ⟨rfl⟩
    obtain ⟨x, hx⟩ : ∃ x, x = frE pt p := ⟨_, rfl⟩
    have HX := hid hx
    rw [← hx] at h0 hr
    have d0 : (x == 0) = false := by simpa using h0
    clear hM hx
    go_enter Tryz.func72, Tryz.ntmps72
    go_wp2_with (go_at_call 74; refine (pg_frame HM.out p).mono ?_; rintro e w1 ⟨rfl, hg1⟩; rw [← HX.out]; have HG1 := hid hg1; clear hg1)
    go_ret2
    exact ⟨ret2 rfl (vint (by rw [HX.out])), .inl ⟨HZ.out, HG1.out⟩⟩
theorem PtOk.new {n : Nat} (h1 : 1 ≤ n) (h2 : n ≤ 524288) : PtOk (List.replicate n 0) :=
  ⟨by simpa using h1, by simpa using h2, fun x hx => by rw [List.eq_of_mem_replicate hx]; decide⟩
theorem rep_getD (n i : Nat) : (List.replicate n 0).getD i 0 = 0 := by
  rw [List.getD_eq_getElem?_getD, List.getElem?_replicate]
  split <;> rfl
theorem infoTabP : (Tryz.prog.info? 175).map (fun i => (i.zero, i.size, i.bytes)) = some (some (.pointer none), 1, 8) := by kernel_rfl
theorem made_none (n : Nat) : (madeCells #[.pointer none] n).toList = ptrs (List.replicate n none) := by
  unfold madeCells ptrs
  apply List.ext_getElem
  · simp
  · intro i h1 h2
    simp [Nat.mod_one]
theorem own_zero {w : World} {base E size : Nat} {v : Value} {n : Nat} {xs : List Value} (h : w.ownsRow base E size v n xs) : w.ownsRow 0 E size v n xs := by
  obtain ⟨h1, h | ⟨g, c, cur, e1, e2, h⟩⟩ := h
  · exact ⟨h1, .inl h⟩
  · exact ⟨h1, .inr ⟨g, c, cur, e1, Nat.zero_le _, h⟩⟩
set_option maxRecDepth 100000 in
set_option maxHeartbeats 800000 in
theorem pg_new {n : Nat} (h1 : 1 ≤ n) (h2 : n ≤ 524288) : Calls Tryz.prog 39 #[.int .i64 n] w fun e w' => ∃ q, e = .returned (.tuple #[.pointer (some ⟨q, 0, none⟩), .int .i64 0]) ∧ Gr w w' ∧ PgAt w' (fun k => w.heap.size ≤ k) q (List.replicate n 0) := by
  obtain ⟨i0, hi, hz0, hz1, hz2⟩ := info_parts infoTabP
  have e1 : ((n : Int) + 256 - 1) / 256 = (ntab n : Int) := by unfold ntab; omega
  have b0 : ntab n ≤ 2048 := ntab_le h2
  have HB : Hid (i0.bytes * ntab n ≤ 281474976710656) := ⟨by rw [hz2]; omega⟩
  have HM : Hid (ntab n ≤ maxLen) := ⟨by unfold maxLen; omega⟩
  go_enter Tryz.func39, Tryz.ntmps39
  go_wp2_with (at_make; refine wpList_make_full _ rfl _ _ 135 rfl w.heap.size 175 i0 (.pointer none) 1 Tryz.underlying135 hi hz0 hz1 .i64 .i64 _ _ (ntab n) rfl rfl ?h1 ?h2 HB.out HM.out (Nat.le_refl _) ?h3)
  case h1 => omega
  case h2 => omega
  case h3 =>
    intro w1 hown hgrow
    have hg1 : Gr w w1 := (grownBy_touch hgrow (fun _ => False) (fun k e _ => by cases e)).gr
    have HO := hid (own_zero hown)
    have HG := hid hg1
    clear hown hgrow hg1
    go_wp2
    go_ret2
    have hl : (List.replicate n 0).length = n := List.length_replicate
    have hown := HO.out
    rw [made_none] at hown
    refine ⟨_, ret2 rfl rfl, HG.out.alloc _, PtOk.new h1 h2, HG.out.size, w.heap.size, ntab n, List.replicate (ntab n) none, ?_, by rw [hl]; exact Nat.le_refl _, HM.out, Nat.le_refl _, ?_, fun k hk => ?_, fun k j b hk => ?_⟩
    · rw [hl, nz_rep]; exact Rec.new w1 _ _
    · rw [hl]; exact own_gr hown ((Gr.refl _).alloc _)
    · rw [List.getD_eq_getElem?_getD, List.getElem?_replicate]
      rw [hl] at hk
      rw [if_pos hk]
      exact fun i _ => rep_getD n _
    · rw [List.getD_eq_getElem?_getD, List.getElem?_replicate] at hk
      split at hk <;> cases hk
end
end Go.Proofs.YtlkifhoedfjlaaaGreatDoor
