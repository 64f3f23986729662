/- Package vmem: New, Map, Unmap. -/
import Derived.Test.YtlkifhoedfjlaaaGreatDoorVmP
namespace Go.Proofs.YtlkifhoedfjlaaaGreatDoor
open Go.RowKit Word

def VmEnd (w : World) (S : Nat → Prop) (q : Nat) (v : Vm) (w' : World) : Prop := Touch S w w' ∧ VmAt w' (plus S w) q v
theorem plus_le {S : Nat → Prop} {w w' : World} (h : w.heap.size ≤ w'.heap.size) {k : Nat} (hk : plus S w' k) : plus S w k := hk.imp id (fun h' => Nat.le_trans h h')
section
variable {w : World} {S : Nat → Prop} {q : Nat} {v : Vm}
theorem pgE_of {pt : List Nat} {p : Int} : frE pt p = 11 ∨ frE pt p = 12 ∨ frE pt p = 0 := by unfold frE; split <;> (try split) <;> simp
theorem mpE_fr (v : Vm) (p : Int) : (frE v.pt p = 11 ∧ v.mpE p = 11) ∨ (frE v.pt p = 0 ∧ v.mpE p = 13) ∨ (frE v.pt p = 12 ∧ v.pl.used = v.pl.rm ∧ v.mpE p = 14) ∨ (frE v.pt p = 12 ∧ v.pl.used ≠ v.pl.rm ∧ v.mpE p = 0) := by
  have e1 : frE v.pt p = if pgE v.pt p = 0 then (if v.pt.getD p.toNat 0 = 0 then 12 else 0) else 11 := rfl
  have e2 : v.mpE p = if pgE v.pt p ≠ 0 then 11 else if v.pt.getD p.toNat 0 ≠ 0 then 13 else if v.pl.used = v.pl.rm then 14 else 0 := rfl
  rw [e1, e2]
  by_cases h : pgE v.pt p = 0
  · have h' : ¬ pgE v.pt p ≠ 0 := fun h' => h' h
    by_cases h2 : v.pt.getD p.toNat 0 = 0
    · have h2' : ¬ v.pt.getD p.toNat 0 ≠ 0 := fun h' => h' h2
      by_cases h3 : v.pl.used = v.pl.rm
      · exact .inr (.inr (.inl ⟨by rw [if_pos h, if_pos h2], h3, by rw [if_neg h', if_neg h2', if_pos h3]⟩))
      · exact .inr (.inr (.inr ⟨by rw [if_pos h, if_pos h2], h3, by rw [if_neg h', if_neg h2', if_neg h3]⟩))
    · exact .inr (.inl ⟨by rw [if_pos h, if_neg h2], by rw [if_neg h', if_pos h2]⟩)
  · exact .inl ⟨by rw [if_neg h], by rw [if_pos h]⟩
set_option maxRecDepth 100000 in
set_option maxHeartbeats 1600000 in
theorem vm_map (hV : VmAt w S q v) (p : Int) : Calls Tryz.prog 44 #[.pointer (some ⟨q, 0, none⟩), .int .i64 p] w fun e w' => e = .returned (.int .i64 (v.mpE p)) ∧ VmEnd w S q (v.mp p) w' := by
  have HV := hid hV
  obtain ⟨S1, S2, b1, b2, hr, hp, hg, s1, s2, s3, s4, s5⟩ := hV.row
  have hql := hr.lt
  have c0 := hr.cell (j := 0) rfl
  have c1 := hr.cell (j := 1) rfl
  have HP := hid hp
  have HG := hid hg
  have HN : Hid (v.mpE p ≠ 0 → ∀ w', Gr w w' → VmEnd w S q (v.mp p) w') := ⟨fun h w' g => by
    rw [mp_none h]
    exact ⟨g.touch S, (hV.gr g).mono (fun k hk => .inl hk)⟩⟩
  have HR := hid hr
  have HS := hid (And.intro s1 (And.intro s2 (And.intro s3 (And.intro s4 s5))))
  rcases mpE_fr v p with ⟨h1, h2⟩ | ⟨h1, h2⟩ | ⟨h1, h2, h3⟩ | ⟨h1, h2, h3⟩
  · have HE := hid (And.intro h1 h2)
    clear hV hr hp hg s1 s2 s3 s4 s5 h1 h2
    go_enter Tryz.func44, Tryz.ntmps44
    go_wp2_with (first
      | (go_at_call 40; refine (vm_none HV.out).mono ?_; rintro e w1 ⟨rfl, rfl⟩)
      | (go_at_call 74; refine (pg_frame HG.out p).mono ?_; rintro e w1 ⟨rfl, hg1⟩; rw [HE.out.1]; have HG1 := hid hg1; clear hg1))
    go_ret
    exact ⟨ret_int (by rw [HE.out.2]), HN.out (by rw [HE.out.2]; decide) _ HG1.out⟩
  · have HE := hid (And.intro h1 h2)
    clear hV hr hp hg s1 s2 s3 s4 s5 h1 h2
    go_enter Tryz.func44, Tryz.ntmps44
    go_wp2_with (first
      | (go_at_call 40; refine (vm_none HV.out).mono ?_; rintro e w1 ⟨rfl, rfl⟩)
      | (go_at_call 74; refine (pg_frame HG.out p).mono ?_; rintro e w1 ⟨rfl, hg1⟩; rw [HE.out.1]; have HG1 := hid hg1; clear hg1))
    go_ret
    exact ⟨ret_int (by rw [HE.out.2]), HN.out (by rw [HE.out.2]; decide) _ HG1.out⟩
  · have HE := hid (And.intro h1 (And.intro h2 h3))
    clear hV hr hp hg s1 s2 s3 s4 s5 h1 h2 h3
    go_enter Tryz.func44, Tryz.ntmps44
    go_wp2_with (first
      | (go_at_call 40; refine (vm_none HV.out).mono ?_; rintro e w1 ⟨rfl, rfl⟩)
      | (go_at_call 74; refine (pg_frame HG.out p).mono ?_; rintro e w1 ⟨rfl, hg1⟩; rw [HE.out.1]; have k0 := (hg1.cell hql 0).trans c0; have HG1 := hid hg1; clear hg1)
      | (go_at_call 75; refine (pool_take (HP.out.gr HG1.out)).mono ?_; rintro e w2 (⟨-, rfl, hg2⟩ | ⟨h, -⟩); rotate_left; (exact absurd HE.out.2.1 (by omega)); have HG2 := hid hg2; clear hg2))
    go_ret
    exact ⟨ret_int (by rw [HE.out.2.2]), HN.out (by rw [HE.out.2.2]; decide) _ (HG1.out.trans HG2.out)⟩
  · obtain ⟨j, rfl, hj, h0, -⟩ := mpE_zero h3
    have HE := hid (And.intro h1 (And.intro h2 h3))
    have hnx : v.pl.next < 4096 := by
      have hle := used_le hV.ok.pl
      have hok := take_ok hV.ok.pl (by omega)
      have hn := next_lt hV.ok.pl
      have hlen : v.pl.fresh.tk.length = v.pl.take.tk.length := by unfold Pl.take; exact List.length_set.symm
      have := hok.le
      have := hok.rm
      omega
    have HM := hid (show v.mp j = { v with pl := v.pl.take, pt := v.pt.set j (v.pl.next + 1) } by unfold Vm.mp; rw [if_pos h3, Int.toNat_natCast])
    have HPT := hid (fun (w1 w2 : World) (g1 : Gr w w1) (t2 : Touch S1 w1 w2) => pg_put (((hg.gr g1).cut).touch t2 (fun k hk _ hk2 => s3 k hk2 hk.1)) hj h0 hnx)
    have hok' := hid (hV.ok.mp j)
    obtain ⟨nx, hnxe⟩ : ∃ nx, nx = v.pl.next := ⟨_, rfl⟩
    have HNX := hid hnxe
    rw [← hnxe] at hnx
    have c1' := hid c1
    clear hV hr hp hg s1 s2 s3 h1 h2 h3 hnxe h0
    go_enter Tryz.func44, Tryz.ntmps44
    go_wp2_with (first
      | (go_at_call 40; refine (vm_none HV.out).mono ?_; rintro e w1 ⟨rfl, rfl⟩)
      | (go_at_call 74; refine (pg_frame HG.out j).mono ?_; rintro e w1 ⟨rfl, hg1⟩; rw [HE.out.1]; have k0 := (hg1.cell hql 0).trans c0; have HG1 := hid hg1; clear hg1)
      | (go_at_call 75; refine (pool_take (HP.out.gr HG1.out)).mono ?_; rintro e w2 (⟨h, -⟩ | ⟨-, rfl, ht2, hp2⟩); (exact absurd h HE.out.2.1); rw [← HNX.out]; have k1 := (ht2.cell (Nat.lt_of_lt_of_le hql HG1.out.size) s4 1).trans ((HG1.out.cell hql 1).trans c1'.out); have HT2 := hid ht2; have HP2 := hid hp2; clear ht2 hp2)
      | (go_at_call 76; have hpt := HPT.out _ _ HG1.out HT2.out; rw [← HNX.out] at hpt; refine hpt.mono ?_; rintro e w3 ⟨rfl, hs3⟩; have HS3 := hid hs3; clear hs3 hpt))
    go_ret
    refine ⟨ret_int (by rw [HE.out.2.2]), ?_⟩
    obtain ⟨s1, s2, s3, s4, s5⟩ := HS.out
    obtain ⟨t3, p3⟩ := HS3.out
    have T12 : Touch S w w2 := (HG1.out.touch S).trans (HT2.out.mono (fun k _ hk => s1 k hk))
    have z1 := HG1.out.size
    have z2 := HT2.out.size
    refine ⟨T12.trans (t3.mono (fun k _ hk => s2 k hk.1)), hok'.out, .inl HV.out.sq, cutS (plus S1 w1) w2, plus (cutS S2 w1) w2, b1, b2, ?_, ?_, ?_, fun k hk => ?_, fun k hk => ?_, fun k hk hk2 => ?_, fun hk => ?_, fun hk => ?_⟩
    · rw [HM.out]
      exact ((HR.out.gr HG1.out).touch HT2.out s4).touch t3 (fun h => s5 h.1)
    · rw [HM.out]
      exact HP2.out.cut.touch t3 (fun k hk _ hk2 => by
        rcases hk.1 with h | h
        · exact s3 k h hk2.1
        · have := hk2.2; omega)
    · rw [HM.out]
      show PgAt w3 _ b2 (v.pt.set j (v.pl.next + 1))
      rw [← HNX.out]; exact p3
    · rcases hk.1 with h | h
      · exact .inl (s1 k h)
      · exact .inr (by omega)
    · rcases hk with h | h
      · exact .inl (s2 k h.1)
      · exact .inr (by omega)
    · rcases hk2 with h | h
      · rcases hk.1 with h' | h'
        · exact s3 k h' h.1
        · have := h.2; omega
      · have := hk.2; omega
    · rcases hk.1 with h | h
      · exact s4 h
      · omega
    · rcases hk with h | h
      · exact s5 h.1
      · omega
set_option maxRecDepth 100000 in
set_option maxHeartbeats 1600000 in
theorem vm_unmap (hV : VmAt w S q v) (p : Int) : Calls Tryz.prog 42 #[.pointer (some ⟨q, 0, none⟩), .int .i64 p] w fun e w' => e = .returned (.int .i64 (frE v.pt p)) ∧ VmEnd w S q (v.um p) w' := by
  have HV := hid hV
  obtain ⟨S1, S2, b1, b2, hr, hp, hg, s1, s2, s3, s4, s5⟩ := hV.row
  have hql := hr.lt
  have c0 := hr.cell (j := 0) rfl
  have c1 := hr.cell (j := 1) rfl
  have HP := hid hp
  have HG := hid hg
  have HR := hid hr
  have HS := hid (And.intro s1 (And.intro s2 (And.intro s3 (And.intro s4 s5))))
  by_cases h0 : frE v.pt p = 0
  · have HE := hid h0
    obtain ⟨j, rfl, hj, hne⟩ := frE_zero h0
    have hf := hV.ok.fr j hj hne
    obtain ⟨f, hff⟩ : ∃ f, f = v.pt.getD j 0 - 1 := ⟨_, rfl⟩
    have HF := hid hff
    have HFV := hid (show frV v.pt j = (f : Int) by unfold frV; rw [if_pos h0, Int.toNat_natCast, hff]; omega)
    rw [← hff] at hf
    have HM := hid (show v.um j = { v with pl := v.pl.give f, pt := v.pt.set j 0 } by unfold Vm.um; rw [if_pos h0, Int.toNat_natCast, hff])
    have HGV := hid (fun (w1 : World) (t1 : Touch S2 w w1) => pool_give (p := v.pl) (f := f) ((hp.cut).touch t1 (fun k hk _ hk2 => s3 k hk.1 hk2)) hf)
    have hok' := hid (hV.ok.um j)
    clear hV hr hp hg s1 s2 s3 s4 h0 hne hf hff
    have c0' := hid c0
    go_enter Tryz.func42, Tryz.ntmps42
    go_wp2_with (first
      | (go_at_call 40; refine (vm_none HV.out).mono ?_; rintro e w1 ⟨rfl, rfl⟩)
      | (go_at_call 72; refine (pg_drop HG.out j).mono ?_; rintro e w1 ⟨rfl, (⟨h, -⟩ | ⟨-, ht1, hp1⟩)⟩; (exact absurd HE.out h); rw [HE.out, HFV.out]; have k0 := (ht1.cell hql s5 0).trans c0'.out; have HT1 := hid ht1; have HP1 := hid hp1; clear ht1 hp1)
      | (go_at_call 73; refine (HGV.out _ HT1.out).mono ?_; rintro e w2 ⟨rfl, ht2, hp2⟩; have HT2 := hid ht2; have HP2 := hid hp2; clear ht2 hp2))
    go_ret
    refine ⟨ret_int (by rw [HE.out]), ?_⟩
    obtain ⟨s1, s2, s3, s4, s5⟩ := HS.out
    have t1 := HT1.out
    have t2 := HT2.out
    have z1 := HT1.out.size
    have z2 := HT2.out.size
    refine ⟨(t1.mono (fun k _ hk => s2 k hk)).trans (t2.mono (fun k _ hk => s1 k hk.1)), hok'.out, .inl HV.out.sq, plus (cutS S1 w) w1, cutS (plus S2 w) w1, b1, b2, ?_, ?_, ?_, fun k hk => ?_, fun k hk => ?_, fun k hk hk2 => ?_, fun hk => ?_, fun hk => ?_⟩
    · rw [HM.out]
      exact (HR.out.touch t1 s5).touch t2 (fun h => s4 h.1)
    · rw [HM.out]
      exact HP2.out
    · rw [HM.out]
      have hp1 := HP1.out
      rw [Int.toNat_natCast] at hp1
      exact hp1.cut.touch t2 (fun k hk _ hk2 => by
        rcases hk.1 with h | h
        · exact s3 k hk2.1 h
        · have := hk2.2; omega)
    · rcases hk with h | h
      · exact .inl (s1 k h.1)
      · exact .inr (by omega)
    · rcases hk.1 with h | h
      · exact .inl (s2 k h)
      · exact .inr (by omega)
    · rcases hk with h | h
      · rcases hk2.1 with h' | h'
        · exact s3 k h.1 h'
        · have := h.2; omega
      · have := hk2.2; omega
    · rcases hk with h | h
      · exact s4 h.1
      · omega
    · rcases hk.1 with h | h
      · exact s5 h
      · omega
  · obtain ⟨y, hy⟩ : ∃ y, y = frE v.pt p := ⟨_, rfl⟩
    have HX := hid hy
    have d0 : (y == 0) = false := by rw [hy]; simpa using h0
    have HM := hid (um_none h0)
    have h0' := hid h0
    clear hV hr hp hg h0 hy s1 s2 s3 s4 s5
    go_enter Tryz.func42, Tryz.ntmps42
    go_wp2_with (first
      | (go_at_call 40; refine (vm_none HV.out).mono ?_; rintro e w1 ⟨rfl, rfl⟩)
      | (go_at_call 72; refine (pg_drop HG.out p).mono ?_; rintro e w1 ⟨rfl, (⟨-, hg1⟩ | ⟨h, -⟩)⟩; rotate_left; (exact absurd h h0'.out); rw [← HX.out]; have HG1 := hid hg1; clear hg1))
    go_ret
    refine ⟨ret_int (by rw [HX.out]), HG1.out.touch S, ?_⟩
    rw [HM.out]
    exact (HV.out.gr HG1.out).mono (fun k hk => .inl hk)
def Vm.new (n pg rm : Nat) : Vm := ⟨n, Pl.none pg rm, List.replicate (n / pg) 0⟩
def vmOk (n pg rm : Int) : Bool := roomOk rm && pageOk pg && decide (1 ≤ n ∧ n ≤ 524288 ∧ n % pg = 0)
theorem VmOk.new {n pg rm : Nat} (h1 : roomOk rm = true) (h2 : pageOk pg = true) (h3 : 1 ≤ n) (h4 : n ≤ 524288) (h5 : n % pg = 0) : VmOk (Vm.new n pg rm) := by
  have hd : n / pg * pg = n := by have := Nat.div_add_mod n pg; rw [h5, Nat.mul_comm] at this; omega
  have h7 : 1 ≤ n / pg := by
    rcases Nat.eq_zero_or_pos (n / pg) with h | h
    · rw [h] at hd; omega
    · exact h
  refine ⟨pl_none h1 h2, PtOk.new h7 (by have := Nat.div_le_self n pg; omega), h4, ?_, fun p hp hne => ?_, fun p p' hp hp' hne => ?_, ?_⟩
  · show n = (List.replicate (n / pg) 0).length * pg
    rw [List.length_replicate, hd]
  · exact absurd (rep_getD _ _) hne
  · exact absurd (rep_getD _ _) hne
  · show Pl.used (Pl.none pg rm) = nz (List.replicate (n / pg) 0)
    rw [nz_rep]; rfl
set_option maxRecDepth 100000 in
set_option maxHeartbeats 1600000 in
theorem vm_new {n pg rm : Nat} (h1 : roomOk rm = true) (h2 : pageOk pg = true) (h3 : 1 ≤ n) (h4 : n ≤ 524288) (h5 : n % pg = 0) (h6 : 1 ≤ pg) (h7 : pg ≤ 256) (w : World) : Calls Tryz.prog 15 #[.int .i64 n, .int .i64 pg, .int .i64 rm] w fun e w' =>
    ∃ q, e = .returned (.tuple #[.pointer (some ⟨q, 0, none⟩), .int .i64 0]) ∧ Gr w w' ∧ VmAt w' (fun k => w.heap.size ≤ k) q (Vm.new n pg rm) := by
  have HOK := hid (VmOk.new h1 h2 h3 h4 h5)
  have HPN := hid (fun w => pool_new rm pg (by omega) w)
  have HB := hid (show (roomOk rm && pageOk pg) = true by rw [h1, h2]; rfl)
  have hd : n / pg * pg = n := by have := Nat.div_add_mod n pg; rw [h5, Nat.mul_comm] at this; omega
  have h8 : 1 ≤ n / pg := by
    rcases Nat.eq_zero_or_pos (n / pg) with h | h
    · rw [h] at hd; omega
    · exact h
  have h9 : n / pg ≤ 524288 := by have := Nat.div_le_self n pg; omega
  obtain ⟨m, hm⟩ : ∃ m, m = n / pg := ⟨_, rfl⟩
  have q1 : ((n : Int).tdiv (pg : Int)) = (m : Int) := by rw [hm]; rfl
  have q2 : ((n : Int) / (pg : Int)) = (m : Int) := by rw [hm]; rfl
  have q3 : ((n : Int).tmod (pg : Int)) = 0 := by rw [show ((n : Int).tmod (pg : Int)) = ((n % pg : Nat) : Int) from rfl, h5]; rfl
  have q4 : ((n : Int) % (pg : Int)) = 0 := by rw [show ((n : Int) % (pg : Int)) = ((n % pg : Nat) : Int) from rfl, h5]; rfl
  rw [← hm] at h8 h9
  have HM := hid hm
  have HPG := hid (fun w => pg_new (w := w) h8 h9)
  have hBp : (pg : Int) ≠ 0 := by omega
  clear h1 h2 h5 hd hm
  go_enter Tryz.func15, Tryz.ntmps15
  go_wp2_with (first
    | (go_at_call 38; refine (HPN.out _).mono ?_; rintro e w1 (⟨h, -⟩ | ⟨-, rfl, hg1, hp1⟩); (exact absurd (HB.out.symm.trans h) (by decide)); have HG1 := hid hg1; have HP1 := hid hp1; clear hg1 hp1)
    | (go_at_call 39; refine (HPG.out _).mono ?_; rintro e w2 ⟨q2, rfl, hg2, hp2⟩; have hr2 := (Rec.new w1 99 [.pointer (some ⟨w.heap.size, 0, none⟩), .pointer none, .int .i64 n]).gr hg2; have kf := hr2.free 1; have k1 := hr2.cell (j := 1) rfl; have HR2 := hid hr2; have HG2 := hid hg2; have HP2 := hid hp2; clear hg2 hp2 hr2))
  go_ret2
  have z1 := HG1.out.size
  have z2 := HG2.out.size
  have hq : w.heap.size < w1.heap.size := HP1.out.row.elim fun _ h => by
    obtain ⟨_, _, _, _, hr, -⟩ := h
    exact hr.lt
  have hG := Touch.setCell (Touch.refl (fun k => k = w1.heap.size) w2) (a := ⟨w1.heap.size, 1, none⟩) (fun _ => rfl) (.pointer (some ⟨q2, 0, none⟩))
  simp only [World.size_alloc] at z2
  refine ⟨_, ret2 rfl rfl, ?_, HOK.out, z1, cutS (fun b => w.heap.size ≤ b) w1, fun k => w1.heap.size + 1 ≤ k, w.heap.size, q2, Rec.set HR2.out 1 _, ?_, ?_, fun k hk => hk.1, fun k hk => by omega, fun k hk hk2 => by have := hk.2; omega, fun h => by have := h.2; omega, fun h => by omega⟩
  · exact Touch.gr ((((HG1.out.alloc _).trans HG2.out).touch (fun k => w.heap.size ≤ k)).trans (hG.mono (fun k _ hk => by omega)) |>.mono (fun k hk h => by omega))
  · have := (HP1.out.cut.gr (((Gr.refl w1).alloc _).trans HG2.out)).touch hG (fun k hk _ he => by have := hk.2; omega)
    rw [Int.toNat_natCast, Int.toNat_natCast] at this
    exact this
  · have := HP2.out.touch hG (fun k hk _ he => by simp only [World.size_alloc] at hk; omega)
    rw [HM.out] at this
    exact this.mono (fun k hk => by simpa using hk)
end
end Go.Proofs.YtlkifhoedfjlaaaGreatDoor
