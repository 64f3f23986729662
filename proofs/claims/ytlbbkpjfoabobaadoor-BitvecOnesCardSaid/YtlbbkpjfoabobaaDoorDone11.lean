/- Layer 11's 'done': an act is done to the vector and to the reference's row alike. -/
import Derived.Test.YtlbbkpjfoabobaaDoorRef11
import Derived.Test.YtlbbkpjfoabobaaDoorLive11
import Derived.Test.YtlbbkpjfoabobaaDoorAdds
import Derived.Deep.RegionHeld3
namespace Go.Proofs.YtlbbkpjfoabobaaDoor
open Go.RowKit Word

theorem lay_one {l : List Bool} {k : Nat} (hk : k < l.length) (x : Bool) : layL l k ((k : Int) + 1) x = l.set k x :=
  ext_at (by rw [layL_length, List.length_set]) (fun i hi => by
    rw [layL_length] at hi
    rw [layL_at _ _ _ _ _ hi]
    unfold at_
    rw [getD_set l k i x hk]
    by_cases h : i = k
    · subst h; rw [if_pos (by omega), if_pos rfl]
    · rw [if_neg (by omega), if_neg h])
theorem lay_none {l : List Bool} {a b : Int} (x : Bool) (h : ∀ i : Nat, i < l.length → ¬ (a ≤ i ∧ (i : Int) < b)) : layL l a b x = l :=
  ext_at (layL_length ..) (fun i hi => by rw [layL_length] at hi; rw [layL_at _ _ _ _ _ hi, if_neg (h i hi)])
theorem lay_at_one (l : List Bool) (i : Int) (x : Bool) (h1 : -9223372036854775808 ≤ i) (h2 : i ≤ 9223372036854775807) (hn : l.length ≤ 1048576) :
    layL l i (wrap64 (i + 1)) x = if i < 0 ∨ (l.length : Int) ≤ i then l else l.set i.toNat x := by
  by_cases h : i < 0 ∨ (l.length : Int) ≤ i
  · rw [if_pos h]
    refine lay_none x (fun j hj => ?_)
    by_cases hm : i = 9223372036854775807
    · subst hm; omega
    · rw [IntWalk.wrap64_in _ (by omega)]; omega
  · rw [if_neg h, IntWalk.wrap64_in _ (by omega)]
    have := lay_one (l := l) (k := i.toNat) (by omega) x
    rwa [show ((i.toNat : Nat) : Int) = i by omega] at this
/-- Behind Set, Clear: the code, and the run of one bit laid. -/
def OneEnd (w : World) (p b : Nat) (l : List Bool) (i : Int) (x : Bool) (e : Ending) (w' : World) : Prop :=
  e = .returned (.int .i64 (codeOf l i)) ∧ Touch (fun i => i = b) w w' ∧ Vec w' p b (layL l i (wrap64 (i + 1)) x)
theorem set_lay {w : World} {p b : Nat} {l : List Bool} (hV : Vec w p b l) (i : Int) (h1 : -9223372036854775808 ≤ i) (h2 : i ≤ 9223372036854775807) :
    Calls Tryd.prog 52 #[.pointer (some ⟨p, 0, none⟩), .int .i64 i] w (OneEnd w p b l i true) := by
  have e := lay_at_one l i true h1 h2 hV.n2
  unfold OneEnd codeOf
  rw [e]
  by_cases h : i < 0 ∨ (l.length : Int) ≤ i
  · rw [if_pos h, if_pos h]
    exact (set_out hV i h).mono fun _ _ ⟨he, hw⟩ => ⟨he, hw ▸ Touch.refl _ _, hw ▸ hV⟩
  · rw [if_neg h, if_neg h]
    have := set_in hV i.toNat (by omega)
    rw [show ((i.toNat : Nat) : Int) = i by omega] at this
    exact this
theorem clear_lay {w : World} {p b : Nat} {l : List Bool} (hV : Vec w p b l) (i : Int) (h1 : -9223372036854775808 ≤ i) (h2 : i ≤ 9223372036854775807) :
    Calls Tryd.prog 18 #[.pointer (some ⟨p, 0, none⟩), .int .i64 i] w (OneEnd w p b l i false) := by
  have e := lay_at_one l i false h1 h2 hV.n2
  unfold OneEnd codeOf
  rw [e]
  by_cases h : i < 0 ∨ (l.length : Int) ≤ i
  · rw [if_pos h, if_pos h]
    exact (clear_out hV i h).mono fun _ _ ⟨he, hw⟩ => ⟨he, hw ▸ Touch.refl _ _, hw ▸ hV⟩
  · rw [if_neg h, if_neg h]
    have := clear_in hV i.toNat (by omega)
    rw [show ((i.toNat : Nat) : Int) = i by omega] at this
    exact this
def codeI (n i : Int) : Int := if i < 0 ∨ n ≤ i then 11 else 0
theorem codeOf_eq (l : List Bool) (i : Int) : codeOf l i = codeI l.length i := rfl
set_option maxHeartbeats 400000 in
theorem code_any (n i : Int) (w : World) : Calls Tryd.prog 82 #[.int .i64 n, .int .i64 i] w fun e w' => e = .returned (.int .i64 (codeI n i)) ∧ w = w' := by
  by_cases h0 : i < 0
  · go_enter Tryd.func82, Tryd.ntmps82
    go_wp2
    go_ret
    exact ⟨ret_int (by unfold codeI; rw [if_pos (by omega)]), rfl⟩
  · by_cases h1 : n ≤ i
    · go_enter Tryd.func82, Tryd.ntmps82
      go_wp2
      go_ret
      exact ⟨ret_int (by unfold codeI; rw [if_pos (by omega)]), rfl⟩
    · go_enter Tryd.func82, Tryd.ntmps82
      go_wp2
      go_ret
      exact ⟨ret_int (by unfold codeI; rw [if_neg (by omega)]), rfl⟩

/-- What an act makes of a row. -/
def actL (l : List Bool) (x : ActD) : List Bool :=
  if x.kind % 4 = 0 then layL l x.a (wrap64 (x.a + 1)) true else if x.kind % 4 = 1 then layL l x.a (wrap64 (x.a + 1)) false
  else if x.kind % 4 = 2 then layL l x.a x.b true else layL l x.a x.b false
theorem actL_length (l : List Bool) (x : ActD) : (actL l x).length = l.length := by unfold actL; split <;> (try split) <;> (try split) <;> exact layL_length ..
/-- Behind an act: true, and both have the new bits. -/
def DoneEnd (w : World) (p b g : Nat) (l : List Bool) (e : Ending) (w' : World) : Prop :=
  e = .returned (.bool true) ∧ Touch (fun i => i = b ∨ i = g) w w' ∧ Vec w' p b l ∧ Bools w' g l

set_option maxRecDepth 100000 in
set_option maxHeartbeats 1600000 in
theorem done_any {w : World} {p b g c : Nat} {l : List Bool} (hV : Vec w p b l) (hB : Bools w g l) (hpg : g ≠ p) (hbg : g ≠ b) (x : ActD) (hx : x.ok) :
    Calls Tryd.prog 22 #[.pointer (some ⟨p, 0, none⟩), .slice (some ⟨g, 0, none⟩) l.length c, .agg #[.int .u8 x.kind, .int .i64 x.a, .int .i64 x.b]] w (DoneEnd w p b g (actL l x)) := by
  obtain ⟨kd, a, bb⟩ := x
  obtain ⟨hk, ha1, ha2, hb1, hb2⟩ := hx
  simp only at *
  obtain ⟨w0, hw0⟩ : ∃ w0, w0 = w.alloc (.cells #[.int .u8 kd, .int .i64 a, .int .i64 bb] 31) := ⟨_, rfl⟩
  have hg0 : Gr w w0 := by rw [hw0]; exact (Gr.refl w).alloc _
  have x0 : w0.cell? ⟨w.heap.size, 0, none⟩ = some (.int .u8 kd) := by rw [hw0]; exact World.cell?_alloc_new ..
  have x1 : w0.cell? ⟨w.heap.size, 1, none⟩ = some (.int .i64 a) := by rw [hw0]; exact World.cell?_alloc_new ..
  have x2 : w0.cell? ⟨w.heap.size, 2, none⟩ = some (.int .i64 bb) := by rw [hw0]; exact World.cell?_alloc_new ..
  have hsz : w0.heap.size = w.heap.size + 1 := by rw [hw0]; simp
  have HW := hid hw0
  have HV := hid (hV.gr hg0)
  have HB := hid (hB.gr hg0)
  have HT := hid (hg0.touch (fun i => i = b ∨ i = g))
  have HS := hid (And.intro hV.hb (And.intro hB.lt (And.intro hpg (And.intro hbg (And.intro hsz hV.ne)))))
  have HA := hid (And.intro ha1 (And.intro ha2 (And.intro hb1 hb2)))
  have HN := hid hV.n2
  clear hw0 hV hB hpg hbg hsz ha1 ha2 hb1 hb2 hg0
  have h4 : kd % 4 = 0 ∨ kd % 4 = 1 ∨ kd % 4 = 2 ∨ kd % 4 = 3 := by omega
  rcases h4 with h4 | h4 | h4 | h4
  · have hmod : ((kd : Int) % 4) = 0 := by omega
    have he : actL l ⟨kd, a, bb⟩ = layL l a (wrap64 (a + 1)) true := by unfold actL; simp [h4]
    rw [he]
    clear h4 he
    go_enter Tryd.func22, Tryd.ntmps22
    go_upto_region 1 with (fail)
    rw [← HW.out]
    go_wp2_with (go_at_call 81; refine (ref_lay HB.out _ _ _).mono ?_; rintro e w2 ⟨rfl, ht, hb⟩; replace HV := hid (HV.out.touch ht (fun e => HS.out.2.2.1 e.symm) (fun e => HS.out.2.2.2.1 e.symm)); replace HT := hid (HT.out.trans (ht.mono (fun k _ h => .inr h))); replace HB := hid hb; have y1 := (ht.cell (b := w.heap.size) (by have := HS.out; omega) (by have := HS.out; omega) 1).trans x1; have hz := Nat.le_trans (Nat.le_of_lt (show w.heap.size < w0.heap.size by have := HS.out; omega)) ht.size; have HZ := hid (Nat.lt_of_lt_of_le (show w.heap.size < w0.heap.size by have := HS.out; omega) ht.size); clear ht hb hz)
    go_region_with (first
      | (go_at_call 52; refine (set_lay (HV.out.gr ((Gr.refl _).drew)) _ HA.out.1 HA.out.2.1).mono ?_; rintro e w3 ⟨rfl, ht3, hv3⟩; have z1 := (ht3.cell (b := w.heap.size) HZ.out (by have := HS.out; omega) 1).trans y1; rw [codeOf_eq])
      | (go_at_call 82; refine (code_any _ _ _).mono ?_; rintro e w4 ⟨rfl, rfl⟩))
    all_goals
      go_wp2
      go_ret
      refine ⟨rfl, (HT.out.drew).trans (ht3.mono (fun k _ h => .inl h)), hv3, HB.out.touch ((Gr.refl _).drew.touch (fun i => i = b) |>.trans ht3) HS.out.2.2.2.1⟩
  · have hmod : ((kd : Int) % 4) = 1 := by omega
    have he : actL l ⟨kd, a, bb⟩ = layL l a (wrap64 (a + 1)) false := by unfold actL; simp [h4]
    rw [he]
    clear h4 he
    go_enter Tryd.func22, Tryd.ntmps22
    go_upto_region 1 with (fail)
    rw [← HW.out]
    go_wp2_with (go_at_call 81; refine (ref_lay HB.out _ _ _).mono ?_; rintro e w2 ⟨rfl, ht, hb⟩; replace HV := hid (HV.out.touch ht (fun e => HS.out.2.2.1 e.symm) (fun e => HS.out.2.2.2.1 e.symm)); replace HT := hid (HT.out.trans (ht.mono (fun k _ h => .inr h))); replace HB := hid hb; have y1 := (ht.cell (b := w.heap.size) (by have := HS.out; omega) (by have := HS.out; omega) 1).trans x1; have hz := Nat.le_trans (Nat.le_of_lt (show w.heap.size < w0.heap.size by have := HS.out; omega)) ht.size; have HZ := hid (Nat.lt_of_lt_of_le (show w.heap.size < w0.heap.size by have := HS.out; omega) ht.size); clear ht hb hz)
    go_region_with (first
      | (go_at_call 18; refine (clear_lay (HV.out.gr ((Gr.refl _).drew)) _ HA.out.1 HA.out.2.1).mono ?_; rintro e w3 ⟨rfl, ht3, hv3⟩; have z1 := (ht3.cell (b := w.heap.size) HZ.out (by have := HS.out; omega) 1).trans y1; rw [codeOf_eq])
      | (go_at_call 82; refine (code_any _ _ _).mono ?_; rintro e w4 ⟨rfl, rfl⟩))
    all_goals
      go_wp2
      go_ret
      refine ⟨rfl, (HT.out.drew).trans (ht3.mono (fun k _ h => .inl h)), hv3, HB.out.touch ((Gr.refl _).drew.touch (fun i => i = b) |>.trans ht3) HS.out.2.2.2.1⟩
  · have hmod : ((kd : Int) % 4) = 2 := by omega
    have he : actL l ⟨kd, a, bb⟩ = layL l a bb true := by unfold actL; simp [h4]
    rw [he]
    clear h4 he
    have HV := hid (HV.out.gr ((Gr.refl _).drew))
    have HB := hid (HB.out.gr ((Gr.refl _).drew))
    have HT := hid (HT.out.drew)
    have HZ := hid (show w.heap.size < w0.drew.heap.size from (by have := HS.out; show w.heap.size < w0.heap.size; omega))
    go_enter Tryd.func22, Tryd.ntmps22
    go_upto_region 1 with (fail)
    rw [← HW.out]
    go_wp2
    go_region_held3 (fun w' => w'.cell? ⟨w.heap.size, 1, none⟩ = some (.int .i64 a) ∧ w'.cell? ⟨w.heap.size, 2, none⟩ = some (.int .i64 bb)) (exact ⟨x1, x2⟩) (first
      | (go_at_call 17; refine (fill_vec HV.out _ _ HA.out.2.1).mono ?_; rintro e w3 ⟨rfl, ht, hv⟩; replace x1 := (ht.cell (b := w.heap.size) HZ.out (by have := HS.out; omega) 1).trans x1; replace x2 := (ht.cell (b := w.heap.size) HZ.out (by have := HS.out; omega) 2).trans x2; replace HZ := hid (Nat.lt_of_lt_of_le HZ.out ht.size); replace HB := hid (HB.out.touch ht HS.out.2.2.2.1); replace HT := hid (HT.out.trans (ht.mono (fun k _ h => .inl h))); replace HV := hid hv; clear ht hv)
      | (go_at_call 81; refine (ref_lay HB.out _ _ _).mono ?_; rintro e w4 ⟨rfl, ht, hb⟩; replace x1 := (ht.cell (b := w.heap.size) HZ.out (by have := HS.out; omega) 1).trans x1; replace x2 := (ht.cell (b := w.heap.size) HZ.out (by have := HS.out; omega) 2).trans x2; replace HZ := hid (Nat.lt_of_lt_of_le HZ.out ht.size); replace HV := hid (HV.out.touch ht (fun e => HS.out.2.2.1 e.symm) (fun e => HS.out.2.2.2.1 e.symm)); replace HT := hid (HT.out.trans (ht.mono (fun k _ h => .inr h))); replace HB := hid hb; clear ht hb))
    all_goals
      go_wp2
      go_ret
      exact ⟨rfl, HT.out, HV.out, HB.out⟩
  · have hmod : ((kd : Int) % 4) = 3 := by omega
    have he : actL l ⟨kd, a, bb⟩ = layL l a bb false := by unfold actL; simp [h4]
    rw [he]
    clear h4 he
    have HV := hid (HV.out.gr ((Gr.refl _).drew))
    have HB := hid (HB.out.gr ((Gr.refl _).drew))
    have HT := hid (HT.out.drew)
    have HZ := hid (show w.heap.size < w0.drew.heap.size from (by have := HS.out; show w.heap.size < w0.heap.size; omega))
    go_enter Tryd.func22, Tryd.ntmps22
    go_upto_region 1 with (fail)
    rw [← HW.out]
    go_wp2
    go_region_held3 (fun w' => w'.cell? ⟨w.heap.size, 1, none⟩ = some (.int .i64 a) ∧ w'.cell? ⟨w.heap.size, 2, none⟩ = some (.int .i64 bb)) (exact ⟨x1, x2⟩) (first
      | (go_at_call 53; refine (wipe_vec HV.out _ _ HA.out.2.1).mono ?_; rintro e w3 ⟨rfl, ht, hv⟩; replace x1 := (ht.cell (b := w.heap.size) HZ.out (by have := HS.out; omega) 1).trans x1; replace x2 := (ht.cell (b := w.heap.size) HZ.out (by have := HS.out; omega) 2).trans x2; replace HZ := hid (Nat.lt_of_lt_of_le HZ.out ht.size); replace HB := hid (HB.out.touch ht HS.out.2.2.2.1); replace HT := hid (HT.out.trans (ht.mono (fun k _ h => .inl h))); replace HV := hid hv; clear ht hv)
      | (go_at_call 81; refine (ref_lay HB.out _ _ _).mono ?_; rintro e w4 ⟨rfl, ht, hb⟩; replace x1 := (ht.cell (b := w.heap.size) HZ.out (by have := HS.out; omega) 1).trans x1; replace x2 := (ht.cell (b := w.heap.size) HZ.out (by have := HS.out; omega) 2).trans x2; replace HZ := hid (Nat.lt_of_lt_of_le HZ.out ht.size); replace HV := hid (HV.out.touch ht (fun e => HS.out.2.2.1 e.symm) (fun e => HS.out.2.2.2.1 e.symm)); replace HT := hid (HT.out.trans (ht.mono (fun k _ h => .inr h))); replace HB := hid hb; clear ht hb))
    all_goals
      go_wp2
      go_ret
      exact ⟨rfl, HT.out, HV.out, HB.out⟩
end Go.Proofs.YtlbbkpjfoabobaaDoor
