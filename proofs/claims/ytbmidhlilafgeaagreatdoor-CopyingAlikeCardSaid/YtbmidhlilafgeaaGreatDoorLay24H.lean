/- Layer 24's Lay: put, room. -/
import Derived.Test.YtbmidhlilafgeaaGreatDoorLay24Q
import Derived.Test.YtbmidhlilafgeaaGreatDoorKM8
namespace Go.Proofs.YtbmidhlilafgeaaGreatDoor
open Go.RowKit Word

/-- Where the first k objects lie. -/
def LaidC.starts (x : LaidC) (k : Nat) : List Int := (List.range k).map fun j => ((x.at j : Nat) : Int)
theorem LaidC.starts_len (x : LaidC) (k : Nat) : (x.starts k).length = k := by simp [LaidC.starts]
theorem LaidC.starts_at (x : LaidC) {k j : Nat} (h : j < k) : (zs (x.starts k))[j]? = some (.int .i64 ((x.at j : Nat) : Int)) := by
  unfold LaidC.starts zs
  rw [List.getElem?_map, List.getElem?_map, List.getElem?_range h]; rfl
theorem LaidC.starts_succ (x : LaidC) (k : Nat) : zs (x.starts (k + 1)) = zs (x.starts k) ++ [.int .i64 ((x.at k : Nat) : Int)] := by
  unfold LaidC.starts zs
  rw [List.range_succ, List.map_append, List.map_append]; rfl
section
variable {w : World}
set_option maxRecDepth 100000 in
theorem lay_put {x : LaidC} {A : Option Addr} {cp K : Nat} (hO : w.ownsRow 0 3 1 (.slice A K cp) K (zs (x.starts K))) (hK : K = x.k) (hK2 : K ≤ 512) {i : Nat} (hi : i < 256) :
    Calls Tryz.prog 62 #[.slice A K cp, .int .u8 i] w fun e w' => e = .returned (.int .i64 (x.put i : Nat)) ∧ w = w' := by
  have g1 : ((i : Int)).tmod 8 = ((i % 8 : Nat) : Int) := rfl
  have g1' : ((i : Int)) % 8 = ((i % 8 : Nat) : Int) := rfl
  have hwr : IntKind.u8.wrap ((i % 8 : Nat) : Int) = ((i % 8 : Nat) : Int) := by
    have : i % 8 < 8 := Nat.mod_lt _ (by decide)
    exact IntWalk.u8_in _ (by omega)
  have hP : x.put i = if i % 8 = 7 ∨ K = 0 then 0 else x.at (i % K) := by unfold LaidC.put LaidC.at; rw [hK]
  obtain ⟨r, hr⟩ : ∃ r, r = i % 8 := ⟨_, rfl⟩
  rw [← hr] at g1 g1' hwr hP
  by_cases h7 : r = 7
  · have d0 : ((r : Int) == 7) = true := by simp; omega
    rw [hP, if_pos (.inl h7)]
    clear hP hr hO hK
    go_enter Tryz.func62, Tryz.ntmps62
    go_wp2
    go_ret
    exact ⟨rfl, rfl⟩
  · have d0 : ((r : Int) == 7) = false := by simp; omega
    by_cases h0 : K = 0
    · have d1 : ((K : Int) == 0) = true := by simp; omega
      rw [hP, if_pos (.inr h0)]
      clear hP hr hO hK
      go_enter Tryz.func62, Tryz.ntmps62
      go_wp2
      go_ret
      exact ⟨rfl, rfl⟩
    · have d1 : ((K : Int) == 0) = false := by simp; omega
      rw [hP, if_neg (fun h => h.elim h7 h0)]
      obtain ⟨g, c', ea, -, -, -, hgl⟩ := own_form hO h0
      simp only [Value.slice.injEq] at ea
      obtain ⟨rfl, -, rfl⟩ := ea
      have hlt : i % K < K := Nat.mod_lt _ (by omega)
      have kc := own_cell hO (x.starts_at hlt)
      have m1 : ((i : Int)).tmod (K : Int) = ((i % K : Nat) : Int) := rfl
      have m1' : ((i : Int)) % (K : Int) = ((i % K : Nat) : Int) := rfl
      obtain ⟨z, hz⟩ : ∃ z, z = i % K := ⟨_, rfl⟩
      rw [← hz] at hlt kc m1 m1' ⊢
      generalize x.at z = y at *
      have hKz : (K : Int) ≠ 0 := by omega
      have hzI : (z : Int) < (K : Int) := by omega
      have hwi : IntKind.i64.wrap (i : Int) = (i : Int) := IntWalk.i64_in _ (by omega)
      clear hP hr hO hK hz
      go_enter Tryz.func62, Tryz.ntmps62
      go_wp2
      go_ret
      exact ⟨rfl, rfl⟩
set_option maxRecDepth 100000 in
set_option maxHeartbeats 800000 in
theorem lay_room (x : LaidC) (w : World) : Calls Tryz.prog 57 #[cfV x.cf, .int .i64 (x.page : Nat)] w fun e w' => e = .returned (.int .i64 (x.room : Nat)) ∧ Gr w w' := by
  have hpp := x.page_pos
  have htop := x.top_le
  have hrm := x.room_le
  obtain ⟨fr, hfr⟩ : ∃ n, n = x.page := ⟨_, rfl⟩
  obtain ⟨tp, htp⟩ : ∃ n, n = x.top := ⟨_, rfl⟩
  obtain ⟨bk, hbk⟩ : ∃ n, n = 2 ^ (x.bk % 8) := ⟨_, rfl⟩
  obtain ⟨ah, hah⟩ : ∃ n, n = x.ah % 5 := ⟨_, rfl⟩
  have hbk2 : bk ≤ 128 := by have := pow8 x.bk; omega
  have hah2 : ah < 5 := by rw [hah]; exact Nat.mod_lt _ (by decide)
  have hR : x.room = (tp - fr + fr - 1) / fr + (ah + 1) * max 1 (bk / fr) + 1 := by rw [hfr, htp, hbk, hah]; rfl
  have hC : cfV x.cf = .agg #[.int .i64 fr, .int .i64 tp, .int .i64 ((fr + 512 : Nat) : Int), .int .i64 ((fr + 1024 : Nat) : Int), .int .i64 bk, .int .i64 ((x.st % 20 + 1 : Nat) : Int), .int .i64 ah] := by rw [hfr, htp, hbk, hah]; rfl
  obtain ⟨d, hd⟩ : ∃ d, d = (tp - fr + fr - 1) / fr := ⟨_, rfl⟩
  obtain ⟨e, he⟩ : ∃ e, e = bk / fr := ⟨_, rfl⟩
  obtain ⟨m, hm⟩ : ∃ m, m = (ah + 1) * max 1 e := ⟨_, rfl⟩
  rw [hC, hR, ← hd, ← he, ← hm, ← hfr]
  rw [← hfr, ← htp] at htop
  rw [← hfr] at hpp
  have hfr0 : (fr : Int) ≠ 0 := by omega
  have a1 : (tp : Int) - (fr : Int) + (fr : Int) - 1 = ((tp - fr + fr - 1 : Nat) : Int) := by omega
  have a1' : (tp : Int) - 1 = ((tp - fr + fr - 1 : Nat) : Int) := by omega
  have a2 : ((tp : Int) - 1).tdiv (fr : Int) = (d : Int) := by rw [a1', hd]; rfl
  have a3 : ((tp : Int) - 1) / (fr : Int) = (d : Int) := by rw [a1', hd]; rfl
  have b1 : (bk : Int).tdiv (fr : Int) = (e : Int) := by rw [he]; rfl
  have b2 : (bk : Int) / (fr : Int) = (e : Int) := by rw [he]; rfl
  have hmx : max 1 (e : Int) = ((max 1 e : Nat) : Int) := by omega
  have hm2 : ((ah : Int) + 1) * ((max 1 e : Nat) : Int) = (m : Int) := by rw [hm]; push_cast; rfl
  have hdb : d ≤ 600 := by have := Nat.div_le_self (tp - fr + fr - 1) fr; omega
  have heb : e ≤ 128 := by have := Nat.div_le_self bk fr; omega
  have hmb : m ≤ 640 := by rw [hm]; exact Nat.le_trans (Nat.mul_le_mul (by omega : ah + 1 ≤ 5) (by omega : max 1 e ≤ 128)) (by decide)
  have hmb1 : max 1 e ≤ 128 := by omega
  have hmax := run_maxB2 Tryz.prog
  obtain ⟨mx, hmxe⟩ : ∃ mx, mx = max 1 e := ⟨_, rfl⟩
  rw [← hmxe] at hmx hm2 hmb1
  generalize ((x.st % 20 + 1 : Nat) : Int) = st
  generalize ((fr + 512 : Nat) : Int) = t1
  generalize ((fr + 1024 : Nat) : Int) = t2
  have rb := Rec.new w 34 [.int .i64 fr, .int .i64 tp, .int .i64 t1, .int .i64 t2, .int .i64 bk, .int .i64 st, .int .i64 ah]
  have z0 := rb.cell (j := 0) rfl
  have z1 := rb.cell (j := 1) rfl
  have z4 := rb.cell (j := 4) rfl
  have z6 := rb.cell (j := 6) rfl
  clear hR hC hd he hm hmxe hfr htp hbk hah hrm rb a1 a1'
  go_enter Tryz.func57, Tryz.ntmps57
  go_upto_region 1 with (fail)
  obtain ⟨W1, hW1⟩ : ∃ W1, W1 = w.alloc (.cells #[.int .i64 fr, .int .i64 tp, .int .i64 t1, .int .i64 t2, .int .i64 bk, .int .i64 st, .int .i64 ah] 34) := ⟨_, rfl⟩
  have HG : Hid (Gr w W1) := ⟨by rw [hW1]; exact (Gr.refl w).alloc _⟩
  rw [show w.alloc (.cells ([.int .i64 fr, .int .i64 tp, .int .i64 t1, .int .i64 t2, .int .i64 bk, .int .i64 st, .int .i64 ah] : List Value).toArray 34) = W1 from hW1.symm] at z0 z1 z4 z6
  rw [← hW1]
  clear hW1
  obtain ⟨Sx, hSx⟩ : ∃ Sx : World → Prop, Sx = fun W' => (W'.cell? ⟨w.heap.size, 0, none⟩ = some (.int .i64 fr) ∧ W'.cell? ⟨w.heap.size, 1, none⟩ = some (.int .i64 tp)) ∧ W'.cell? ⟨w.heap.size, 4, none⟩ = some (.int .i64 bk) ∧ W'.cell? ⟨w.heap.size, 6, none⟩ = some (.int .i64 ah) := ⟨_, rfl⟩
  have x0 : ∀ p : Held Sx, p.w.cell? ⟨w.heap.size, 0, none⟩ = some (.int .i64 fr) := fun p => (Held.get hSx p).1.1
  have x1 : ∀ p : Held Sx, p.w.cell? ⟨w.heap.size, 1, none⟩ = some (.int .i64 tp) := fun p => (Held.get hSx p).1.2
  have x4 : ∀ p : Held Sx, p.w.cell? ⟨w.heap.size, 4, none⟩ = some (.int .i64 bk) := fun p => (Held.get hSx p).2.1
  have x6 : ∀ p : Held Sx, p.w.cell? ⟨w.heap.size, 6, none⟩ = some (.int .i64 ah) := fun p => (Held.get hSx p).2.2
  have hS0 : Sx W1.drew := by rw [hSx]; exact ⟨⟨z0, z1⟩, z4, z6⟩
  have inst : Inhabited (Held Sx) := ⟨⟨_, hS0⟩⟩
  clear hSx z0 z1 z4 z6
  refine wp_region_mixS Sx 22 [] [0, 1, 2, 3, 4, 5, 6, 7, 8, 9, 10, 11, 12, 13, 14, 15, 16, 17, 18, 19, 20, 21] (by kernel_rfl) (by kernel_rfl) hS0 ?_
  refine segs_end ?_
  simp only [opsAt, List.getElem?_cons_zero, List.getElem?_cons_succ]
  repeat (go_big_quiet_step (fail))
  refine wpQuiet_nil ?_
  refine NoPanic.normal ?_
  clear x0 x1 x4 x6 hS0 inst
  clear Sx
  go_wp2
  go_ret
  exact ⟨ret_int (by push_cast; rfl), HG.out.drew⟩
end
end Go.Proofs.YtbmidhlilafgeaaGreatDoor
