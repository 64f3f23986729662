/- Package mark: Run, whole. -/
import Derived.Test.YtlkifhoedfjlaaaGreatDoorMarkE
namespace Go.Proofs.YtlkifhoedfjlaaaGreatDoor
open Go.RowKit Word

def statV (a b c d : Int) : Value := .agg #[.int .i64 a, .int .i64 b, .int .i64 c, .int .i64 d]
theorem load_stats (W : World) (blk off : Nat) (p q r s : Value) (h0 : W.cell? ⟨blk, off, none⟩ = some p) (h1 : W.cell? ⟨blk, off + 1, none⟩ = some q) (h2 : W.cell? ⟨blk, off + 2, none⟩ = some r) (h3 : W.cell? ⟨blk, off + 3, none⟩ = some s) : (loadVar 40 ⟨blk, off, none⟩).run Tryz.prog W = .ok (.agg #[p, q, r, s]) W := by
  have a1 : (isAgg 40).run Tryz.prog W = .ok true W := by kernel_rfl
  have a2 : (sizeOf 40).run Tryz.prog W = .ok 4 W := by kernel_rfl
  simp [loadVar, Sem.run_bind, a1, a2, Result.andThen, loadCells, go_sem, h0, h1, h2, h3]
set_option maxRecDepth 100000 in
set_option maxHeartbeats 800000 in
theorem mark_run_nil (sp : Value) (A : Option Addr) (l cp : Nat) (room : Int) (w : World) : Calls Tryz.prog 9 #[sp, .slice A l cp, .pointer none, .int .i64 room] w fun e w' => e = .returned (.tuple #[statV 0 0 0 0, .int .i64 9]) ∧ Gr w w' := by
  unfold statV
  go_enter Tryz.func9, Tryz.ntmps9
  go_wp2_with (go_at_call 23; refine (ext_words_nil _).mono ?_; rintro e w1 ⟨rfl, rfl⟩)
  refine bodyPost_ret (v := .tuple #[.agg #[.int .i64 0, .int .i64 0, .int .i64 0, .int .i64 0], .int .i64 9]) ?_ rfl ⟨rfl, ((Gr.refl w).alloc _).alloc _⟩
  rw [results_cell_tmp rfl]
  simp [asAddr, Result.andThen, go_sem]
def MarkRun (w : World) (SV : Nat → Prop) (q m p1 b1 p2 b2 n : Nat) (v : Vm) (rs : List Int) (room : Int) (e : Ending) (w' : World) : Prop :=
  ((room < 1 ∨ 4096 < room) ∧ e = .returned (.tuple #[statV 0 0 0 0, .int .i64 5]) ∧ Gr w w') ∨
  (1 ≤ room ∧ room ≤ 4096 ∧ Touch (fun i => mine m b1 b2 i ∨ SV i) w w' ∧ VmAt w' SV q v ∧
    ((∃ L r vi, e = .returned (.tuple #[statV (L.length : Nat) (sizes L : Nat) r vi, .int .i64 0]) ∧ Ext w' m p1 b1 p2 b2 n L ∧ Marks v rs n L ∧ (L = [] → r = 1 ∧ vi = 0)) ∨
     (e = .returned (.tuple #[statV 0 0 0 0, .int .i64 25]) ∧ Ext w' m p1 b1 p2 b2 n [] ∧ ¬ Sound v rs n)))
section
variable {w : World} {SV : Nat → Prop} {q m p1 b1 p2 b2 n : Nat} {v : Vm} {rs : List Int} {L0 : List Ob} {A : Option Addr} {cp : Nat}
theorem new2 (w : World) (o : Obj) (T : Nat) (xs : List Value) : Rec ((w.alloc o).alloc (.cells xs.toArray T)) (w.heap.size + 1) T xs := by
  have := Rec.new (w.alloc o) T xs
  rw [World.size_alloc] at this
  exact this
theorem new3 (w : World) (o o' : Obj) (T : Nat) (xs : List Value) : Rec ((w.alloc o).alloc (.cells xs.toArray T)) (w.heap.size + 1) T xs ∧ Rec (((w.alloc (.cells xs.toArray T)).alloc o')) w.heap.size T xs := by
  have := Rec.new (w.alloc o) T xs
  rw [World.size_alloc] at this
  exact ⟨this, (Rec.new w T xs).gr ((Gr.refl _).alloc _)⟩
theorem st4_self (W : World) (b : Nat) (z0 z1 z2 z3 : Value) : Touch (fun i => i = b) W ((((W.setCell ⟨b, 0, none⟩ z0).setCell ⟨b, 1, none⟩ z1).setCell ⟨b, 2, none⟩ z2).setCell ⟨b, 3, none⟩ z3) :=
  ((((Touch.refl (fun i => i = b) W).setCell (a := ⟨b, 0, none⟩) (fun _ => rfl) z0).setCell (a := ⟨b, 1, none⟩) (fun _ => rfl) z1).setCell (a := ⟨b, 2, none⟩) (fun _ => rfl) z2).setCell (a := ⟨b, 3, none⟩) (fun _ => rfl) z3
theorem st4_touch {W : World} {S : Nat → Prop} {z0 z1 z2 z3 : Value} (h : Touch S w W) : Touch S w ((((W.setCell ⟨w.heap.size + 1, 0, none⟩ z0).setCell ⟨w.heap.size + 1, 1, none⟩ z1).setCell ⟨w.heap.size + 1, 2, none⟩ z2).setCell ⟨w.heap.size + 1, 3, none⟩ z3) := by
  have hx : ∀ j : Nat, (⟨w.heap.size + 1, j, none⟩ : Addr).block < w.heap.size → S (⟨w.heap.size + 1, j, none⟩ : Addr).block := fun j h => absurd h (by show ¬ (w.heap.size + 1 < w.heap.size); omega)
  exact (((h.setCell (hx 0) z0).setCell (hx 1) z1).setCell (hx 2) z2).setCell (hx 3) z3
set_option maxRecDepth 100000 in
set_option maxHeartbeats 3200000 in
theorem mark_run (hV : VmAt w SV q v) (hE : Ext w m p1 b1 p2 b2 n L0) (hT : TabAt w) (hA : IntsOff (mine m b1 b2) w A rs) (hlen : rs.length ≤ maxLen)
    (hvm : ∀ i, SV i → ¬ mine m b1 b2 i) (hv1 : ¬ SV p1) (hv2 : ¬ SV p2) (hvt : ¬ SV 0) (htm : ¬ mine m b1 b2 0) (room : Int) :
    Calls Tryz.prog 9 #[spV q, .slice A rs.length cp, .pointer (some ⟨m, 0, none⟩), .int .i64 room] w (MarkRun w SV q m p1 b1 p2 b2 n v rs room) := by
  have HE := hid hE
  have HV := hid hV.cut
  have HT := hid hT
  have HA := hid hA
  have hn1 := hE.nb.1
  have dn : ((n : Int) == 0) = false := by simp; omega
  have hml : ∀ i, mine m b1 b2 i → i < w.heap.size := fun i hi => by
    rcases hi with rfl | rfl | rfl
    · exact hE.hm
    · exact hE.v1.hb
    · exact hE.v2.hb
  have hp1l : p1 < w.heap.size := hE.v1.hp
  have hp2l : p2 < w.heap.size := hE.v2.hp
  have htl := hT.lt
  have hm1 : ¬ mine m b1 b2 p1 := fun h => by
    rcases h with h | h | h
    · exact hE.am.1 h.symm
    · exact hE.v1.ne h
    · exact hE.ab.1 h
  have hm2 : ¬ mine m b1 b2 p2 := fun h => by
    rcases h with h | h | h
    · exact hE.am.2.2.1 h.symm
    · exact hE.ab.2.1 h
    · exact hE.v2.ne h
  have HML := hid hml
  obtain ⟨N, hN⟩ : ∃ N, N = rs.length := ⟨_, rfl⟩
  have HN := hid hN
  rw [← hN] at hlen ⊢
  have h5 := (new3 w (.cells #[.slice A N cp] 23) (.cells #[.int .i64 0, .int .i64 0, .int .i64 0, .int .i64 0] 40) 23 [.slice A N cp]).2
  have h8 := (new3 w (.cells #[.slice A N cp] 23) (.cells #[] 23) 40 [.int .i64 0, .int .i64 0, .int .i64 0, .int .i64 0]).1
  have HR5 := hid h5
  have HR8 := hid h8
  have hga : Gr w ((w.alloc (.cells #[.slice A N cp] 23)).alloc (.cells #[.int .i64 0, .int .i64 0, .int .i64 0, .int .i64 0] 40)) := ((Gr.refl w).alloc _).alloc _
  have hsa : ((w.alloc (.cells #[.slice A N cp] 23)).alloc (.cells #[.int .i64 0, .int .i64 0, .int .i64 0, .int .i64 0] 40)).heap.size = w.heap.size + 2 := by rw [World.size_alloc, World.size_alloc]
  obtain ⟨wa, hwa⟩ : ∃ wa, wa = ((w.alloc (.cells #[.slice A N cp] 23)).alloc (.cells #[.int .i64 0, .int .i64 0, .int .i64 0, .int .i64 0] 40)) := ⟨_, rfl⟩
  rw [show (w.alloc (.cells ([.slice A N cp] : List Value).toArray 23)).alloc (.cells #[.int .i64 0, .int .i64 0, .int .i64 0, .int .i64 0] 40) = wa from hwa.symm] at HR5
  rw [show (w.alloc (.cells #[.slice A N cp] 23)).alloc (.cells ([.int .i64 0, .int .i64 0, .int .i64 0, .int .i64 0] : List Value).toArray 40) = wa from hwa.symm] at HR8
  rw [← hwa] at hga hsa
  have HGA := hid hga
  have HWA := hid hwa
  have HEA := hid (HE.out.gr hga)
  have HB0 : Hid (∀ i, cutS SV w i → i < w.heap.size ∧ ¬ mine m b1 b2 i) := ⟨fun i hi => ⟨hi.2, hvm i hi.1⟩⟩
  have HSEP := hid (And.intro hv1 (And.intro hv2 (And.intro hvt (And.intro htm (And.intro hm1 hm2)))))
  clear hV hE hT hA h5 h8 hwa hga hvm hv1 hv2 hvt htm hm1 hm2 hml hN
  by_cases hroom : room < 1 ∨ 4096 < room
  · have HSN : Hid (∀ W, Calls Tryz.prog 27 #[.int .i64 room] W fun e w' => e = .returned (.tuple #[.pointer none, .int .i64 5]) ∧ W = w') := ⟨fun W => (stk_new room W).mono fun e w' h => by
      rcases h with ⟨-, h1, h2⟩ | ⟨h1, h2, -⟩
      · exact ⟨h1, h2⟩
      · omega⟩
    have HRM := hid hroom
    unfold spV at *
    clear hroom hsa
    go_enter Tryz.func9, Tryz.ntmps9
    go_upto_region 1 with (fail)
    rw [← HWA.out]
    have y0 := HR8.out.cell (j := 0) rfl
    have y1 := HR8.out.cell (j := 1) rfl
    have y2 := HR8.out.cell (j := 2) rfl
    have y3 := HR8.out.cell (j := 3) rfl
    have yf := HR8.out.free
    go_wp2_with (first
      | (go_at_call 23; refine (ext_words HEA.out).mono ?_; rintro e w1 ⟨rfl, rfl⟩)
      | (go_at_call 27; refine (HSN.out _).mono ?_; rintro e w1 ⟨rfl, rfl⟩))
    have R := ((((HR8.out.set 0 (.int .i64 0)).set 1 (.int .i64 0)).set 2 (.int .i64 0)).set 3 (.int .i64 0))
    have hl := load_stats _ _ 0 _ _ _ _ (R.cell (j := 0) rfl) (R.cell (j := 1) rfl) (R.cell (j := 2) rfl) (R.cell (j := 3) rfl)
    refine bodyPost_ret (v := .tuple #[.agg #[.int .i64 0, .int .i64 0, .int .i64 0, .int .i64 0], .int .i64 5]) ?_ rfl (.inl ⟨HRM.out, rfl, ?_⟩)
    · rw [results_cell_tmp rfl]
      simp [asAddr, Result.andThen, hl]
    · exact (st4_touch (HGA.out.touch _)).gr
  · have hroom' : 1 ≤ room ∧ room ≤ 4096 := by omega
    have HSN : Hid (∀ W, Calls Tryz.prog 27 #[.int .i64 room] W fun e w' => e = .returned (.tuple #[.pointer (some ⟨W.heap.size, 0, none⟩), .int .i64 0]) ∧ Gr W w' ∧ StkAt w' (fun k => W.heap.size ≤ k) W.heap.size [] room.toNat false) := ⟨fun W => (stk_new room W).mono fun e w' h => by
      rcases h with ⟨h1, -⟩ | ⟨-, -, h1, h2, h3⟩
      · omega
      · exact ⟨h1, h2, h3⟩⟩
    have HRM := hid hroom'
    unfold spV at *
    clear hroom
    go_enter Tryz.func9, Tryz.ntmps9
    go_upto_region 1 with (fail)
    rw [← HWA.out]
    obtain ⟨gs, hgs⟩ : ∃ gs, gs = wa.heap.size := ⟨_, rfl⟩
    have HGS := hid hgs
    go_upto_region 8 with (first
      | (go_at_call 23; refine (ext_words HEA.out).mono ?_; rintro e w1 ⟨rfl, rfl⟩)
      | (go_at_call 27; refine (HSN.out _).mono ?_; rintro e ws ⟨rfl, hgs1, hst1⟩; have HGS1 := hid hgs1; have HST1 := hid hst1.cut; clear hgs1 hst1)
      | (go_at_call 28; refine (ext_wipe (HEA.out.gr HGS1.out)).mono ?_; rintro e w3 ⟨rfl, ht3, hx3⟩; have HT3 := hid ht3; have HX3 := hid hx3; clear ht3 hx3))
    have HST2 : Hid (StkAt ws (cutS (fun k => w.heap.size + 2 ≤ k) ws) (w.heap.size + 2) [] room.toNat false) := ⟨by have := HST1.out; rw [hsa] at this; exact this⟩
    have hzs := HGS1.out.size
    have hz3 := HT3.out.size
    have hk3 : w.heap.size + 2 ≤ w3.heap.size := by omega
    have hlo : ∀ i, mine m b1 b2 i → i < w.heap.size := HML.out
    obtain ⟨hv1, hv2, hvt, htm, hm1, hm2⟩ := HSEP.out
    have g2 : Gr w3 ((w3.alloc (.cells #[.iface 29 (.pointer (some ⟨q, 0, none⟩)), .pointer (some ⟨m, 0, none⟩), .pointer (some ⟨w.heap.size + 2, 0, none⟩), .pointer none, .int .i64 0, .int .i64 0, .int .i64 0, .int .i64 0] 76)).alloc (.cells #[.pointer (some ⟨w3.heap.size, 0, none⟩)] 73)) := ((Gr.refl w3).alloc _).alloc _
    have hsz4 : ((w3.alloc (.cells #[.iface 29 (.pointer (some ⟨q, 0, none⟩)), .pointer (some ⟨m, 0, none⟩), .pointer (some ⟨w.heap.size + 2, 0, none⟩), .pointer none, .int .i64 0, .int .i64 0, .int .i64 0, .int .i64 0] 76)).alloc (.cells #[.pointer (some ⟨w3.heap.size, 0, none⟩)] 73)).heap.size = w3.heap.size + 2 := by rw [World.size_alloc, World.size_alloc]
    have r12 := new2 w3 (.cells #[.iface 29 (.pointer (some ⟨q, 0, none⟩)), .pointer (some ⟨m, 0, none⟩), .pointer (some ⟨w.heap.size + 2, 0, none⟩), .pointer none, .int .i64 0, .int .i64 0, .int .i64 0, .int .i64 0] 76) 73 [.pointer (some ⟨w3.heap.size, 0, none⟩)]
    have rk := (Rec.new w3 76 [.iface 29 (.pointer (some ⟨q, 0, none⟩)), .pointer (some ⟨m, 0, none⟩), .pointer (some ⟨w.heap.size + 2, 0, none⟩), .pointer none, .int .i64 0, .int .i64 0, .int .i64 0, .int .i64 0]).gr ((Gr.refl _).alloc (.cells #[.pointer (some ⟨w3.heap.size, 0, none⟩)] 73))
    obtain ⟨W, hW⟩ : ∃ W, W = ((w3.alloc (.cells #[.iface 29 (.pointer (some ⟨q, 0, none⟩)), .pointer (some ⟨m, 0, none⟩), .pointer (some ⟨w.heap.size + 2, 0, none⟩), .pointer none, .int .i64 0, .int .i64 0, .int .i64 0, .int .i64 0] 76)).alloc (.cells #[.pointer (some ⟨w3.heap.size, 0, none⟩)] 73)) := ⟨_, rfl⟩
    rw [← hW] at g2 hsz4 ⊢
    rw [show (w3.alloc (.cells #[.iface 29 (.pointer (some ⟨q, 0, none⟩)), .pointer (some ⟨m, 0, none⟩), .pointer (some ⟨w.heap.size + 2, 0, none⟩), .pointer none, .int .i64 0, .int .i64 0, .int .i64 0, .int .i64 0] 76)).alloc (.cells ([.pointer (some ⟨w3.heap.size, 0, none⟩)] : List Value).toArray 73) = W from hW.symm] at r12
    rw [show (w3.alloc (.cells ([.iface 29 (.pointer (some ⟨q, 0, none⟩)), .pointer (some ⟨m, 0, none⟩), .pointer (some ⟨w.heap.size + 2, 0, none⟩), .pointer none, .int .i64 0, .int .i64 0, .int .i64 0, .int .i64 0] : List Value).toArray 76)).alloc (.cells #[.pointer (some ⟨w3.heap.size, 0, none⟩)] 73) = W from hW.symm] at rk
    have tW : Touch (mine m b1 b2) w W := ((HGA.out.trans HGS1.out).touch _ |>.trans HT3.out).trans (g2.touch _)
    have hnot : ∀ i, i < w.heap.size → ¬ mine m b1 b2 i → ¬ (i = w3.heap.size ∨ mine m b1 b2 i ∨ cutS (fun k => w.heap.size + 2 ≤ k) ws i) := fun i hi hn h => by
      rcases h with h | h | h
      · omega
      · exact hn h
      · have := h.1; omega
    have hrunm := run_mark (w := W) (SV := cutS SV w) (SG := cutS (fun k => w.heap.size + 2 ≤ k) ws) (q := q) (k := w3.heap.size) (m := m) (g := w.heap.size + 2) (R := room.toNat) (b12 := w3.heap.size + 1) (b5 := w.heap.size) (cp := cp) (v := v) (rs := rs) (A := A)
      (HV.out.touch tW (fun i hi _ h => (HB0.out i hi).2 h)) (HX3.out.gr g2) ((HST2.out.touch HT3.out (fun i hi _ h => by have := hlo i h; have := hi.1; omega)).gr g2) rk (tW.tab HT.out.lt htm HT.out)
      (r12.cell (j := 0) rfl) (by rw [← HN.out]; exact (((HR5.out.gr HGS1.out).touch HT3.out (fun h => by have := hlo _ h; omega)).gr g2).cell (j := 0) rfl) (by omega) (by omega)
      ((HA.out.mono (T' := fun i => i = w3.heap.size ∨ mine m b1 b2 i ∨ cutS (fun k => w.heap.size + 2 ≤ k) ws i) (fun b hb h => by
        rcases h with h | h | h
        · omega
        · exact h
        · have := h.1; omega)).touch tW (fun _ _ h => .inr (.inl h))) (by rw [← HN.out]; exact hlen)
      (fun i hi => ⟨by have := hi.2; omega, fun h => by
        rcases h with h | h | h
        · have := hi.2; omega
        · exact (HB0.out i hi).2 h
        · have := hi.2; have := h.1; omega⟩) (fun i hi => by have := hi.2; omega) (hnot _ hp1l hm1) (hnot _ hp2l hm2) (hnot _ htl htm) (fun h => hv1 h.1) (fun h => hv2 h.1) (fun h => hvt h.1) (fun h => by have := hlo _ h; omega) (fun h => by have := h.2; omega) (fun i hi h => by have := hlo i hi; have := h.1; omega)
    have HRUN := hid hrunm
    have HTW := hid tW
    have HR12 := hid r12
    have HR8W := hid (((HR8.out.gr HGS1.out).touch HT3.out (fun h => by have := hlo _ h; omega)).gr g2)
    have HZ3 := hid (And.intro hk3 (And.intro hsz4 hzs))
    have hT5 : Hid (∀ i, w.heap.size ≤ i → i < w.heap.size + 2 ∨ i = w3.heap.size + 1 → ¬ (i = w3.heap.size ∨ mine m b1 b2 i ∨ cutS (fun k => w.heap.size + 2 ≤ k) ws i ∨ cutS SV w i)) := ⟨fun i h1 h2 h => by
      rcases h with h | h | h | h
      · omega
      · have := hlo i h; omega
      · have := h.1; have := h.2; omega
      · have := h.2; omega⟩
    unfold spV at HRUN
    clear hrunm tW r12 rk hW g2 hnot hsz4 hlo hm1 hm2 hv1 hv2 hvt htm hgs HGS
    have hcf := call_mark1
    have hmf : ∀ (fn : Fn) (first cap : Array Value) (w : World), (Instr.makeFunc fn first cap).run Tryz.prog w = .ok (.func fn first cap) w := fun _ _ _ _ => rfl
    go_wp2_with (first
      | (go_at_call 29; refine HRUN.out.mono ?_; rintro e w5 ⟨ht5, x, y, L, r, vi, rfl, hra, (⟨rfl, hmk, hnil⟩ | ⟨rfl, hns⟩)⟩ <;> (have HT5 := hid ht5; have HRA := hid hra; have R12 := HR12.out.touch ht5 (hT5.out _ (by have := HZ3.out.1; omega) (.inr rfl)); have R8 := HR8W.out.touch ht5 (hT5.out _ (by omega) (.inl (by omega))); have x12 := R12.cell (j := 0) rfl; have l12 := R12.lt; have l8 := R8.lt; have e0 := R8.cell (j := 0) rfl; have e1 := R8.cell (j := 1) rfl; have e2 := R8.cell (j := 2) rfl; have e3 := R8.cell (j := 3) rfl; have ef := R8.free; obtain ⟨wk, hrow⟩ := hra.row; have k4 := hrow.cell (j := 4) rfl; have k5 := hrow.cell (j := 5) rfl; have k6 := hrow.cell (j := 6) rfl; have k7 := hrow.cell (j := 7) rfl; have lk := hrow.lt; have HR8Z := hid R8; clear ht5 hra R12 R8 hrow))
      | (go_at_call 28; refine (ext_wipe (HRA.out.ext.gr ((Gr.refl _).alloc _))).mono ?_; rintro e w6 ⟨rfl, ht6, hx6⟩; have R86 := (HR8Z.out.gr ((Gr.refl _).alloc (.cells #[.int .i64 25, .int .i64 y] 78))).touch ht6 (fun h => by have := HML.out _ h; omega); have f0 := R86.cell (j := 0) rfl; have f1 := R86.cell (j := 1) rfl; have f2 := R86.cell (j := 2) rfl; have f3 := R86.cell (j := 3) rfl; have ff := R86.free; have HR86 := hid R86; have HT6 := hid ht6; have HX6 := hid hx6; clear ht6 hx6 R86))
    · have hg5 := fun W => (Gr.refl W).alloc (.cells #[.int .i64 0, .int .i64 y] 78)
      have R := (((((HR8Z.out).set 0 (.int .i64 (L.length : Nat))).set 1 (.int .i64 (sizes L : Nat))).set 2 (.int .i64 r)).set 3 (.int .i64 vi)).gr (hg5 _)
      have hl := load_stats _ _ 0 _ _ _ _ (R.cell (j := 0) rfl) (R.cell (j := 1) rfl) (R.cell (j := 2) rfl) (R.cell (j := 3) rfl)
      have tf := st4_self w5 (w.heap.size + 1) (.int .i64 (L.length : Nat)) (.int .i64 (sizes L : Nat)) (.int .i64 r) (.int .i64 vi)
      have hT : Touch (fun i => mine m b1 b2 i ∨ SV i) w w5 := (HTW.out.mono (fun i _ h => .inl h)).trans' HT5.out (fun i hi h => by
        rcases h with h | h | h | h
        · have := HZ3.out.1; omega
        · exact .inl h
        · have := h.1; omega
        · exact .inr h.1)
      have hT2 := (hT.trans' tf (fun i hi h => by omega)).trans ((hg5 _).touch _)
      refine bodyPost_ret (v := .tuple #[.agg #[.int .i64 (L.length : Nat), .int .i64 (sizes L : Nat), .int .i64 r, .int .i64 vi], .int .i64 0]) ?_ rfl (.inr ⟨HRM.out.1, HRM.out.2, hT2, ?_, .inl ⟨L, r, vi, rfl, ?_, hmk, hnil⟩⟩)
      · rw [results_cell_tmp rfl]
        simp [asAddr, Result.andThen, hl]
      · exact ((HRA.out.vm.touch tf (fun i hi _ h => by have := hi.2; omega)).gr (hg5 _)).mono (fun i hi => hi.1)
      · have hne : ∀ i, i < w.heap.size → i ≠ w.heap.size + 1 := fun i h => by omega
        exact (HRA.out.ext.touch tf (hne _ (HML.out _ (.inl rfl))) (hne _ hp1l) (hne _ (HML.out _ (.inr (.inl rfl)))) (hne _ hp2l) (hne _ (HML.out _ (.inr (.inr rfl))))).gr (hg5 _)
    · have hg5 := (Gr.refl w5).alloc (.cells #[.int .i64 25, .int .i64 y] 78)
      have R := (((((HR86.out).set 0 (.int .i64 0)).set 1 (.int .i64 0)).set 2 (.int .i64 0)).set 3 (.int .i64 0))
      have hl := load_stats _ _ 0 _ _ _ _ (R.cell (j := 0) rfl) (R.cell (j := 1) rfl) (R.cell (j := 2) rfl) (R.cell (j := 3) rfl)
      have tf := st4_self w6 (w.heap.size + 1) (.int .i64 0) (.int .i64 0) (.int .i64 0) (.int .i64 0)
      have hT : Touch (fun i => mine m b1 b2 i ∨ SV i) w w5 := (HTW.out.mono (fun i _ h => .inl h)).trans' HT5.out (fun i hi h => by
        rcases h with h | h | h | h
        · have := HZ3.out.1; omega
        · exact .inl h
        · have := h.1; omega
        · exact .inr h.1)
      have hT2 := ((hT.trans (hg5.touch _)).trans (HT6.out.mono (fun i _ h => .inl h))).trans' tf (fun i hi h => by omega)
      refine bodyPost_ret (v := .tuple #[.agg #[.int .i64 0, .int .i64 0, .int .i64 0, .int .i64 0], .int .i64 25]) ?_ rfl (.inr ⟨HRM.out.1, HRM.out.2, hT2, ?_, .inr ⟨rfl, ?_, hns⟩⟩)
      · rw [results_cell_tmp rfl]
        simp [asAddr, Result.andThen, hl]
      · exact (((HRA.out.vm.gr hg5).touch HT6.out (fun i hi _ h => (HB0.out i hi).2 h)).touch tf (fun i hi _ h => by have := hi.2; omega)).mono (fun i hi => hi.1)
      · have hne : ∀ i, i < w.heap.size → i ≠ w.heap.size + 1 := fun i h => by omega
        exact HX6.out.touch tf (hne _ (HML.out _ (.inl rfl))) (hne _ hp1l) (hne _ (HML.out _ (.inr (.inl rfl)))) (hne _ hp2l) (hne _ (HML.out _ (.inr (.inr rfl))))
end
end Go.Proofs.YtlkifhoedfjlaaaGreatDoor
