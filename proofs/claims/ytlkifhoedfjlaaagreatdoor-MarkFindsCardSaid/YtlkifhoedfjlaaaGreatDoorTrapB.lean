/- Package trap: the deferred closure, part, Run. -/
import Derived.Test.YtlkifhoedfjlaaaGreatDoorTrap
import Derived.Defers
import Derived.Recover
import Derived.Laws.Pointers
namespace Go.Proofs.YtlkifhoedfjlaaaGreatDoor
open Go.RowKit Word

section
variable {w : World} {S : Nat → Prop} {k q : Nat} {v : Vm} {l : Lg}
theorem tmps22 (x y z r : Value) : #[x, y, z] ++ ((Array.replicate 19 undef).setIfInBounds 3 r).setIfInBounds 0 r =
    #[x, y, z, r, undef, undef, r, undef, undef, undef, undef, undef, undef, undef, undef, undef, undef, undef, undef, undef, undef, undef] := by kernel_rfl
theorem part_idle (p2 p5 p4 : Addr) (w : World) : CallsD Tryz.prog 85 #[.pointer (some p2), .pointer (some p5), .pointer (some p4)] .returning w fun e u' w' => e = .returned (.tuple #[]) ∧ u' = .returning ∧ w' = w := by
  have hnil : ∀ w : World, (binOp BinOp.eql 20 .nilIface .nilIface).run Tryz.prog w = .ok (.bool true) w := fun _ => by kernel_rfl
  refine callsD_of_wpS Tryz.func85 rfl fun c₀ cs hu => ?_
  apply wpS_seq
  apply wpS_region
  simp [wpOpsS, go_sem, recoverD, hu, Tryz.ntmps85, Exit.thenS]
  rw [tmps22]
  refine wpS_of_wp ?_
  go_wp2
  refine ⟨rfl, .returning, ?_, _, results_none rfl _ _ _, rfl, rfl, rfl⟩
  cases c₀
  simp_all
def CaughtEnd (w : World) (S S2 : Nat → Prop) (b4 k q : Nat) (v : Vm) (l : Lg) (why a : Int) (w' : World) : Prop :=
  Touch (fun i => S i ∨ S2 i ∨ i = b4) w w' ∧ VmAt w' S2 q (undoL v l) ∧ WkAt w' S k q [] ∧ Rec w' b4 78 [.int .i64 why, .int .i64 a]
set_option maxRecDepth 100000 in
set_option maxHeartbeats 1600000 in
theorem part_caught {S2 : Nat → Prop} {b2 b5 b4 : Nat} (hW : WkAt w S k q l) (hV : VmAt w S2 q v) (hd : ∀ i, S i → ¬ S2 i) (why a : Int) (older : List PanicEntry)
    (r2 : w.cell? ⟨b2, 0, none⟩ = some (.pointer (some ⟨k, 0, none⟩))) (r5 : w.cell? ⟨b5, 0, none⟩ = some (.int .i64 0)) (r4 : Rec w b4 78 [.int .i64 0, .int .i64 0]) (n4 : ¬ S b4) (m4 : ¬ S2 b4) :
    CallsD Tryz.prog 85 #[.pointer (some ⟨b2, 0, none⟩), .pointer (some ⟨b5, 0, none⟩), .pointer (some ⟨b4, 0, none⟩)] (.panicking ({ v := thrV why a, recovered := false } :: older)) w fun e u' w' =>
      e = .returned (.tuple #[]) ∧ u' = .panicking ({ v := thrV why a, recovered := true } :: older) ∧ CaughtEnd w S S2 b4 k q v l why a w' := by
  have hta : ∀ (x y : Int) (w : World), (Instr.typeAssert (.iface 156 (.agg #[.int .i64 x, .int .i64 y])) 20 156 true).run Tryz.prog w = .ok (.tuple #[.agg #[.int .i64 x, .int .i64 y], .bool true]) w := fun _ _ _ => by kernel_rfl
  have hnn : ∀ (x : Value) (w : World), (binOp BinOp.eql 20 (.iface 156 x) .nilIface).run Tryz.prog w = .ok (.bool false) w := fun _ _ => by kernel_rfl
  have HW := hid hW
  have HV := hid hV
  have HD := hid hd
  clear hW hV hd
  refine callsD_of_wpS Tryz.func85 rfl fun c₀ cs hu => ?_
  apply wpS_seq
  apply wpS_region
  unfold thrV at hu ⊢
  simp [wpOpsS, go_sem, recoverD, hu, Tryz.ntmps85, Exit.thenS]
  rw [tmps22]
  refine wpS_of_wp ?_
  go_wp2_with (go_at_call 86; refine (wk_undo HW.out HV.out HD.out).mono ?_; rintro e w1 ⟨rfl, ht1, hv1, hw1⟩; have HR1 := hid (r4.touch ht1 (fun h => h.elim n4 m4)); have d0 := HR1.out.cell (j := 0) rfl; have d1 := HR1.out.cell (j := 1) rfl; have df := HR1.out.free; have hb4 := HR1.out.lt; have HT1 := hid ht1; have HV1 := hid hv1; have HW1 := hid hw1; clear ht1 hv1 hw1)
  have hbl := HR1.out.lt
  have hdk : ∀ i, S2 i → i ≠ b4 := fun i hi e => m4 (by rw [← e]; exact hi)
  have hds : ∀ i, S i → i ≠ b4 := fun i hi e => n4 (by rw [← e]; exact hi)
  have hT := ((Touch.refl (fun i => i = b4) w1).setCell (a := ⟨b4, 0, none⟩) (fun _ => rfl) (.int .i64 why)).setCell (a := ⟨b4, 1, none⟩) (fun _ => rfl) (.int .i64 a)
  have hTA : Touch (fun i => S i ∨ S2 i ∨ i = b4) w _ := (HT1.out.mono (fun i _ hi => hi.elim Or.inl (fun h => Or.inr (Or.inl h)))).trans (hT.mono (fun i _ hi => Or.inr (Or.inr hi)))
  refine ⟨rfl, _, rfl, _, results_none rfl _ _ _, rfl, rfl, ?_⟩
  exact ⟨hTA.alloc _, (HV1.out.touch hT (fun i hi _ => hdk i hi)).gr ((Gr.refl _).alloc _), (HW1.out.touch hT (fun i hi _ => hds i hi)).gr ((Gr.refl _).alloc _), Rec.gr (Rec.set (Rec.set HR1.out 0 _) 1 _) ((Gr.refl _).alloc _)⟩
end
end Go.Proofs.YtlkifhoedfjlaaaGreatDoor
