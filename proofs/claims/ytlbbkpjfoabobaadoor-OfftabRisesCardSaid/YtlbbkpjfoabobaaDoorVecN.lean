/- Contracts of bitvec's methods at a nil Vector. -/
import Derived.Test.YtlbbkpjfoabobaaDoorMasks
namespace Go.Proofs.YtlbbkpjfoabobaaDoor
open Go.RowKit Word

theorem set_nil (i : Int) (w : World) :
    Calls Tryd.prog 52 #[.pointer none, .int .i64 i] w fun e w' => e = .returned (.int .i64 9) ∧ w = w' := by
  go_enter Tryd.func52, Tryd.ntmps52
  go_wp2
  go_ret
  exact ⟨rfl, rfl⟩
theorem clear_nil (i : Int) (w : World) :
    Calls Tryd.prog 18 #[.pointer none, .int .i64 i] w fun e w' => e = .returned (.int .i64 9) ∧ w = w' := by
  go_enter Tryd.func18, Tryd.ntmps18
  go_wp2
  go_ret
  exact ⟨rfl, rfl⟩
theorem test_nil (i : Int) (w : World) :
    Calls Tryd.prog 21 #[.pointer none, .int .i64 i] w fun e w' => e = .returned (.bool false) ∧ w = w' := by
  go_enter Tryd.func21, Tryd.ntmps21
  go_wp2
  go_ret
  exact ⟨rfl, rfl⟩
theorem copy_nil (w : World) :
    Calls Tryd.prog 39 #[.pointer none] w fun e w' => e = .returned (.pointer none) ∧ w = w' := by
  go_enter Tryd.func39, Tryd.ntmps39
  go_wp2
  go_ret
  exact ⟨rfl, rfl⟩
theorem each_nil (f t : Int) (v : Value) (w : World) :
    Calls Tryd.prog 75 #[.pointer none, .int .i64 f, .int .i64 t, v] w fun e w' => e = .returned (.tuple #[]) ∧ w = w' := by
  go_enter Tryd.func75, Tryd.ntmps75
  go_wp2
  refine bodyPost_ret (results_none rfl _ _ _) rfl ?_
  exact ⟨rfl, rfl⟩
theorem fill_nil (f t : Int) (w : World) : Gets Tryd.prog 17 #[.pointer none, .int .i64 f, .int .i64 t] w (.int .i64 0) := by
  have hmf : ∀ (fn : Fn) (first cap : Array Value) (w : World), (Instr.makeFunc fn first cap).run Tryd.prog w = .ok (.func fn first cap) w := fun _ _ _ _ => rfl
  unfold Gets
  go_enter Tryd.func17, Tryd.ntmps17
  go_wp2_with (go_at_call 75; refine (each_nil _ _ _ _).mono ?_; rintro e w' ⟨rfl, rfl⟩)
  go_ret
  exact ⟨rfl, (Gr.refl w).alloc _⟩
theorem wipe_nil (f t : Int) (w : World) : Gets Tryd.prog 53 #[.pointer none, .int .i64 f, .int .i64 t] w (.int .i64 0) := by
  have hmf : ∀ (fn : Fn) (first cap : Array Value) (w : World), (Instr.makeFunc fn first cap).run Tryd.prog w = .ok (.func fn first cap) w := fun _ _ _ _ => rfl
  unfold Gets
  go_enter Tryd.func53, Tryd.ntmps53
  go_wp2_with (go_at_call 75; refine (each_nil _ _ _ _).mono ?_; rintro e w' ⟨rfl, rfl⟩)
  go_ret
  exact ⟨rfl, (Gr.refl w).alloc _⟩
theorem count_nil (f t : Int) (w : World) : Gets Tryd.prog 19 #[.pointer none, .int .i64 f, .int .i64 t] w (.int .i64 0) := by
  have hmf : ∀ (fn : Fn) (first cap : Array Value) (w : World), (Instr.makeFunc fn first cap).run Tryd.prog w = .ok (.func fn first cap) w := fun _ _ _ _ => rfl
  unfold Gets
  go_enter Tryd.func19, Tryd.ntmps19
  go_wp2_with (go_at_call 75; refine (each_nil _ _ _ _).mono ?_; rintro e w' ⟨rfl, rfl⟩)
  go_ret
  exact ⟨rfl, (Gr.refl w).alloc _⟩
end Go.Proofs.YtlbbkpjfoabobaaDoor
