/- Contracts of package masks and of the three functions of math/bits that it calls: what each returns on every argument, as plain functions on numbers; none writes memory. masks.Power, and the reference's May of layer 12. What every row of these statements wants: the table's cells out of the row's list, a start that meets it, the arguments read again, and the end of a law that returns true and touches nothing. Contracts of bitvec's methods at a nil Vector. -/
import Derived.Test.YtlkifhoedfjlaaaProg
import Derived.Test.YtlkifhoedfjlaaaK1
import Derived.Test.YtlkifhoedfjlaaaK2
import Derived.Test.YtlkifhoedfjlaaaRows
import Derived.ProofKit
import Derived.OpenShut
import Derived.Deep.DeepHandedRow
import Derived.Deep.Slices
import Derived.Lib.SmallJoins
import Derived.Lib.LaidTab
section
namespace Go.Proofs.Ytlkifhoedfjlaaa
open Go.RowKit Word

theorem ret_int {k : IntKind} {a b : Int} (h : a = b) : Ending.returned (.int k a) = .returned (.int k b) := by rw [h]
theorem ret_bool {a b : Bool} (h : a = b) : Ending.returned (.bool a) = .returned (.bool b) := by rw [h]
theorem and64 (a b : Nat) (ha : a < 18446744073709551616) (hb : b < 18446744073709551616) : bits .and .u64 (a : Int) (b : Int) = ((a &&& b : Nat) : Int) := bits_and_u64_nat a b ha hb
theorem wrap_u64_nat (x : Nat) (hx : x < 18446744073709551616) : IntKind.u64.wrap (x : Int) = (x : Int) := IntWalk.u64_in _ (by omega)
theorem wrap_u64_mod (x : Nat) : IntKind.u64.wrap (x : Int) = ((x % 18446744073709551616 : Nat) : Int) := by rw [IntKind.wrap_u64]; omega

/-! math/bits -/
theorem s1_lt (x : Nat) : s1 8 x < 18446744073709551616 := by
  unfold s1
  have h1 : (x / 2) &&& rep 85 8 ≤ rep 85 8 := Nat.and_le_right
  have h2 : x &&& rep 85 8 ≤ rep 85 8 := Nat.and_le_right
  have e : rep 85 8 = 6148914691236517205 := by decide +kernel
  omega
theorem s2_lt (x : Nat) : s2 8 x < 18446744073709551616 / 2 := by
  unfold s2
  have h1 : (x / 4) &&& rep 51 8 ≤ rep 51 8 := Nat.and_le_right
  have h2 : x &&& rep 51 8 ≤ rep 51 8 := Nat.and_le_right
  have e : rep 51 8 = 3689348814741910323 := by decide +kernel
  omega
theorem s3_lt (x : Nat) : s3 8 x < 18446744073709551616 / 2 := by
  unfold s3
  have h2 : (x / 16 + x) &&& rep 15 8 ≤ rep 15 8 := Nat.and_le_right
  have e : rep 15 8 = 1085102592571150095 := by decide +kernel
  omega
theorem oc1 (x : Nat) (hx : x < 18446744073709551616) :
    IntKind.u64.wrap (bits .and .u64 ((x : Int) / 2) 6148914691236517205 + bits .and .u64 (x : Int) 6148914691236517205) = ((s1 8 x : Nat) : Int) := by
  have a1 := and64 (x / 2) 6148914691236517205 (by omega) (by decide)
  have a2 := and64 x 6148914691236517205 hx (by decide)
  rw [show ((x : Int) / 2) = ((x / 2 : Nat) : Int) by omega, show (6148914691236517205 : Int) = ((6148914691236517205 : Nat) : Int) from rfl, a1, a2]
  have e : rep 85 8 = 6148914691236517205 := by decide +kernel
  rw [← Int.natCast_add, ← e]
  exact wrap_u64_nat _ (s1_lt x)
theorem oc2 (x : Nat) (hx : x < 18446744073709551616) :
    IntKind.u64.wrap (bits .and .u64 ((x : Int) / 4) 3689348814741910323 + bits .and .u64 (x : Int) 3689348814741910323) = ((s2 8 x : Nat) : Int) := by
  have a1 := and64 (x / 4) 3689348814741910323 (by omega) (by decide)
  have a2 := and64 x 3689348814741910323 hx (by decide)
  rw [show ((x : Int) / 4) = ((x / 4 : Nat) : Int) by omega, show (3689348814741910323 : Int) = ((3689348814741910323 : Nat) : Int) from rfl, a1, a2]
  have e : rep 51 8 = 3689348814741910323 := by decide +kernel
  rw [← Int.natCast_add, ← e]
  exact wrap_u64_nat _ (by have := s2_lt x; unfold s2 at this; omega)
theorem oc3 (x : Nat) (hx : x < 18446744073709551616 / 2) :
    bits .and .u64 (IntKind.u64.wrap ((x : Int) / 16 + (x : Int))) 1085102592571150095 = ((s3 8 x : Nat) : Int) := by
  have a1 := and64 (x / 16 + x) 1085102592571150095 (by omega) (by decide)
  rw [show ((x : Int) / 16 + (x : Int)) = ((x / 16 + x : Nat) : Int) by omega, wrap_u64_nat _ (by omega), show (1085102592571150095 : Int) = ((1085102592571150095 : Nat) : Int) from rfl, a1]
  have e : rep 15 8 = 1085102592571150095 := by decide +kernel
  unfold s3; rw [e]
theorem oc4 (x d : Nat) (D : Int) (hD : D = (d : Int)) : IntKind.u64.wrap ((x : Int) + (x : Int) / D) = (((x + x / d) % 18446744073709551616 : Nat) : Int) := by
  rw [hD, ← Int.natCast_ediv, ← Int.natCast_add, wrap_u64_mod]
theorem oc5 (x : Nat) (hx : x < 18446744073709551616) : bits .and .i64 (wrap64 (x : Int)) 127 = ((x % 128 : Nat) : Int) := by
  rw [← IntWalk.i64_left]
  have h2 : (BitVec.ofInt 64 (IntKind.i64.wrap (x : Int))).toNat = x := by
    rw [IntKind.wrap_i64, BitVec.toNat_ofInt]; simp; omega
  have h3 : (BitVec.ofInt 64 (127 : Int)).toNat = 127 := by decide
  show IntKind.i64.wrap ((BitVec.ofInt 64 (IntKind.i64.wrap (x : Int)) &&& BitVec.ofInt 64 127).toNat : Int) = _
  rw [BitVec.toNat_and, h2, h3]
  have : x &&& 127 = x % 128 := Nat.and_two_pow_sub_one_eq_mod x 7
  rw [this]
  exact IntWalk.i64_in _ (by omega)

theorem neg_u64 (x : Nat) (h0 : x ≠ 0) (hx : x < 18446744073709551616) : IntKind.u64.wrap (-(x : Int)) = ((18446744073709551616 - x : Nat) : Int) := by
  rw [IntKind.wrap_u64]; omega

theorem len8_at (s : ByteArray) (v : Nat) (h : v < s.size) (hs : s.data.toList.map (fun c => (c.toNat : Int)) = (List.range 256).map (fun i => len i)) : ((s[v]'h).toNat : Int) = len v := by
  have h1 : (s.data.toList.map (fun c => (c.toNat : Int)))[v]? = some ((s[v]'h).toNat : Int) := by
    rw [List.getElem?_map, List.getElem?_eq_getElem (show v < s.data.toList.length from h)]; rfl
  have hl : s.data.toList.length = 256 := by have := congrArg List.length hs; simpa using this
  have hv : v < 256 := by rw [← hl]; exact h
  rw [hs, List.getElem?_map, List.getElem?_range hv] at h1
  simpa using h1.symm
def lenStep (x y : Nat) (n : Int) (k : Nat) : Prop := y < 2 ^ k ∧ len x = n + len y ∧ 0 ≤ n ∧ n + k ≤ 64
theorem lenStep_up {x y : Nat} {n : Int} {k j : Nat} (h : lenStep x y n k) (hk : k ≤ 64) (hy : 2 ^ j ≤ y) (hj2 : k = 2 * j) : lenStep x (y / 2 ^ j) (n + j) j := by
  obtain ⟨h1, h2, h3, h4⟩ := h
  refine ⟨?_, ?_, ?_, ?_⟩
  · refine (Nat.div_lt_iff_lt_mul (Nat.two_pow_pos j)).2 (Nat.lt_of_lt_of_le h1 ?_)
    rw [← Nat.pow_add]; exact Nat.pow_le_pow_right (by decide) (by omega)
  · rw [h2, len_shift (Nat.lt_of_lt_of_le h1 (Nat.pow_le_pow_right (by decide) hk)) hy]; omega
  · omega
  · omega
theorem lenStep_stay {x y : Nat} {n : Int} {k j : Nat} (h : lenStep x y n k) (hj : j ≤ k) (hy : ¬ 2 ^ j ≤ y) : lenStep x y n j := by
  obtain ⟨h1, h2, h3, h4⟩ := h
  exact ⟨by omega, h2, h3, by omega⟩
set_option maxRecDepth 100000 in
set_option maxHeartbeats 800000 in
theorem len_any (x : Nat) (hx : x < 18446744073709551616) (w : World) :
    Calls Try.prog 84 #[.int .u64 (x : Nat)] w fun e w' => e = .returned (.int .i64 (len x)) ∧ w = w' := by
  have hx' : lenStep x x 0 64 := ⟨hx, by omega, by omega, by omega⟩
  clear hx
  go_enter Try.func84, Try.ntmps84
  go_upto_if 4 with (fail)
  go_cut [0, 2] from 3 (fun a b w' => w' = w ∧ ∃ (y : Nat) (n : Int), lenStep x y n 32 ∧ a = .int .u64 y ∧ b = .int .i64 n)
  case first =>
    rcases Nat.lt_or_ge x (2 ^ 32) with h | h
    · have L := lenStep_stay hx' (show 32 ≤ 64 by decide) (by omega)
      have hd : decide ((4294967296 : Int) ≤ (x : Int)) = false := by simp; omega
      clear h hx'
      rw [hd]
      go_wp2
      go_meet
      case rel => exact ⟨rfl, x, 0, L, rfl, rfl⟩
    · have L := lenStep_up (j := 32) hx' (by decide) h (by rfl)
      have hd : decide ((4294967296 : Int) ≤ (x : Int)) = true := by simp; omega
      clear h hx'
      rw [hd]
      go_wp2
      go_meet
      case rel => exact ⟨rfl, _, _, L, by simp, by simp⟩
  case rest =>
    obtain ⟨rfl, y, n, hy, rfl, rfl⟩ := hcut
    go_upto_if 8 with (fail)
    go_cut [0, 2] from 3 (fun a b w' => w' = wc ∧ ∃ (y : Nat) (n : Int), lenStep x y n 16 ∧ a = .int .u64 y ∧ b = .int .i64 n)
    case first =>
      rcases Nat.lt_or_ge y (2 ^ 16) with h | h
      · have L := lenStep_stay hy (show 16 ≤ 32 by decide) (by omega)
        have hd : decide ((65536 : Int) ≤ (y : Int)) = false := by simp; omega
        clear h hy
        rw [hd]
        go_wp2
        go_meet
        case rel => exact ⟨rfl, _, _, L, rfl, rfl⟩
      · have L := lenStep_up (j := 16) hy (by decide) h (by rfl)
        have hd : decide ((65536 : Int) ≤ (y : Int)) = true := by simp; omega
        have hb := hy.2.2
        clear h hy
        rw [hd]
        go_wp2
        go_meet
        case rel => exact ⟨rfl, _, _, L, by simp, by simp⟩
    case rest =>
      obtain ⟨rfl, z, n2, hz, rfl, rfl⟩ := hcut
      go_upto_if 14 with (fail)
      go_cut [0, 2] from 3 (fun a b w' => w' = wc ∧ ∃ (y : Nat) (n : Int), lenStep x y n 8 ∧ a = .int .u64 y ∧ b = .int .i64 n)
      case first =>
        rcases Nat.lt_or_ge z (2 ^ 8) with h | h
        · have L := lenStep_stay hz (show 8 ≤ 16 by decide) (by omega)
          have hd : decide ((256 : Int) ≤ (z : Int)) = false := by simp; omega
          clear h hz
          rw [hd]
          go_wp2
          go_meet
          case rel => exact ⟨rfl, _, _, L, rfl, rfl⟩
        · have L := lenStep_up (j := 8) hz (by decide) h (by rfl)
          have hd : decide ((256 : Int) ≤ (z : Int)) = true := by simp; omega
          have hb := hz.2.2
          clear h hz
          rw [hd]
          go_wp2
          go_meet
          case rel => exact ⟨rfl, _, _, L, by simp, by simp⟩
      case rest =>
        obtain ⟨rfl, v, n3, hv, rfl, rfl⟩ := hcut
        have hb := hv.2.2
        have hv1 : (v : Int) < 256 := by have := hv.1; omega
        go_wp2
        go_ret
        refine ⟨ret_int ?_, rfl⟩
        rw [len8_at _ v _ (by decide +kernel)]
        have b := len_bd v
        rw [IntWalk.wrap64_in (len v) (by omega), IntWalk.wrap64_in _ (by omega)]
        have := hv.2.1
        omega

/-! masks: Count, Next, Last, Pick, Power -/
theorem and_lt (x y : Nat) (hx : x < 18446744073709551616) : x &&& y < 18446744073709551616 := Nat.lt_of_le_of_lt Nat.and_le_left hx

/-- The state of Pick's loop: the search is in a run of d bits from a on. -/
def pickAt (x : Nat) (k d a c : Nat) : Prop := a + d ≤ 64 ∧ cnt x.testBit a + c = k ∧ k < cnt x.testBit (a + d) ∧ ∃ e, d = 2 ^ e
theorem pickAt_end {x k a c : Nat} (h : pickAt x k 1 a c) : pickF x.testBit 64 k = a := by
  obtain ⟨h2, h3, h4, _⟩ := h
  rw [cnt_succ] at h4
  cases hf : x.testBit a with
  | false => rw [hf] at h4; simp at h4; omega
  | true => rw [hf] at h4; simp at h4; exact pickF_eq (by omega) hf (by omega)
theorem pickAt_half {x k d a c : Nat} (h : pickAt x k d a c) : d = 1 ∨ ∃ g, 1 ≤ g ∧ d = 2 * g := by
  obtain ⟨_, _, _, e, rfl⟩ := h
  cases e with
  | zero => exact .inl rfl
  | succ e => exact .inr ⟨2 ^ e, Nat.two_pow_pos e, by rw [Nat.pow_succ]; omega⟩
theorem pow_half {g : Nat} (h : ∃ e, 2 * g = 2 ^ e) : ∃ e, g = 2 ^ e := by
  obtain ⟨e, he⟩ := h
  cases e with
  | zero => exact absurd he (by omega)
  | succ e => exact ⟨e, by rw [Nat.pow_succ] at he; omega⟩
theorem pickAt_low {x k g a c : Nat} (h : pickAt x k (2 * g) a c) (hn : ¬ pc (x &&& runW (a : Int) ((a : Int) + (g : Int))) ≤ c) : pickAt x k g a c := by
  obtain ⟨h2, h3, h4, h5⟩ := h
  have := pc_run x a (a + g) (by omega) (by omega)
  rw [Int.natCast_add] at this
  exact ⟨by omega, h3, by omega, pow_half h5⟩
theorem pickAt_high {x k g a c : Nat} (h : pickAt x k (2 * g) a c) (hn : pc (x &&& runW (a : Int) ((a : Int) + (g : Int))) ≤ c) : pickAt x k g (a + g) (c - pc (x &&& runW (a : Int) ((a : Int) + (g : Int)))) := by
  obtain ⟨h2, h3, h4, h5⟩ := h
  have := pc_run x a (a + g) (by omega) (by omega)
  rw [Int.natCast_add] at this
  exact ⟨by omega, by omega, by rw [Nat.add_assoc, ← Nat.two_mul]; exact h4, pow_half h5⟩

end Go.Proofs.Ytlkifhoedfjlaaa
end

section
namespace Go.Proofs.Ytlkifhoedfjlaaa
open Go.RowKit Word

def powB (n : Int) : Bool := decide (0 < n) && (bits .and .i64 n (n - 1) == 0)
/-- Which blocks may be. -/
def blockOk (n : Int) : Bool := [1, 2, 4, 8, 16, 32, 64, 128, 256, 512, 1024].contains n
theorem pow_small : ∀ m : Fin 1025, powB (m.1 : Int) = blockOk (m.1 : Int) := by decide +kernel
theorem blockOk_pos {n : Int} (h : blockOk n = true) : 1 ≤ n ∧ n ≤ 1024 := by
  simp [blockOk] at h
  omega
theorem blockOk_eq (n : Int) : blockOk n = (powB n && decide (n ≤ 1024)) := by
  by_cases h : 0 ≤ n ∧ n ≤ 1024
  · obtain ⟨m, rfl⟩ : ∃ m : Nat, n = m := ⟨n.toNat, by omega⟩
    have := pow_small ⟨m, by omega⟩
    simp only at this
    rw [this, decide_eq_true h.2, Bool.and_true]
  · cases hb : blockOk n with
    | true => have := blockOk_pos hb; omega
    | false =>
      by_cases h2 : n ≤ 1024
      · unfold powB; rw [decide_eq_false (by omega)]; rfl
      · rw [decide_eq_false h2, Bool.and_false]
end Go.Proofs.Ytlkifhoedfjlaaa
end

section
namespace Go.Proofs.Ytlkifhoedfjlaaa
open Go.ChangeShapes Go.WideShapes Go.ChangeAt Go.RowKit Word

theorem own : ownKnob Try.prog.godebug = none := by kernel_rfl
theorem cellsU8 : Try.prog.cellsOf 5 = 1 := by kernel_rfl
theorem laidOut : laidOutB Try.prog = true := by kernel_rfl

section
variable {H : Type} {enc : TypeId × Value → H} {P : Program} {W W' : World}
/-- Arguments read as before, where nothing that was there has turned. -/
theorem trodAll_stays (hl : laidOutB P = true) : ∀ {ts : List TypeId} {vs : List Value} {ds : List (DataW H)} {ps : List MemPlace}, (∀ t ∈ ts, P.readableRec t = true ∧ t < P.types.size) →
    DataW.TrodAll enc P W 0 (fun _ => true) true ts vs ds ps → Below W.heap.size W W' → (∀ x ∈ ps, x.block < W.heap.size) → DataW.TrodAll enc P W' 0 (fun b => decide (b < W.heap.size)) true ts vs ds ps
  | [], [], [], _, _, h, _, _ => h
  | _ :: _, _ :: _, _ :: _, _, ht, ⟨p, q, h1, h2, e⟩, hb, hp =>
    ⟨p, q, Below.trod hl (ht _ (List.mem_cons.2 (.inl rfl))).1 (ht _ (List.mem_cons.2 (.inl rfl))).2 h1 hb (fun x hx => hp x (by rw [e]; exact List.mem_append_left _ hx)),
      trodAll_stays hl (fun t h => ht t (List.mem_cons.2 (.inr h))) h2 hb (fun x hx => hp x (by rw [e]; exact List.mem_append_right _ hx)), e⟩
end
/-- The end of a law: true is returned, what was there is as it was. -/
theorem law_post {H : Type} {enc : TypeId × Value → H} {f : Func} {s : ChangeSpec} {W W' : World} {args : Array Value} {ds gs : List (DataW H)} {before : List MemPlace}
    (hW : DataW.Whole enc Try.prog f.params.toList s.vars false W args.toList ds gs before) (hv : s.vars = []) (hr : f.resultTypes = #[4]) (hp : ∀ t ∈ f.params.toList, Try.prog.readableRec t = true ∧ t < Try.prog.types.size)
    (hs : s.fn H (ds ++ gs) = { results := [.lit (.bool true)], args := ds }) (hg : Gr W W') : s.post enc Try.prog f false true false false W args (.bool true) W' := by
  have hlt := hW.lt
  have hW0 := hW
  obtain ⟨p, q, hA, hV, rfl, _, _⟩ := hW
  have hb : Below W.heap.size W W' := (hg.touch (fun _ => False)).below (Nat.le_refl _) (fun _ _ h => h)
  rw [hv] at hV
  obtain ⟨rfl, rfl⟩ : gs = [] ∧ q = [] := by
    cases gs with
    | nil => exact ⟨rfl, hV⟩
    | cons g r => exact absurd hV (by intro h; cases h)
  refine ⟨ds, [], p ++ [], [], p, [], hW0, ?_, ?_, ?_, hb.frame _, fun h => by cases h⟩
  · rw [hs, hr]
    exact trodAll_mk1 (shut_bool Try.underlying4 true)
  · rw [hs]
    exact trodAll_stays laidOut hp hA hb (fun x hx => hlt x (List.mem_append_left _ hx))
  · rw [hs, hv]; rfl

theorem spot_of_cell {w : World} {a : Addr} {v : Value} (h : w.cell? a = some v) : a.spot = none := by
  unfold World.cell? at h
  split at h
  · cases hs : a.spot with
    | none => rfl
    | some x => rw [hs] at h; simp at h
  · cases h
theorem lt_of_cell {w : World} {a : Addr} {v : Value} (h : w.cell? a = some v) : a.block < w.heap.size := by
  unfold World.cell? at h
  rcases Nat.lt_or_ge a.block w.heap.size with h1 | h1
  · exact h1
  · rw [Array.getElem?_eq_none h1] at h; cases h
/-- A list out of its elements. -/
theorem list_of {α : Type} (R : Nat → α → Prop) : ∀ n, (∀ i, i < n → ∃ x, R i x) → ∃ l : List α, l.length = n ∧ ∀ i (h : i < l.length), R i l[i]
  | 0, _ => ⟨[], rfl, fun i h => absurd h (by simp)⟩
  | n + 1, h => by
    obtain ⟨l, hl, hR⟩ := list_of R n (fun i hi => h i (by omega))
    obtain ⟨x, hx⟩ := h n (by omega)
    refine ⟨l ++ [x], by simp [hl], fun i hi => ?_⟩
    by_cases e : i < l.length
    · rw [List.getElem_append_left e]; exact hR i e
    · have : i = n := by simp at hi; omega
      subst this
      rw [List.getElem_append_right (by omega)]
      simpa [hl] using hx
end Go.Proofs.Ytlkifhoedfjlaaa
end

section
namespace Go.Proofs.Ytlkifhoedfjlaaa
open Go.RowKit Word

end Go.Proofs.Ytlkifhoedfjlaaa
end
