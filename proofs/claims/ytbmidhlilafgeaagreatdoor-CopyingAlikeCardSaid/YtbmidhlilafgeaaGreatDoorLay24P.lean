/- Layer 24's Lay: the plain law. -/
import Derived.Test.YtbmidhlilafgeaaGreatDoorChk
import Derived.Test.YtbmidhlilafgeaaGreatDoorKM7
import Derived.Test.YtbmidhlilafgeaaGreatDoorKM3
import Derived.Test.YtbmidhlilafgeaaGreatDoorKM6
namespace Go.Proofs.YtbmidhlilafgeaaGreatDoor
open Go.RowKit Word

/-- The data of a heap that is laid. -/
structure LaidC where
  pg : Nat
  H : List Hdr
  P : List Nat
  R : List Nat
  bk : Nat
  st : Nat
  ah : Nat
def hdC (H : List Hdr) (k : Nat) : Hdr := H.getD k ⟨0, 0, 0⟩
/-- The words of the first k headers. -/
def szC (H : List Hdr) : Nat → Nat
  | 0 => 0
  | k + 1 => szC H k + (hdrN (hdC H k)).toNat
def fitC (H : List Hdr) (k : Nat) : Bool := decide (hdrE (hdC H k) = 0) && decide (szC H (k + 1) ≤ 512)
/-- How many headers are laid. -/
def kC (H : List Hdr) : Nat := first (fun k => !fitC H k) H.length
def LaidC.page (x : LaidC) : Nat := 2 ^ (x.pg % 6)
def LaidC.k (x : LaidC) : Nat := kC x.H
def LaidC.top (x : LaidC) : Nat := x.page + szC x.H x.k
def LaidC.cf (x : LaidC) : Cf := ⟨x.page, x.top, x.page + 512, x.page + 1024, 2 ^ (x.bk % 8), x.st % 20 + 1, x.ah % 5⟩
def LaidC.n (x : LaidC) : Nat := x.page + 1024
/-- The frames that are enough. -/
def LaidC.room (x : LaidC) : Nat := (x.top - x.page + x.page - 1) / x.page + (x.ah % 5 + 1) * max 1 (2 ^ (x.bk % 8) / x.page) + 1
theorem pow6 (k : Nat) : 2 ^ (k % 6) = 1 ∨ 2 ^ (k % 6) = 2 ∨ 2 ^ (k % 6) = 4 ∨ 2 ^ (k % 6) = 8 ∨ 2 ^ (k % 6) = 16 ∨ 2 ^ (k % 6) = 32 := by
  have h : k % 6 < 6 := Nat.mod_lt _ (by decide)
  rcases (by omega : k % 6 = 0 ∨ k % 6 = 1 ∨ k % 6 = 2 ∨ k % 6 = 3 ∨ k % 6 = 4 ∨ k % 6 = 5) with e | e | e | e | e | e <;> rw [e] <;> decide
theorem pow8 (k : Nat) : 2 ^ (k % 8) = 1 ∨ 2 ^ (k % 8) = 2 ∨ 2 ^ (k % 8) = 4 ∨ 2 ^ (k % 8) = 8 ∨ 2 ^ (k % 8) = 16 ∨ 2 ^ (k % 8) = 32 ∨ 2 ^ (k % 8) = 64 ∨ 2 ^ (k % 8) = 128 := by
  have h : k % 8 < 8 := Nat.mod_lt _ (by decide)
  rcases (by omega : k % 8 = 0 ∨ k % 8 = 1 ∨ k % 8 = 2 ∨ k % 8 = 3 ∨ k % 8 = 4 ∨ k % 8 = 5 ∨ k % 8 = 6 ∨ k % 8 = 7) with e | e | e | e | e | e | e | e <;> rw [e] <;> decide
theorem fitC_iff {H : List Hdr} {k : Nat} : fitC H k = true ↔ hdrE (hdC H k) = 0 ∧ szC H (k + 1) ≤ 512 := by unfold fitC; simp
theorem kC_fit {H : List Hdr} {j : Nat} (h : j < kC H) : fitC H j = true := by
  have := first_not _ _ j h
  simpa using this
theorem kC_le (H : List Hdr) : kC H ≤ H.length := first_le _ _
theorem kC_end {H : List Hdr} {k : Nat} (hk : k ≤ H.length) (hn : ∀ j, j < k → fitC H j = true) (ha : k < H.length → fitC H k = false) : kC H = k :=
  first_eq hk (fun i hi => by rw [hn i hi]; rfl) (fun h => by rw [ha h]; rfl)
theorem szC_mono (H : List Hdr) {i j : Nat} (h : i ≤ j) : szC H i ≤ szC H j := by
  induction j with
  | zero => rw [Nat.le_zero.1 h]; exact Nat.le_refl _
  | succ j ih =>
    rcases Nat.lt_or_ge j i with h' | h'
    · rw [show i = j + 1 by omega]; exact Nat.le_refl _
    · exact Nat.le_trans (ih h') (Nat.le_add_right _ _)
theorem szC_le (H : List Hdr) : szC H (kC H) ≤ 512 := by
  rcases Nat.eq_zero_or_pos (kC H) with h | h
  · rw [h]; exact Nat.zero_le _
  · have := (fitC_iff.1 (kC_fit (H := H) (j := kC H - 1) (by omega))).2
    rwa [show kC H - 1 + 1 = kC H by omega] at this
/-- A header that is laid. -/
theorem kC_hd {H : List Hdr} {j : Nat} (h : j < kC H) : ∃ p f c : Nat, hdC H j = ⟨p, f, c⟩ ∧ p + f + c ≤ 255 ∧ hdrN (hdC H j) = ((1 + p + f + c : Nat) : Int) ∧ szC H (j + 1) = szC H j + (1 + p + f + c) ∧ szC H (j + 1) ≤ szC H (kC H) := by
  obtain ⟨p, f, c, e, hs⟩ := hdrE_zero (fitC_iff.1 (kC_fit h)).1
  have hN : hdrN (hdC H j) = ((1 + p + f + c : Nat) : Int) := by rw [e, show hdrN ⟨p, f, c⟩ = 1 + (p : Int) + f + c from if_pos (hdrE_of hs)]; push_cast; rfl
  refine ⟨p, f, c, e, hs, hN, ?_, szC_mono H h⟩
  show szC H j + (hdrN (hdC H j)).toNat = _
  rw [hN]; omega
theorem szC_len {H : List Hdr} : kC H ≤ szC H (kC H) := by
  have : ∀ j, j ≤ kC H → j ≤ szC H j := fun j => by
    induction j with
    | zero => intro _; exact Nat.zero_le _
    | succ j ih =>
      intro h
      obtain ⟨p, f, c, -, -, -, h1, -⟩ := kC_hd (H := H) (j := j) h
      have := ih (by omega)
      omega
  exact this _ (Nat.le_refl _)
section
variable (x : LaidC)
theorem LaidC.page_cases : x.page = 1 ∨ x.page = 2 ∨ x.page = 4 ∨ x.page = 8 ∨ x.page = 16 ∨ x.page = 32 := pow6 _
theorem LaidC.page_pos : 1 ≤ x.page ∧ x.page ≤ 32 := by have := x.page_cases; omega
theorem LaidC.top_le : x.page ≤ x.top ∧ x.top ≤ x.page + 512 := by
  have := szC_le x.H
  unfold LaidC.top LaidC.k
  omega
theorem LaidC.cfok : CfOk x.page x.n x.cf := by
  have h1 := x.page_cases
  have h2 := x.top_le
  have h3 := pow8 x.bk
  have h4 : x.st % 20 < 20 := Nat.mod_lt _ (by decide)
  have h5 : x.ah % 5 < 5 := Nat.mod_lt _ (by decide)
  refine ⟨?_, ?_, ?_, ?_, ?_, ?_, ?_, ?_, ?_, ?_, ?_, ?_, ?_⟩
  · show blockOk ((2 ^ (x.bk % 8) : Nat) : Int) = true
    rcases h3 with e | e | e | e | e | e | e | e <;> rw [e] <;> decide
  · show 1 ≤ x.st % 20 + 1 ∧ x.st % 20 + 1 ≤ 4096
    omega
  · show x.ah % 5 ≤ 16
    omega
  · exact Nat.le_refl _
  · exact h2.1
  · show x.top ≤ x.page + 1024
    omega
  · show x.page ≤ x.page + 512
    omega
  · show x.page + 512 ≤ x.page + 1024
    omega
  · exact Nat.le_refl _
  · exact Nat.mod_self _
  · show (x.page + 512) % x.page = 0
    rcases h1 with e | e | e | e | e | e <;> rw [e]
  · show (x.page + 1024) % x.page = 0
    rcases h1 with e | e | e | e | e | e <;> rw [e]
  · rintro ⟨-, -, -, h⟩
    have h : x.page + 512 < (x.top + x.page - 1) / x.page * x.page := h
    rcases h1 with e | e | e | e | e | e <;> rw [e] at h h2 <;> omega
theorem LaidC.room_le : 1 ≤ x.room ∧ x.room ≤ 1200 := by
  have h1 := x.page_cases
  have h2 := x.top_le
  have h3 := pow8 x.bk
  have h5 : x.ah % 5 < 5 := Nat.mod_lt _ (by decide)
  have h6 : (x.ah % 5 + 1) * max 1 (2 ^ (x.bk % 8) / x.page) ≤ 5 * 128 := Nat.mul_le_mul (by omega) (by
    have := Nat.div_le_self (2 ^ (x.bk % 8)) x.page
    omega)
  have h7 : (x.top - x.page + x.page - 1) / x.page ≤ x.top - x.page + x.page - 1 := Nat.div_le_self _ _
  unfold LaidC.room
  generalize (x.ah % 5 + 1) * max 1 (2 ^ (x.bk % 8) / x.page) = c at *
  generalize (x.top - x.page + x.page - 1) / x.page = d at *
  omega
/-- A pointer of an object's number. -/
def LaidC.put (i : Nat) : Nat := if i % 8 = 7 ∨ x.k = 0 then 0 else x.page + szC x.H (i % x.k)
theorem LaidC.put_le (i : Nat) : x.put i ≤ x.top := by
  unfold LaidC.put
  split
  · exact Nat.zero_le _
  · rename_i h
    have := szC_mono x.H (Nat.le_of_lt (Nat.mod_lt i (by omega : 0 < x.k)))
    unfold LaidC.top
    omega
end
/-- A word that is put into a field. -/
def wrdC (n : Nat) : Nat := n * 11400714819323198485 % 18446744073709551616
/-- m fields of an object at a that has p pointers. -/
def fldC (a p : Nat) (s : Vm × Nat × List Int) : Nat → Vm × Nat × List Int
  | 0 => s
  | m + 1 => if m < p then ((fldC a p s m).1, (fldC a p s m).2.1, (fldC a p s m).2.2 ++ [((a + 1 + m : Nat) : Int)]) else ((fldC a p s m).1.st ((a + 1 + m : Nat) : Int) (wrdC ((fldC a p s m).2.1 + 1)), (fldC a p s m).2.1 + 1, (fldC a p s m).2.2)
/-- k objects. -/
def objC (page : Nat) (H : List Hdr) (v : Vm) : Nat → Vm × Nat × List Int
  | 0 => (v, 0, [])
  | k + 1 => fldC (page + szC H k) (hdC H k).p.toNat (mkVm (objC page H v k).1 ((page + szC H k : Nat) : Int) (hdC H k), (objC page H v k).2) ((hdrN (hdC H k)).toNat - 1)
/-- k pointers put into fields. -/
def ptrC (x : LaidC) (F : List Int) (v : Vm) : Nat → Vm
  | 0 => v
  | k + 1 => (ptrC x F v k).st (F.getD ((x.P.getD (2 * k) 0 + 2 * k) % F.length) 0) (x.put (x.P.getD (2 * k + 1) 0))
def LaidC.fields (x : LaidC) (v0 : Vm) : List Int := (objC x.page x.H v0 x.k).2.2
/-- The memory that is laid. -/
def layC (x : LaidC) (v0 : Vm) : Vm := if x.fields v0 = [] then (objC x.page x.H v0 x.k).1 else ptrC x (x.fields v0) (objC x.page x.H v0 x.k).1 (x.P.length / 2)
def LaidC.nr (x : LaidC) : Nat := max 1 (min x.R.length 64)
/-- The roots, i of them set. -/
def LaidC.rsN (x : LaidC) (i : Nat) : List Int := (List.range x.nr).map fun j => if j < i ∧ j < x.R.length then ((x.put (x.R.getD j 0) : Nat) : Int) else 0
def LaidC.rs (x : LaidC) : List Int := x.rsN x.nr
theorem LaidC.rsN_len (x : LaidC) (i : Nat) : (x.rsN i).length = x.nr := by simp [LaidC.rsN]
theorem LaidC.rsN_zero (x : LaidC) : x.rsN 0 = List.replicate x.nr 0 := by
  unfold LaidC.rsN
  apply List.ext_getElem
  · simp
  · intro i h1 h2; simp
theorem LaidC.rsN_skip (x : LaidC) {i : Nat} (h : ¬ i < x.R.length) : x.rsN (i + 1) = x.rsN i := by
  unfold LaidC.rsN
  apply List.map_congr_left
  intro j _
  by_cases hj : j < x.R.length
  · by_cases hi : j < i
    · rw [if_pos ⟨by omega, hj⟩, if_pos ⟨hi, hj⟩]
    · omega
  · rw [if_neg (fun h => hj h.2), if_neg (fun h => hj h.2)]
theorem LaidC.rsN_set (x : LaidC) {i : Nat} (h : i < x.R.length) : (x.rsN i).set i ((x.put (x.R.getD i 0) : Nat) : Int) = x.rsN (i + 1) := by
  apply List.ext_getElem
  · simp [LaidC.rsN]
  · intro j h1 h2
    rw [List.getElem_set]
    simp only [LaidC.rsN, List.getElem_map, List.getElem_range]
    by_cases e : i = j
    · subst e
      rw [if_pos rfl, if_pos ⟨by omega, h⟩]
    · rw [if_neg e]
      by_cases hj : j < x.R.length
      · by_cases hi : j < i
        · rw [if_pos ⟨hi, hj⟩, if_pos ⟨by omega, hj⟩]
        · rw [if_neg (by omega), if_neg (by omega)]
      · rw [if_neg (fun h => hj h.2), if_neg (fun h => hj h.2)]
theorem LaidC.nr_le (x : LaidC) : 1 ≤ x.nr ∧ x.nr ≤ 64 := by unfold LaidC.nr; omega
/-! The same pages all along. -/
theorem wrdC_lt (n : Nat) : wrdC n < 18446744073709551616 := Nat.mod_lt _ (by decide)
structure Stays (v v' : Vm) : Prop where
  ok : VmOk v'
  sm : SamePg v v'
theorem Stays.refl {v : Vm} (h : VmOk v) : Stays v v := ⟨h, SamePg.refl v⟩
theorem Stays.trans {a b c : Vm} (h : Stays a b) (k : Stays b c) : Stays a c := ⟨k.ok, h.sm.trans k.sm⟩
theorem Stays.st {v v' : Vm} (h : Stays v v') (a : Int) {x : Nat} (hx : x < 18446744073709551616) : Stays v (v'.st a x) := ⟨h.ok.st a hx, h.sm.trans (SamePg.st _ _ _)⟩
theorem Stays.mkV {v v' : Vm} (h : Stays v v') (a : Int) {x : Nat} (hx : x < 18446744073709551616) (m : Nat) : Stays v (mkV v' a x m) := by
  induction m with
  | zero => exact h.st a hx
  | succ m ih => exact ih.st _ (by decide)
theorem Stays.mkVm {v v' : Vm} (h : Stays v v') (a : Int) (hd : Hdr) : Stays v (mkVm v' a hd) := by
  unfold Go.Proofs.YtbmidhlilafgeaaGreatDoor.mkVm
  split
  · rename_i h0
    unfold mkRes at h0
    split at h0
    · cases h0
    · split at h0
      · cases h0
      · rename_i h1
        obtain ⟨p, f, c, rfl, hs⟩ := hdrE_zero (Decidable.not_not.1 h1)
        exact h.mkV a (hdrW_lt (by simpa using hs)) _
  · exact h
theorem Stays.fldC {v : Vm} (a p : Nat) {s : Vm × Nat × List Int} (h : Stays v s.1) (m : Nat) : Stays v (fldC a p s m).1 ∧ (fldC a p s m).2.1 + (fldC a p s m).2.2.length = s.2.1 + s.2.2.length + m := by
  induction m with
  | zero => exact ⟨h, rfl⟩
  | succ m ih =>
    unfold Go.Proofs.YtbmidhlilafgeaaGreatDoor.fldC
    split
    · exact ⟨ih.1, by simp only [List.length_append, List.length_singleton]; omega⟩
    · exact ⟨ih.1.st _ (wrdC_lt _), by dsimp only; omega⟩
theorem Stays.objC {v : Vm} (h : VmOk v) (page : Nat) (H : List Hdr) (k : Nat) : Stays v (objC page H v k).1 ∧ (objC page H v k).2.1 + (objC page H v k).2.2.length ≤ szC H k := by
  induction k with
  | zero => exact ⟨Stays.refl h, Nat.le_refl _⟩
  | succ k ih =>
    have e1 : Go.Proofs.YtbmidhlilafgeaaGreatDoor.objC page H v (k + 1) = Go.Proofs.YtbmidhlilafgeaaGreatDoor.fldC (page + szC H k) (hdC H k).p.toNat (Go.Proofs.YtbmidhlilafgeaaGreatDoor.mkVm (Go.Proofs.YtbmidhlilafgeaaGreatDoor.objC page H v k).1 ((page + szC H k : Nat) : Int) (hdC H k), (Go.Proofs.YtbmidhlilafgeaaGreatDoor.objC page H v k).2) ((hdrN (hdC H k)).toNat - 1) := rfl
    have e2 : szC H (k + 1) = szC H k + (hdrN (hdC H k)).toNat := rfl
    rw [e1, e2]
    have := Stays.fldC (v := v) (page + szC H k) (hdC H k).p.toNat (s := (Go.Proofs.YtbmidhlilafgeaaGreatDoor.mkVm (Go.Proofs.YtbmidhlilafgeaaGreatDoor.objC page H v k).1 ((page + szC H k : Nat) : Int) (hdC H k), (Go.Proofs.YtbmidhlilafgeaaGreatDoor.objC page H v k).2)) (ih.1.mkVm _ _) ((hdrN (hdC H k)).toNat - 1)
    refine ⟨this.1, ?_⟩
    have h2 := this.2
    have h3 := ih.2
    dsimp only at h2
    omega
theorem put_lt (x : LaidC) (i : Nat) : x.put i < 18446744073709551616 := by have := x.put_le i; have := x.top_le; have := x.page_pos; omega
theorem Stays.ptrC {v v' : Vm} (h : Stays v v') (x : LaidC) (F : List Int) (k : Nat) : Stays v (ptrC x F v' k) := by
  induction k with
  | zero => exact h
  | succ k ih => exact ih.st _ (put_lt x _)
theorem Stays.layC {v : Vm} (h : VmOk v) (x : LaidC) : Stays v (layC x v) := by
  unfold Go.Proofs.YtbmidhlilafgeaaGreatDoor.layC
  split
  · exact (Stays.objC h _ _ _).1
  · exact (Stays.objC h _ _ _).1.ptrC _ _ _
/-- The frames of a new memory in which the pages of a run are mapped. -/
structure Run24 (x : LaidC) (rm : Nat) (v : Vm) : Prop where
  ok : VmOk v
  n : v.n = x.n
  pg : v.pl.pg = x.page
  rm : v.pl.rm = rm
  us : v.pl.used = (x.top - 1) / x.page
  le : ∀ a : Nat, a < x.n → v.ldE a = if x.page ≤ a ∧ a < upN x.top x.page then 0 else 12
theorem Run24.stays {x : LaidC} {rm : Nat} {v v' : Vm} (h : Run24 x rm v) (s : Stays v v') : Run24 x rm v' :=
  ⟨s.ok, s.sm.n.trans h.n, s.sm.pg.trans h.pg, s.sm.rm.trans h.rm, by rw [s.ok.us, s.sm.pt, ← h.ok.us]; exact h.us, fun a ha => by rw [s.sm.ldE]; exact h.le a ha⟩
theorem new24_ok {x : LaidC} {rm : Nat} (h1 : 1 ≤ rm) (h2 : rm ≤ 4096) : roomOk rm = true ∧ pageOk x.page = true ∧ x.n % x.page = 0 ∧ x.n ≤ 524288 ∧ VmOk (Vm.new x.n x.page rm) := by
  have hp := x.page_cases
  have a1 : roomOk rm = true := by unfold roomOk; simp; omega
  have a2 : pageOk x.page = true := by rcases hp with e | e | e | e | e | e <;> rw [e] <;> decide
  have a3 : x.n % x.page = 0 := by unfold LaidC.n; rcases hp with e | e | e | e | e | e <;> rw [e]
  have a4 : x.n ≤ 524288 := by unfold LaidC.n; omega
  exact ⟨a1, a2, a3, a4, VmOk.new a1 a2 (by unfold LaidC.n; omega) a4 a3⟩
theorem unm_new (n pg rm p0 k : Nat) : unmL (Vm.new n pg rm) p0 k = List.range' p0 k := by
  unfold unmL
  rw [List.filter_eq_self]
  intro p _
  show ((List.replicate (n / pg) 0).getD p 0 == 0) = true
  rw [rep_getD]; rfl
theorem need24 {x : LaidC} {rm : Nat} (hrm : x.room ≤ rm) (ht : x.page < x.top) : needE (Vm.new x.n x.page rm) x.page x.top = 0 ∧ needF (Vm.new x.n x.page rm) x.page x.top = List.range' 1 ((x.top - 1) / x.page) := by
  have hp := x.page_pos
  have h2 := x.top_le
  have hu : (Vm.new x.n x.page rm).pl.used = 0 := rfl
  have e1 : pgsN (Vm.new x.n x.page rm) x.page x.top = (x.top - 1) / x.page := by
    unfold pgsN
    show (((x.top : Int) - 1) / (x.page : Int) - (x.page : Int) / (x.page : Int) + 1).toNat = _
    rw [show (x.top : Int) - 1 = ((x.top - 1 : Nat) : Int) by omega, ← Int.natCast_ediv, Int.ediv_self (by omega)]
    generalize (x.top - 1) / x.page = d
    omega
  have e2 : (((x.page : Nat) : Int) / ((Vm.new x.n x.page rm).pl.pg : Int)).toNat = 1 := by
    show (((x.page : Nat) : Int) / (x.page : Int)).toNat = 1
    rw [Int.ediv_self (by omega)]; rfl
  have e3 : unmL (Vm.new x.n x.page rm) 1 ((x.top - 1) / x.page) = List.range' 1 ((x.top - 1) / x.page) := unm_new _ _ _ _ _
  have hE : needE (Vm.new x.n x.page rm) x.page x.top = 0 := by
    unfold needE
    rw [if_neg (by show ¬ ((x.page : Int) < 0 ∨ ((x.n : Nat) : Int) < (x.top : Int)); unfold LaidC.n; omega), if_neg (by omega), e1, e2, e3, List.length_range', hu]
    refine if_pos ?_
    show 0 + (x.top - 1) / x.page ≤ rm
    have : (x.top - 1) / x.page ≤ x.room := by
      unfold LaidC.room
      rw [show x.top - x.page + x.page - 1 = x.top - 1 by omega]
      exact Nat.le_trans (Nat.le_add_right _ _) (Nat.le_add_right _ _)
    rw [Nat.zero_add]
    exact Nat.le_trans this hrm
  refine ⟨hE, ?_⟩
  unfold needF
  rw [if_pos ⟨hE, by omega⟩, e1, e2, e3]
theorem pages24 {x : LaidC} {a : Nat} (h : x.page < x.top) : (x.page ≤ a ∧ a < upN x.top x.page) ↔ a / x.page ∈ List.range' 1 ((x.top - 1) / x.page) := by
  have hp := x.page_pos
  rw [List.mem_range'_1]
  have e1 : upN x.top x.page = ((x.top - 1) / x.page + 1) * x.page := by
    unfold upN
    rw [show x.top + x.page - 1 = x.top - 1 + x.page by omega, Nat.add_div_right _ (by omega)]
  rw [e1]
  have h1 : x.page ≤ a ↔ 1 ≤ a / x.page := by rw [Nat.le_div_iff_mul_le (by omega)]; omega
  have h2 : a < ((x.top - 1) / x.page + 1) * x.page ↔ a / x.page < (x.top - 1) / x.page + 1 := by rw [Nat.div_lt_iff_lt_mul (by omega)]
  rw [h1, h2]
  omega
theorem run24_grown {x : LaidC} {rm : Nat} (h1 : 1 ≤ rm) (h2 : rm ≤ 4096) (hrm : x.room ≤ rm) (ht : x.page < x.top) {v : Vm} (h : Grown (Vm.new x.n x.page rm) v (needF (Vm.new x.n x.page rm) x.page x.top)) : Run24 x rm v ∧ ∀ a : Nat, a < x.n → v.ldV a = 0 := by
  obtain ⟨-, -, -, -, hok⟩ := new24_ok (x := x) h1 h2
  rw [(need24 hrm ht).2] at h
  have hz : ∀ a : Nat, a < x.n → (Vm.new x.n x.page rm).ldE a = 12 := fun a ha => by
    rw [hok.ldE_of ha]
    refine if_pos ?_
    show (List.replicate (x.n / x.page) 0).getD (a / x.page) 0 = 0
    exact rep_getD _ _
  refine ⟨⟨h.ok, h.n, h.pg, h.rm, by rw [h.us, List.length_range']; show 0 + _ = _; omega, fun a ha => ?_⟩, fun a ha => ?_⟩
  · rw [h.ldE hok ha, hz a ha]
    by_cases hh : a / x.page ∈ List.range' 1 ((x.top - 1) / x.page)
    · rw [if_pos (show a / (Vm.new x.n x.page rm).pl.pg ∈ _ from hh), if_pos ((pages24 ht).2 hh)]
    · rw [if_neg (show ¬ a / (Vm.new x.n x.page rm).pl.pg ∈ _ from hh), if_neg (fun h => hh ((pages24 ht).1 h))]
  · rw [h.vl a ha]
    split
    · rfl
    · unfold Vm.ldV
      rw [hz a ha]; rfl
theorem run24_none {x : LaidC} {rm : Nat} (h1 : 1 ≤ rm) (h2 : rm ≤ 4096) (ht : ¬ x.page < x.top) : Run24 x rm (Vm.new x.n x.page rm) ∧ ∀ a : Nat, a < x.n → (Vm.new x.n x.page rm).ldV a = 0 := by
  obtain ⟨-, -, -, -, hok⟩ := new24_ok (x := x) h1 h2
  have hp := x.page_pos
  have h3 := x.top_le
  have e : x.top = x.page := by omega
  have hz : ∀ a : Nat, a < x.n → (Vm.new x.n x.page rm).ldE a = 12 := fun a ha => by
    rw [hok.ldE_of ha]
    refine if_pos ?_
    show (List.replicate (x.n / x.page) 0).getD (a / x.page) 0 = 0
    exact rep_getD _ _
  refine ⟨⟨hok, rfl, rfl, rfl, ?_, fun a ha => ?_⟩, fun a ha => ?_⟩
  · rw [e, Nat.div_eq_of_lt (by omega)]; rfl
  · rw [hz a ha, if_neg]
    rintro ⟨h1, h2⟩
    rw [e] at h2
    unfold upN at h2
    rw [show x.page + x.page - 1 = (x.page - 1) + x.page by omega, Nat.add_div_right _ (by omega), Nat.div_eq_of_lt (by omega)] at h2
    omega
  · unfold Vm.ldV
    rw [hz a ha]; rfl
end Go.Proofs.YtbmidhlilafgeaaGreatDoor
