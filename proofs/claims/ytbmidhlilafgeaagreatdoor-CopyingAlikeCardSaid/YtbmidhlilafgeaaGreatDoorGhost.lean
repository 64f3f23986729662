/- A memory all of whose words are there, by its words. -/
import Derived.Test.YtbmidhlilafgeaaGreatDoorCpRunP
import Derived.Test.YtbmidhlilafgeaaGreatDoorKMB
namespace Go.Proofs.YtbmidhlilafgeaaGreatDoor
open Go.RowKit Word

def mpN (v : Vm) : Nat → Vm
  | 0 => v
  | k + 1 => (mpN v k).mp (k : Nat)
theorem mpN_inv {v : Vm} (h : VmOk v) (hu : v.pl.used = 0) (hl : ∀ p, p < v.pt.length → v.pt.getD p 0 = 0) (hr : v.pt.length ≤ v.pl.rm) {k : Nat} (hk : k ≤ v.pt.length) : Grown v (mpN v k) (List.range k) := by
  induction k with
  | zero => exact Grown.refl h
  | succ k ih =>
    have ih := ih (by omega)
    have hln := ih.len h
    have hz : (mpN v k).pt.getD k 0 = 0 := by
      have := ih.ma k (by omega)
      by_cases h0 : (mpN v k).pt.getD k 0 = 0
      · exact h0
      · rcases this.1 h0 with h1 | h1
        · exact absurd (hl k (by omega)) h1
        · exact absurd (List.mem_range.1 h1) (Nat.lt_irrefl _)
    have hE : (mpN v k).mpE (k : Nat) = 0 := by
      unfold Vm.mpE
      have h1 : pgE (mpN v k).pt (k : Nat) = 0 := by unfold pgE; rw [hln]; exact if_pos (by omega)
      have h2 := ih.us
      rw [List.length_range, hu] at h2
      rw [if_neg (fun h => h h1), Int.toNat_natCast, if_neg (fun h => h hz), if_neg]
      rw [ih.rm]
      omega
    rw [List.range_succ]
    exact ih.mp h hE
def stN (v : Vm) (f : Nat → Nat) : Nat → Vm
  | 0 => v
  | k + 1 => (stN v f k).st (k : Nat) (f k)
structure StGh (v v' : Vm) (f : Nat → Nat) (k : Nat) : Prop where
  ok : VmOk v'
  sm : SamePg v v'
  vl : ∀ a : Nat, a < k → v'.ldV a = f a
theorem stN_inv {v : Vm} (h : VmOk v) (hl : ∀ a : Nat, a < v.n → v.ldE a = 0) {f : Nat → Nat} (hf : ∀ a, f a < 18446744073709551616) {k : Nat} (hk : k ≤ v.n) : StGh v (stN v f k) f k := by
  induction k with
  | zero => exact ⟨h, SamePg.refl v, fun a ha => absurd ha (Nat.not_lt_zero _)⟩
  | succ k ih =>
    have ih := ih (by omega)
    have hE : (stN v f k).ldE (k : Nat) = 0 := by rw [ih.sm.ldE]; exact hl k (by omega)
    refine ⟨ih.ok.st _ (hf k), ih.sm.trans (SamePg.st _ _ _), fun a ha => ?_⟩
    show ((stN v f k).st (k : Nat) (f k)).ldV a = _
    rw [ih.ok.st_ldV _ hE]
    by_cases e : (k : Int) = a
    · rw [if_pos e]
      obtain rfl : k = a := by omega
      rfl
    · rw [if_neg e]
      exact ih.vl a (by omega)
/-- A memory of n words, all there. -/
theorem ghost {n : Nat} (h1 : 1 ≤ n) (h2 : n ≤ 4096) {f : Nat → Nat} (hf : ∀ a, f a < 18446744073709551616) : ∃ u : Vm, FullN n u ∧ ∀ a : Nat, a < n → u.ldV a = f a := by
  have hok : VmOk (Vm.new n 1 n) := VmOk.new (by unfold roomOk; simp; omega) (by decide) h1 (by omega) (Nat.mod_one n)
  have hlen : (Vm.new n 1 n).pt.length = n := by show (List.replicate (n / 1) 0).length = n; rw [List.length_replicate, Nat.div_one]
  have hm := mpN_inv hok rfl (fun p hp => by show (List.replicate (n / 1) 0).getD p 0 = 0; exact rep_getD _ _) (by rw [hlen]; exact Nat.le_refl _) (k := n) (by rw [hlen]; exact Nat.le_refl _)
  have hn : (mpN (Vm.new n 1 n) n).n = n := hm.n
  have hl : ∀ a : Nat, a < n → (mpN (Vm.new n 1 n) n).ldE a = 0 := fun a ha => by
    rw [hm.ldE hok (show a < (Vm.new n 1 n).n from ha), if_pos]
    rw [List.mem_range]
    show a / 1 < n
    rw [Nat.div_one]; exact ha
  have hs := stN_inv hm.ok (fun a ha => hl a (by rw [hn] at ha; exact ha)) hf (k := n) (by rw [hn]; exact Nat.le_refl _)
  exact ⟨_, ⟨hs.ok, hs.sm.n.trans hn, fun a ha => by rw [hs.sm.ldE]; exact hl a ha, h1⟩, hs.vl⟩
/-- What is there of a memory is there in one that has all its words. -/
theorem ghost_wider {n : Nat} {u v : Vm} (hu : FullN n u) (hn : v.n = n) (hv : ∀ a : Nat, a < n → u.ldV a = v.ldV a) : Wider v u := by
  refine ⟨hu.n.trans hn.symm, fun a ha => ?_⟩
  obtain ⟨h0, h1⟩ := ldE_in ha
  obtain ⟨j, rfl⟩ : ∃ j : Nat, a = j := ⟨a.toNat, by omega⟩
  exact ⟨hu.al j (by omega), hv j (by omega)⟩
/-- The order in which objects are met. -/
theorem Wider.ord {v v' : Vm} (h : Wider v v') {rs : List Int} {n : Nat} (hS : Sound v rs n) (k : Nat) : ordC v' rs k = ordC v rs k ∧ ∀ a ∈ ordC v rs k, Rch v rs a := by
  have hp : ∀ b, Rch v rs b → ptsC v' b = ptsC v b ∧ ∀ a ∈ ptsC v b, a ≠ 0 → Rch v rs a := fun b hb => by
    have hrd := hS.rd b hb
    have e := h.rd hrd
    have hpp := hdr_p hrd
    refine ⟨?_, fun a ha h0 => ?_⟩
    · unfold ptsC
      rw [e.2]
      apply List.map_congr_left
      intro i hi
      rw [List.mem_range] at hi
      have hpt := ptV_of (hS.pt b hb i (by omega))
      rw [(h.le _ hpt.2.2.1).2]
    · obtain ⟨i, hi, rfl⟩ := List.getElem_of_mem ha
      rw [ptsC_at] at h0 ⊢
      rw [ptsC_len] at hi
      have hpt := hS.pt b hb i (by omega)
      have he := ptV_of hpt
      exact hb.step ⟨hrd, i, by omega, hpt, by rw [he.1]; omega, by rw [he.1]⟩
  induction k with
  | zero => exact ⟨rfl, rch_adds (fun a h => by cases h) (fun a ha h0 => Rch.root ha h0)⟩
  | succ k ih =>
    unfold ordC
    rw [ih.1]
    split
    · rename_i hk
      have hb : Rch v rs ((ordC v rs k).getD k 0) := ih.2 _ (by rw [List.getD_eq_getElem?_getD, List.getElem?_eq_getElem hk]; exact List.getElem_mem hk)
      obtain ⟨p1, p2⟩ := hp _ hb
      rw [p1]
      exact ⟨rfl, rch_adds ih.2 p2⟩
    · exact ⟨rfl, ih.2⟩
/-- Where an object goes. -/
theorem Wider.went {v v' : Vm} (h : Wider v v') {O : List Int} (hO : ∀ a ∈ O, v.rdE a = 0) (t a : Int) : wentC v' O t a = wentC v O t a := by
  induction O generalizing t with
  | nil => rfl
  | cons b r ih =>
    have e : v'.osz b = v.osz b := by unfold Vm.osz; rw [(h.rd (hO b (List.mem_cons_self ..))).2]
    unfold wentC
    rw [e]
    split
    · rfl
    · exact ih (fun a ha => hO a (List.mem_cons_of_mem _ ha)) _
theorem Wider.sum {v v' : Vm} (h : Wider v v') {O : List Int} (hO : ∀ a ∈ O, v.rdE a = 0) : sumC v' O = sumC v O := by
  induction O with
  | nil => rfl
  | cons b r ih =>
    have e : v'.osz b = v.osz b := by unfold Vm.osz; rw [(h.rd (hO b (List.mem_cons_self ..))).2]
    unfold sumC
    rw [e, ih (fun a ha => hO a (List.mem_cons_of_mem _ ha))]
end Go.Proofs.YtbmidhlilafgeaaGreatDoor
