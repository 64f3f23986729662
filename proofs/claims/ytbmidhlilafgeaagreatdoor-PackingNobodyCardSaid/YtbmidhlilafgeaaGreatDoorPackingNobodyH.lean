/- Part 8 of what PackingNobody leans on: my own lemmas, merged by shake.py. -/
import Derived.Test.YtbmidhlilafgeaaGreatDoorPackingNobodyG
import Derived.Deep.CutBlock
import Derived.Deep.DeepCutAuto
section
section
namespace Go.Proofs.YtbmidhlilafgeaaGreatDoor
open Go.RowKit Word

end Go.Proofs.YtbmidhlilafgeaaGreatDoor
end

section
namespace Go.Proofs.YtbmidhlilafgeaaGreatDoor
open Go.RowKit Word
end Go.Proofs.YtbmidhlilafgeaaGreatDoor
end

section
section
namespace Go.Proofs.YtbmidhlilafgeaaGreatDoor
open Go.RowKit Word

/-- The kinds of all fields. -/
def kl (p f k : Nat) : List Int := List.replicate p 1 ++ List.replicate f 2 ++ List.replicate k 3
end Go.Proofs.YtbmidhlilafgeaaGreatDoor
end

section
namespace Go.Proofs.YtbmidhlilafgeaaGreatDoor
open Go.RowKit Word

end Go.Proofs.YtbmidhlilafgeaaGreatDoor
end
end

section
namespace Go.Proofs.YtbmidhlilafgeaaGreatDoor
open Go.RowKit Word

/-- The first k words of a memory. -/
def wrds (v : Vm) (k : Nat) : List Value := (List.range k).map fun a : Nat => .int .u64 (v.ldV a : Nat)
theorem wrds_succ (v : Vm) (k : Nat) : wrds v (k + 1) = wrds v k ++ [.int .u64 (v.ldV k : Nat)] := by unfold wrds; rw [List.range_succ, List.map_append]; rfl
/-- The words of a memory, in a row. -/
def Wrds (w : World) (A : Option Addr) (cp M : Nat) (v : Vm) : Prop := w.ownsRow 0 50 1 (.slice A M cp) M (wrds v M)
section
variable {w : World} {A : Option Addr} {cp M : Nat} {v : Vm}
end
end Go.Proofs.YtbmidhlilafgeaaGreatDoor
end
end
section
namespace Go.Proofs.YtbmidhlilafgeaaGreatDoor
open Go.RowKit Word

/-- An object that is reached: its header and its pointers. -/
theorem rch_obj {v : Vm} {rs : List Int} {n : Nat} (hS : Sound v rs n) {a : Int} (ha : Rch v rs a) :
    ∃ b p f k : Nat, a = b ∧ v.rdE a = 0 ∧ v.rdH a = ⟨p, f, k⟩ ∧ p + f + k ≤ 255 ∧ (b : Int) + (1 + p + f + k) ≤ n ∧ 0 < b ∧ v.osz a = 1 + (p : Int) + f + k ∧
      ∀ m : Nat, m < p → v.ldE (a + 1 + m) = 0 ∧ v.ldV (a + 1 + m) ≤ 2147483647 ∧ (v.ldV (a + 1 + m) ≠ 0 → Rch v rs (v.ldV (a + 1 + m) : Nat)) := by
  have hrd := hS.rd a ha
  obtain ⟨h0, -, p, f, k, hh, hs⟩ := rdE_zero hrd
  obtain ⟨b, rfl⟩ : ∃ b : Nat, a = b := ⟨a.toNat, by omega⟩
  have ho : v.osz b = 1 + (p : Int) + f + k := by unfold Vm.osz; rw [hh]; exact if_pos (hdrE_of hs)
  have hin := hS.rm b ha
  refine ⟨b, p, f, k, rfl, hrd, hh, hs, by omega, by omega, ho, fun m hm => ?_⟩
  have hm' : (m : Int) < (v.rdH b).p := by rw [hh]; show (m : Int) < (p : Int); omega
  have hpt := hS.pt b ha m hm'
  have he := ptV_of hpt
  refine ⟨he.2.2.1, he.2.1, fun h0 => ?_⟩
  exact ha.step ⟨hrd, m, hm', hpt, by rw [he.1]; exact h0, by rw [he.1]⟩
section
variable {w : World} {A0 A : Option Addr} {cp cr M : Nat} {v : Vm} {rs : List Int} {L : List Ob}
end
end Go.Proofs.YtbmidhlilafgeaaGreatDoor
end
section
namespace Go.Proofs.YtbmidhlilafgeaaGreatDoor
open Go.RowKit Word

/-- What a word of an object becomes. -/
def pkW (v : Vm) (L : List Ob) (fr a m : Nat) : Nat := if (1 ≤ m ∧ (m : Int) ≤ (v.rdH a).p) ∧ v.ldV ((a : Int) + m) ≠ 0 then (toV L fr (v.ldV ((a : Int) + m) : Nat)).toNat else v.ldV ((a : Int) + m)
def rowP (v : Vm) (L : List Ob) (fr : Nat) : List Ob → List Nat
  | [] => []
  | o :: r => (List.range o.2).map (pkW v L fr o.1) ++ rowP v L fr r
theorem rowP_get (v : Vm) (L : List Ob) (fr : Nat) (P : List Ob) {j m : Nat} (hj : j < P.length) (hm : m < P[j].2) : (rowP v L fr P).getD (sizes (P.take j) + m) 0 = pkW v L fr P[j].1 m := by
  induction P generalizing j with
  | nil => simp at hj
  | cons o r ih =>
    cases j with
    | zero =>
      have hm : m < o.2 := hm
      simp only [List.take_zero, sizes, Nat.zero_add, rowP, List.getElem_cons_zero]
      rw [List.getD_eq_getElem?_getD, List.getElem?_append_left (by simpa using hm), List.getElem?_map, List.getElem?_range hm]
      rfl
    | succ j =>
      have hj' : j < r.length := by simpa using hj
      have := ih hj' (by simpa using hm)
      simp only [List.take_succ_cons, sizes, rowP, List.getElem_cons_succ]
      rw [← this, List.getD_eq_getElem?_getD, List.getElem?_append_right (by simp; omega), List.getD_eq_getElem?_getD]
      congr 2
      simp
      omega
/-- All objects lie from an address on. -/
theorem pk_le {n : Nat} {L : List Ob} (hg : Good n L) {fr : Nat} (hf : ∀ o ∈ L, fr ≤ o.1) {j : Nat} (hj : j < L.length) : fr + sizes (L.take j) ≤ L[j].1 := by
  induction j with
  | zero => simpa [sizes] using hf _ (List.getElem_mem hj)
  | succ j ih =>
    have h1 := ih (by omega)
    have h2 := hg.at (by omega) hj (Nat.lt_succ_self j)
    have h3 := sizes_take (L := L) (j := j) (by omega)
    omega
theorem rd_congr {v v' : Vm} {a : Int} (h1 : v'.ldE a = v.ldE a) (h2 : v'.ldV a = v.ldV a) : v'.rdE a = v.rdE a ∧ v'.rdH a = v.rdH a := by
  unfold Vm.rdE Vm.rdH
  rw [h1, h2]
  exact ⟨rfl, rfl⟩
/-- So many words are moved. -/
structure Pkd (v v' : Vm) (L : List Ob) (fr k : Nat) : Prop where
  ok : VmOk v'
  sm : SamePg v v'
  out : ∀ b : Nat, (b < fr ∨ fr + k ≤ b) → v'.ldV b = v.ldV b
  row : ∀ i, i < k → v'.ldV ((fr + i : Nat) : Int) = (rowP v L fr L).getD i 0
theorem Pkd.zero {v : Vm} (h : VmOk v) (L : List Ob) (fr : Nat) : Pkd v v L fr 0 := ⟨h, SamePg.refl v, fun _ _ => rfl, fun _ h => absurd h (Nat.not_lt_zero _)⟩
theorem Pkd.step {v v' : Vm} {L : List Ob} {fr k : Nat} (h : Pkd v v' L fr k) (hl : v.ldE ((fr + k : Nat) : Int) = 0) {x : Nat} (hx : x = (rowP v L fr L).getD k 0) (hx2 : x < 18446744073709551616) : Pkd v (v'.st ((fr + k : Nat) : Int) x) L fr (k + 1) := by
  have hl' : v'.ldE ((fr + k : Nat) : Int) = 0 := by rw [h.sm.ldE]; exact hl
  have hst := h.ok.st_ldV x hl'
  refine ⟨h.ok.st _ hx2, h.sm.trans (SamePg.st _ _ _), fun b hb => ?_, fun i hi => ?_⟩
  · rw [hst, if_neg (by omega)]
    exact h.out b (by omega)
  · rw [hst]
    by_cases e : i = k
    · rw [if_pos (by omega), e, hx]
    · rw [if_neg (by omega)]
      exact h.row i (by omega)
/-- What packing knows. -/
structure PkCtx (v : Vm) (rs : List Int) (L : List Ob) (fr tp : Nat) : Prop where
  ok : VmOk v
  mks : Marks v rs v.n L
  inn : ∀ o ∈ L, fr ≤ o.1 ∧ o.1 + o.2 ≤ tp
  fr1 : 1 ≤ fr
  tpn : tp ≤ v.n
  lds : ∀ a : Nat, fr ≤ a → a < fr + sizes L → v.ldE a = 0
section
variable {v v' : Vm} {rs : List Int} {L : List Ob} {fr tp : Nat}
theorem PkCtx.le (c : PkCtx v rs L fr tp) {j : Nat} (hj : j < L.length) : fr + sizes (L.take j) ≤ L[j].1 := pk_le c.mks.mkd.good (fun o ho => (c.inn o ho).1) hj
theorem PkCtx.sz (_c : PkCtx v rs L fr tp) {j : Nat} (hj : j < L.length) : sizes (L.take (j + 1)) = sizes (L.take j) + L[j].2 ∧ sizes (L.take j) + L[j].2 ≤ sizes L := by
  exact ⟨sizes_take hj, sizes_mid hj⟩
/-- An object's words, while it is moved. -/
theorem Pkd.src (c : PkCtx v rs L fr tp) {j m : Nat} (hj : j < L.length) (h : Pkd v v' L fr (sizes (L.take j) + m)) : v'.ldV ((L[j].1 + m : Nat) : Int) = v.ldV ((L[j].1 + m : Nat) : Int) ∧ v'.ldE ((L[j].1 + m : Nat) : Int) = v.ldE ((L[j].1 + m : Nat) : Int) := by
  have := c.le hj
  exact ⟨h.out _ (by omega), h.sm.ldE _⟩
theorem Pkd.hdr (c : PkCtx v rs L fr tp) {j : Nat} (hj : j < L.length) (h : Pkd v v' L fr (sizes (L.take j))) : v'.rdE (L[j].1 : Nat) = 0 ∧ v'.rdH (L[j].1 : Nat) = v.rdH (L[j].1 : Nat) := by
  obtain ⟨h1, h2⟩ := Pkd.src (m := 0) c hj h
  obtain ⟨e1, e2⟩ := rd_congr h2 h1
  exact ⟨e1.trans (c.mks.mkd.ats _ (List.getElem_mem hj)).2.1, e2⟩
/-- The header of an object. -/
theorem PkCtx.hd (c : PkCtx v rs L fr tp) {j : Nat} (hj : j < L.length) : ∃ p f k : Nat, v.rdH (L[j].1 : Nat) = ⟨p, f, k⟩ ∧ p + f + k ≤ 255 ∧ L[j].2 = 1 + p + f + k := by
  obtain ⟨h1, h2, h3⟩ := c.mks.mkd.ats _ (List.getElem_mem hj)
  obtain ⟨b, p, f, k, he, -, hh, hs, -, -, hz, -⟩ := rch_obj c.mks.sound h1
  exact ⟨p, f, k, hh, hs, by omega⟩
theorem toV_hs (c : PkCtx v rs L fr tp) {a : Int} (ha : Hs L a) : ∃ j, ∃ hj : j < L.length, (L[j].1 : Int) = a ∧ toV L fr a = ((fr + sizes (L.take j) : Nat) : Int) := by
  obtain ⟨o, ho, he⟩ := ha
  obtain ⟨j, hj, rfl⟩ := List.getElem_of_mem ho
  refine ⟨j, hj, he, ?_⟩
  have h1 := (c.mks.mkd.good.sz _ (List.getElem_mem hj)).1
  have := (toV_at c.mks.mkd.good (base := fr) hj (a := a) (by omega) (by omega)).1
  rw [this]
  omega
theorem toV_zero (c : PkCtx v rs L fr tp) : toV L fr 0 = 0 := by
  have h : ¬ findO L 0 < L.length := fun h => by
    have h1 := findO_yes h
    have h2 := (c.inn _ (List.getElem_mem h)).1
    have := c.fr1
    omega
  exact (toV_no h).1
/-- A pointer of an object is nil or an object. -/
theorem PkCtx.ptr (c : PkCtx v rs L fr tp) {j m : Nat} (hj : j < L.length) (h1 : 1 ≤ m) (h2 : (m : Int) ≤ (v.rdH (L[j].1 : Nat)).p) : v.ldV ((L[j].1 + m : Nat) : Int) ≤ 2147483647 ∧ (v.ldV ((L[j].1 + m : Nat) : Int) ≠ 0 → Hs L (v.ldV ((L[j].1 + m : Nat) : Int) : Nat)) := by
  obtain ⟨hr, -, -⟩ := c.mks.mkd.ats _ (List.getElem_mem hj)
  obtain ⟨b, p, f, k, he, -, hh, hs, -, -, hz, hp⟩ := rch_obj c.mks.sound hr
  rw [hh] at h2
  have := hp (m - 1) (by have : (m : Int) ≤ (p : Int) := h2; omega)
  rw [show ((L[j].1 : Nat) : Int) + 1 + ((m - 1 : Nat) : Int) = ((L[j].1 + m : Nat) : Int) by omega] at this
  exact ⟨this.2.1, fun h0 => c.mks.all _ (this.2.2 h0)⟩
theorem pkW_at (v : Vm) (L : List Ob) (fr a m : Nat) {x : Nat} (hx : v.ldV ((a + m : Nat) : Int) = x) : pkW v L fr a m = if (1 ≤ m ∧ (m : Int) ≤ (v.rdH a).p) ∧ x ≠ 0 then (toV L fr (x : Nat)).toNat else x := by
  unfold pkW
  rw [show (a : Int) + (m : Int) = ((a + m : Nat) : Int) by omega, hx]
theorem PkCtx.pkW_lt (c : PkCtx v rs L fr tp) {j m : Nat} (hj : j < L.length) : pkW v L fr L[j].1 m < 18446744073709551616 := by
  rw [pkW_at v L fr _ m rfl]
  have hx := c.ok.ldV_lt ((L[j].1 + m : Nat) : Int)
  split
  · rename_i h
    obtain ⟨i, hi, -, e⟩ := toV_hs c ((c.ptr hj h.1.1 h.1.2).2 h.2)
    rw [e, Int.toNat_natCast]
    have := (c.sz hi).2
    have := sizes_le c.mks.mkd.good
    have := c.ok.n2
    have := c.tpn
    have := c.le hi
    have := c.inn _ (List.getElem_mem hi)
    omega
  · exact hx
end
end Go.Proofs.YtbmidhlilafgeaaGreatDoor
end
section
namespace Go.Proofs.YtbmidhlilafgeaaGreatDoor
open Go.RowKit Word

section
variable {w : World} {S : Nat → Prop} {q F f n B : Nat} {v v' : Vm} {rs : List Int} {L : List Ob} {fr tp j : Nat}
def MoveEnd (w : World) (S : Nat → Prop) (q : Nat) (v : Vm) (L : List Ob) (fr k : Nat) (e : Ending) (w' : World) : Prop :=
  e = .returned (.tuple #[]) ∧ Touch (cutS S w) w w' ∧ ∃ v'', VmAt w' (cutS S w) q v'' ∧ Pkd v v'' L fr k
theorem kind_not {p f k : Nat} {i : Int} (h : ¬ (0 ≤ i ∧ i < p)) : kindOf ⟨p, f, k⟩ i ≠ 1 := by
  unfold kindOf
  split
  · rename_i h0
    rw [if_neg (by show ¬ i < (p : Int); omega)]
    split <;> decide
  · decide
set_option maxRecDepth 100000 in
set_option maxHeartbeats 3200000 in
theorem pk_move (hV : VmAt w S q v') (hF : ∀ W, Touch (cutS S w) w W → Fwd W F f n B fr L) (c : PkCtx v rs L fr tp) (hj : j < L.length) (hp : Pkd v v' L fr (sizes (L.take j))) :
    Calls Tryz.prog 87 #[.pointer (some ⟨q, 0, none⟩), .pointer (some ⟨f, 0, none⟩), .int .i64 (L[j].1 : Nat), .int .i64 (L[j].2 : Nat)] w (MoveEnd w S q v L fr (sizes (L.take j) + L[j].2)) := by
  obtain ⟨p, ff, k, hh, hs, hz⟩ := c.hd hj
  have hle := c.le hj
  have hin := (c.inn _ (List.getElem_mem hj)).2
  have htpn := c.tpn
  have hn2 := c.ok.n2
  have hrd := hp.hdr c hj
  rw [hh] at hrd
  obtain ⟨A, hA⟩ : ∃ A, A = L[j].1 := ⟨_, rfl⟩
  obtain ⟨Z, hZ⟩ : ∃ Z, Z = L[j].2 := ⟨_, rfl⟩
  obtain ⟨K, hK⟩ : ∃ K, K = sizes (L.take j) := ⟨_, rfl⟩
  have HTV : Hid (toV L fr (A : Nat) = ((fr + K : Nat) : Int)) := ⟨by
    rw [hA, hK]
    have h1 := (c.mks.mkd.good.sz _ (List.getElem_mem hj)).1
    have := (toV_at c.mks.mkd.good (base := fr) hj (a := ((L[j].1 : Nat) : Int)) (by omega) (by omega)).1
    rw [this]
    push_cast
    omega⟩
  have HV := hid hV.cut
  have HF := hid hF
  have HC := hid c
  have HJ := hid hj
  have HAE := hid (And.intro hA (And.intro hZ hK))
  have HP := hid hp
  have HH : Hid (v.rdH (A : Nat) = ⟨p, ff, k⟩) := ⟨by rw [hA]; exact hh⟩
  have HRD := hid (fun (W : World) (g : Gr w W) => obj_read (HV.out.gr g) (A : Int))
  rw [← hA] at hrd
  rw [hrd.1, hrd.2] at HRD
  have HTO := hid (fun (W : World) (t : Touch (cutS S w) w W) => fwd_to (hF W t) (A : Int))
  rw [HTV.out] at HTO
  obtain ⟨te, hte⟩ : ∃ te, te = toE L (A : Int) := ⟨_, rfl⟩
  rw [← hte] at HTO
  have HKD := hid (fun (W : World) (i : Int) => hdr_kind hs i W)
  have hRec := hid (fun W => Rec.new W 90 [.int .i64 p, .int .i64 ff, .int .i64 k])
  simp only [List.toArray] at hRec
  unfold hdrV at HRD HKD
  unfold spV at HRD
  have HRW : Hid (∀ m, m < Z → (rowP v L fr L).getD (K + m) 0 = pkW v L fr A m) := ⟨fun m hm => by rw [hK, hA]; exact rowP_get v L fr L hj (by rw [← hZ]; exact hm)⟩
  rw [← hA] at hle hin
  rw [← hZ] at hin hz
  rw [← hK] at hle HP
  rw [← hA, ← hZ, ← hK]
  clear hV hF c hp hh hA hZ hK hrd hte hz
  go_enter Tryz.func87, Tryz.ntmps87
  go_upto_region 1 with (go_at_call 108; refine (HRD.out _ (Gr.refl w)).mono ?_; rintro e w1 ⟨rfl, hg1⟩; have HG1 := hid hg1; clear hg1)
  obtain ⟨w2, hw2⟩ : ∃ w2, w2 = w1.alloc (.cells #[.int .i64 p, .int .i64 ff, .int .i64 k] 90) := ⟨_, rfl⟩
  have R2 := hRec.out w1
  obtain ⟨hq, hhq⟩ : ∃ hq, hq = w1.heap.size := ⟨_, rfl⟩
  have HNS : Hid (¬ cutS S w hq) := ⟨fun h => by have := h.2; have := HG1.out.size; omega⟩
  have hg2 : Gr w w2 := by rw [hw2]; exact HG1.out.alloc _
  rw [← hhq] at R2 ⊢
  rw [← hw2] at R2 ⊢
  have HR2 := hid R2
  have HG2 := hid hg2
  clear hw2 hhq HG1 R2 hg2 hRec HRD
  go_upto_region 2 with (go_at_call 89; refine (HTO.out _ (HG2.out.touch _)).mono ?_; rintro e w3 ⟨rfl, hg3⟩; have HR3 := hid (HR2.out.gr hg3); have HG3 := hid (HG2.out.trans hg3); clear hg3)
  have HV3 := hid (HV.out.gr HG3.out)
  have HT3 : Hid (Touch (cutS S w) w w3) := ⟨HG3.out.touch _⟩
  clear HG2 HR2 HTO HG3
  go_wp2_with (fail)
  go_loopw [31] (fun s31 wr => ∃ (i : Nat) (vx : Vm), i ≤ Z ∧ Hid (VmAt wr (cutS S w) q vx ∧ Pkd v vx L fr (K + i)) ∧ Hid (Touch (cutS S w) w wr) ∧ Hid (Rec wr hq 90 [.int .i64 p, .int .i64 ff, .int .i64 k]) ∧ s31 = .int .i64 i) (fun s31 _ => Z - (intOf s31).toNat)
  case atStart => exact ⟨0, v', Nat.zero_le _, ⟨⟨HV3.out, HP.out⟩⟩, HT3, HR3, rfl⟩
  case round =>
    obtain ⟨i, vx, hi, HVX, HTX, HRX, rfl⟩ := hrel
    clear HV3 HT3 HR3
    by_cases hlt : i < Z
    · have hiI : (i : Int) < (Z : Int) := by omega
      have HLT := hid hlt
      have hAi : (A : Int) + (i : Int) = ((A + i : Nat) : Int) := by push_cast; rfl
      have hTi : ((fr + K : Nat) : Int) + (i : Int) = ((fr + (K + i) : Nat) : Int) := by push_cast; omega
      have hsrc := Pkd.src (m := i) HC.out HJ.out (by rw [← HAE.out.2.2]; exact HVX.out.2)
      rw [← HAE.out.1] at hsrc
      have HLD := hid (vm_load HVX.out.1 ((A + i : Nat) : Int))
      rw [hsrc.1, hsrc.2] at HLD
      obtain ⟨el, hel⟩ : ∃ el, el = v.ldE ((A + i : Nat) : Int) := ⟨_, rfl⟩
      rw [← hel] at HLD
      have HXL : Hid (v.ldV ((A + i : Nat) : Int) < 18446744073709551616) := ⟨HC.out.ok.ldV_lt _⟩
      have HPW : Hid (pkW v L fr A i < 18446744073709551616) := ⟨by rw [HAE.out.1]; exact HC.out.pkW_lt HJ.out⟩
      have HPT : Hid (1 ≤ i → i ≤ p → v.ldV ((A + i : Nat) : Int) ≤ 2147483647 ∧ (v.ldV ((A + i : Nat) : Int) ≠ 0 → Hs L (v.ldV ((A + i : Nat) : Int) : Nat))) := ⟨fun h1 h2 => by
        rw [HAE.out.1]
        exact HC.out.ptr HJ.out h1 (by rw [← HAE.out.1, HH.out]; show (i : Int) ≤ (p : Int); omega)⟩
      have HST : Hid (∀ (W : World), Touch (cutS S w) wr W → VmAt W (cutS S w) q vx → ∀ y : Nat, y = pkW v L fr A i → Calls Tryz.prog 61 #[.pointer (some ⟨q, 0, none⟩), .int .i64 (((fr + K : Nat) : Int) + (i : Int)), .int .u64 y] W fun e w' => ∃ er, e = .returned (.int .i64 er) ∧ Touch (cutS S w) W w' ∧ ∃ v'', VmAt w' (cutS S w) q v'' ∧ Pkd v v'' L fr (K + (i + 1))) := ⟨fun W t hW y hy => by
        rw [hTi]
        refine (vm_store hW _ (x := y) (by rw [hy]; exact HPW.out)).mono ?_
        rintro e w' ⟨rfl, ht, hv⟩
        refine ⟨_, rfl, ht, _, hv, ?_⟩
        have := HVX.out.2.step (HC.out.lds _ (by omega) (by
          have h1 := (HC.out.sz HJ.out).2
          rw [← HAE.out.2.1, ← HAE.out.2.2] at h1
          omega)) (x := y) (by rw [hy]; exact (HRW.out i HLT.out).symm) (by rw [hy]; exact HPW.out)
        exact this⟩
      have HTOX : Hid (∀ (W : World) (a : Int), Touch (cutS S w) wr W → Hs L a → ∃ y : Nat, toV L fr a = (y : Int) ∧ Calls Tryz.prog 89 #[.pointer (some ⟨f, 0, none⟩), .int .i64 a] W fun e w' => ∃ er, e = .returned (.tuple #[.int .i64 y, .int .i64 er]) ∧ Gr W w') := ⟨fun W a t ha => by
        obtain ⟨j', hj', -, e⟩ := toV_hs HC.out ha
        refine ⟨fr + sizes (L.take j'), e, ?_⟩
        have := fwd_to (HF.out W (HTX.out.trans t)) a
        rw [e] at this
        refine this.mono ?_
        rintro e w' ⟨rfl, hg⟩
        exact ⟨_, rfl, hg⟩⟩
      have HPE : Hid (pkW v L fr A i = if (1 ≤ i ∧ (i : Int) ≤ (p : Int)) ∧ v.ldV ((A + i : Nat) : Int) ≠ 0 then (toV L fr (v.ldV ((A + i : Nat) : Int) : Nat)).toNat else v.ldV ((A + i : Nat) : Int)) := ⟨by rw [pkW_at v L fr A i rfl, HH.out]⟩
      obtain ⟨x, hx⟩ : ∃ x, x = v.ldV ((A + i : Nat) : Int) := ⟨_, rfl⟩
      rw [← hx] at HLD HXL HPT HPE
      rw [← hAi] at HLD
      clear hAi hTi hsrc hx hlt hel
      have hi1 : (i : Int) - 1 = ((i : Int) - 1) := rfl
      clear hi1
      have hib : (i : Int) ≤ 524288 := by omega
      by_cases hp1 : 1 ≤ i ∧ i ≤ p
      · have HK1 : Hid (kindOf ⟨p, ff, k⟩ ((i : Int) - 1) = 1) := ⟨kind_ptr (by omega) (by show (i : Int) - 1 < (p : Int); omega) (by show (p : Int) < hdrN ⟨p, ff, k⟩; rw [show hdrN ⟨p, ff, k⟩ = 1 + (p : Int) + ff + k from if_pos (hdrE_of hs)]; omega)⟩
        obtain ⟨hx31, hxh⟩ := HPT.out hp1.1 hp1.2
        by_cases hx0 : x = 0
        · subst hx0
          have HY : Hid (0 = pkW v L fr A i) := ⟨by rw [HPE.out, if_neg (fun h => h.2 rfl)]⟩
          clear hp1 hx31 hxh
          go_wp2_with (first
            | (go_at_call 64; refine HLD.out.mono ?_; rintro e w4 ⟨rfl, hg4⟩; have y0 := (HRX.out.gr hg4).cell (j := 0) rfl; have y1 := (HRX.out.gr hg4).cell (j := 1) rfl; have y2 := (HRX.out.gr hg4).cell (j := 2) rfl; have yl := (HRX.out.gr hg4).lt; have HG4 := hid hg4; clear hg4)
            | (go_at_call 154; refine (HKD.out _ _).mono ?_; rintro e w5 ⟨rfl, hg5⟩; rw [HK1.out]; have HG5 := hid (HG4.out.trans hg5); clear hg5)
            | (go_at_call 61; refine (HST.out _ ((HG5.out).touch _) (HVX.out.1.gr (HG5.out)) 0 HY.out).mono ?_; rintro e w7 ⟨er, rfl, ht7, v7, hv7, hp7⟩; have HT7 := hid ht7; have HV7 := hid (And.intro hv7 hp7); clear ht7 hv7 hp7))
          go_round
          case rel => exact ⟨i + 1, v7, HLT.out, HV7, ⟨(HTX.out.trans ((HG5.out).touch _)).trans HT7.out⟩, ⟨(HRX.out.gr (HG5.out)).touch HT7.out HNS.out⟩, by go_num⟩
          case measure => have := HLT.out; simp [intOf]; omega
        · obtain ⟨y, hy, -⟩ := HTOX.out wr (x : Int) (Touch.refl _ _) (hxh hx0)
          have HY : Hid (y = pkW v L fr A i) := ⟨by rw [HPE.out, if_pos ⟨⟨hp1.1, by omega⟩, hx0⟩, hy]; rfl⟩
          have HTQ : Hid (∀ (W : World), Touch (cutS S w) wr W → Calls Tryz.prog 89 #[.pointer (some ⟨f, 0, none⟩), .int .i64 (x : Nat)] W fun e w' => ∃ er, e = .returned (.tuple #[.int .i64 y, .int .i64 er]) ∧ Gr W w') := ⟨fun W t => by
            obtain ⟨y', hy', h⟩ := HTOX.out W (x : Int) t (hxh hx0)
            rw [hy] at hy'
            obtain rfl : y = y' := by omega
            exact h⟩
          have HYL : Hid (y < 18446744073709551616) := ⟨by rw [HY.out]; exact HPW.out⟩
          have hwy : IntKind.u64.wrap (y : Int) = (y : Int) := by have := HYL.out; rw [IntKind.wrap_u64]; omega
          have hwx : IntKind.i64.wrap (x : Int) = (x : Int) := IntWalk.i64_in _ (by omega)
          have d2 : ((x : Int) != 0) = true := by simp; exact hx0
          clear hp1 hx31 hxh hx0 hy
          go_wp2_with (first
            | (go_at_call 64; refine HLD.out.mono ?_; rintro e w4 ⟨rfl, hg4⟩; have y0 := (HRX.out.gr hg4).cell (j := 0) rfl; have y1 := (HRX.out.gr hg4).cell (j := 1) rfl; have y2 := (HRX.out.gr hg4).cell (j := 2) rfl; have yl := (HRX.out.gr hg4).lt; have HG4 := hid hg4; clear hg4)
            | (go_at_call 154; refine (HKD.out _ _).mono ?_; rintro e w5 ⟨rfl, hg5⟩; rw [HK1.out]; have HG5 := hid (HG4.out.trans hg5); clear hg5)
            | (go_at_call 89; refine (HTQ.out _ (HG5.out.touch _)).mono ?_; rintro e w6 ⟨er6, rfl, hg6⟩; have HG6 := hid (HG5.out.trans hg6); clear hg6)
            | (go_at_call 61; refine (HST.out _ ((HG6.out).touch _) (HVX.out.1.gr (HG6.out)) y HY.out).mono ?_; rintro e w7 ⟨er, rfl, ht7, v7, hv7, hp7⟩; have HT7 := hid ht7; have HV7 := hid (And.intro hv7 hp7); clear ht7 hv7 hp7))
          go_round
          case rel => exact ⟨i + 1, v7, HLT.out, HV7, ⟨(HTX.out.trans ((HG6.out).touch _)).trans HT7.out⟩, ⟨(HRX.out.gr (HG6.out)).touch HT7.out HNS.out⟩, by go_num⟩
          case measure => have := HLT.out; simp [intOf]; omega
      · obtain ⟨kd, hkd⟩ : ∃ kd, kd = kindOf ⟨p, ff, k⟩ ((i : Int) - 1) := ⟨_, rfl⟩
        have HK1 : Hid (kindOf ⟨p, ff, k⟩ ((i : Int) - 1) = kd) := ⟨hkd.symm⟩
        have hk1 : kd ≠ 1 := by rw [hkd]; exact kind_not (fun h => hp1 ⟨by omega, by omega⟩)
        have d1 : (kd == 1) = false := by simpa using hk1
        have HY : Hid (x = pkW v L fr A i) := ⟨by rw [HPE.out, if_neg (fun h => hp1 ⟨h.1.1, by have := h.1.2; omega⟩)]⟩
        clear hp1 hkd hk1
        go_wp2_with (first
          | (go_at_call 64; refine HLD.out.mono ?_; rintro e w4 ⟨rfl, hg4⟩; have y0 := (HRX.out.gr hg4).cell (j := 0) rfl; have y1 := (HRX.out.gr hg4).cell (j := 1) rfl; have y2 := (HRX.out.gr hg4).cell (j := 2) rfl; have yl := (HRX.out.gr hg4).lt; have HG4 := hid hg4; clear hg4)
          | (go_at_call 154; refine (HKD.out _ _).mono ?_; rintro e w5 ⟨rfl, hg5⟩; rw [HK1.out]; have HG5 := hid (HG4.out.trans hg5); clear hg5)
          | (go_at_call 61; refine (HST.out _ ((HG5.out).touch _) (HVX.out.1.gr (HG5.out)) x HY.out).mono ?_; rintro e w7 ⟨er, rfl, ht7, v7, hv7, hp7⟩; have HT7 := hid ht7; have HV7 := hid (And.intro hv7 hp7); clear ht7 hv7 hp7))
        go_round
        case rel => exact ⟨i + 1, v7, HLT.out, HV7, ⟨(HTX.out.trans ((HG5.out).touch _)).trans HT7.out⟩, ⟨(HRX.out.gr (HG5.out)).touch HT7.out HNS.out⟩, by go_num⟩
        case measure => have := HLT.out; simp [intOf]; omega
    · obtain rfl : i = Z := by omega
      clear hlt
      go_wp2
      refine bodyPost_end (results_none rfl _ _ _) rfl ?_
      exact ⟨rfl, HTX.out, vx, HVX.out.1, HVX.out.2⟩
end
end Go.Proofs.YtbmidhlilafgeaaGreatDoor
end
section
namespace Go.Proofs.YtbmidhlilafgeaaGreatDoor
open Go.RowKit Word

def pkArg (n fr tp room : Int) : Bool := decide (1 ≤ fr) && decide (fr ≤ tp) && decide (tp ≤ n) && decide (1 ≤ room) && decide (room ≤ 4096)
theorem pkArg_true {n fr tp room : Int} : pkArg n fr tp room = true ↔ 1 ≤ fr ∧ fr ≤ tp ∧ tp ≤ n ∧ 1 ≤ room ∧ room ≤ 4096 := by
  unfold pkArg
  simp [Bool.and_eq_true, decide_eq_true_eq, and_assoc]
theorem pkArg_false {n fr tp room : Int} (h : ¬ (1 ≤ fr ∧ fr ≤ tp ∧ tp ≤ n ∧ 1 ≤ room ∧ room ≤ 4096)) : pkArg n fr tp room = false := by
  cases hb : pkArg n fr tp room with
  | false => rfl
  | true => exact absurd (pkArg_true.1 hb) h
section
variable {w : World} {S : Nat → Prop} {q r g : Nat} {v : Vm} {rs : List Int}
theorem pk_check_nilM (rv : Value) (fr tp room : Int) (w : World) : Calls Tryz.prog 82 #[.pointer none, rv, .int .i64 fr, .int .i64 tp, .int .i64 room] w fun e w' => e = .returned (.int .i64 9) ∧ w = w' := by
  go_enter Tryz.func82, Tryz.ntmps82
  go_wp2_with (go_at_call 33; refine (vm_words_nil _).mono ?_; rintro e w1 ⟨rfl, rfl⟩)
  go_ret
  exact ⟨rfl, rfl⟩
set_option maxRecDepth 100000 in
theorem pk_check_nilR (hV : VmAt w S q v) (hn : v.n ≠ 0) (fr tp room : Int) : Calls Tryz.prog 82 #[.pointer (some ⟨q, 0, none⟩), .pointer none, .int .i64 fr, .int .i64 tp, .int .i64 room] w fun e w' => e = .returned (.int .i64 9) ∧ w = w' := by
  have HV := hid hV
  have d0 : ((v.n : Int) == 0) = false := by simp; exact hn
  clear hV hn
  go_enter Tryz.func82, Tryz.ntmps82
  go_wp2_with (first
    | (go_at_call 33; refine (vm_words HV.out).mono ?_; rintro e w1 ⟨rfl, rfl⟩)
    | (go_at_call 63; refine (rt_len_nil _).mono ?_; rintro e w1 ⟨rfl, rfl⟩))
  go_ret
  exact ⟨rfl, rfl⟩
set_option maxRecDepth 100000 in
set_option maxHeartbeats 1600000 in
theorem pk_check (hV : VmAt w S q v) (hn : v.n ≠ 0) (hR : RtAt w r g rs) (fr tp room : Int) : Calls Tryz.prog 82 #[.pointer (some ⟨q, 0, none⟩), .pointer (some ⟨r, 0, none⟩), .int .i64 fr, .int .i64 tp, .int .i64 room] w fun e w' => e = .returned (.int .i64 (if pkArg v.n fr tp room then 0 else 5)) ∧ w = w' := by
  have HV := hid hV
  have HWD := hid (vm_words hV)
  have HLN := hid (rt_len hR)
  have hne : rs.length ≠ 0 := fun e => hR.ne (List.eq_nil_of_length_eq_zero e)
  obtain ⟨l, hl⟩ : ∃ l, l = rs.length := ⟨_, rfl⟩
  obtain ⟨n, hnn⟩ : ∃ n, n = v.n := ⟨_, rfl⟩
  rw [← hl] at HLN hne
  rw [← hnn] at HWD hn ⊢
  have d0 : ((n : Int) == 0) = false := by simp; exact hn
  have d9 : ((l : Int) == 0) = false := by simp; exact hne
  obtain ⟨z, hz⟩ : ∃ z : Int, z = if pkArg n fr tp room then 0 else 5 := ⟨_, rfl⟩
  rw [← hz]
  have HZ := hid hz
  clear hV hR hl hnn hn hne hz
  go_enter Tryz.func82, Tryz.ntmps82
  go_upto_region 3 with (first
    | (go_at_call 33; refine HWD.out.mono ?_; rintro e w1 ⟨rfl, rfl⟩)
    | (go_at_call 63; refine HLN.out.mono ?_; rintro e w1 ⟨rfl, rfl⟩))
  clear d0 d9
  by_cases h1 : fr < 1
  · have e1 : decide (fr < 1) = true := decide_eq_true h1
    have HE := hid (pkArg_false (n := n) (fr := fr) (tp := tp) (room := room) (by omega))
    go_wp2
    go_ret
    exact ⟨ret_int (by rw [HZ.out, HE.out]; rfl), rfl⟩
  · have e1 : decide (fr < 1) = false := decide_eq_false h1
    by_cases h2 : tp < fr
    · have e2 : decide (tp < fr) = true := decide_eq_true h2
      have HE := hid (pkArg_false (n := n) (fr := fr) (tp := tp) (room := room) (by omega))
      go_wp2
      go_ret
      exact ⟨ret_int (by rw [HZ.out, HE.out]; rfl), rfl⟩
    · have e2 : decide (tp < fr) = false := decide_eq_false h2
      by_cases h3 : (n : Int) < tp
      · have e3 : decide ((n : Int) < tp) = true := decide_eq_true h3
        have HE := hid (pkArg_false (n := n) (fr := fr) (tp := tp) (room := room) (by omega))
        go_wp2_with (go_at_call 33; refine HWD.out.mono ?_; rintro e w1 ⟨rfl, rfl⟩)
        go_ret
        exact ⟨ret_int (by rw [HZ.out, HE.out]; rfl), rfl⟩
      · have e3 : decide ((n : Int) < tp) = false := decide_eq_false h3
        by_cases h4 : room < 1
        · have e4 : decide (room < 1) = true := decide_eq_true h4
          have HE := hid (pkArg_false (n := n) (fr := fr) (tp := tp) (room := room) (by omega))
          go_wp2_with (go_at_call 33; refine HWD.out.mono ?_; rintro e w1 ⟨rfl, rfl⟩)
          go_ret
          exact ⟨ret_int (by rw [HZ.out, HE.out]; rfl), rfl⟩
        · have e4 : decide (room < 1) = false := decide_eq_false h4
          by_cases h5 : 4096 < room
          · have e5 : decide (4096 < room) = true := decide_eq_true h5
            have HE := hid (pkArg_false (n := n) (fr := fr) (tp := tp) (room := room) (by omega))
            go_wp2_with (go_at_call 33; refine HWD.out.mono ?_; rintro e w1 ⟨rfl, rfl⟩)
            go_ret
            exact ⟨ret_int (by rw [HZ.out, HE.out]; rfl), rfl⟩
          · have e5 : decide (4096 < room) = false := decide_eq_false h5
            have HE := hid ((pkArg_true (n := n) (fr := fr) (tp := tp) (room := room)).2 (by omega))
            go_wp2_with (go_at_call 33; refine HWD.out.mono ?_; rintro e w1 ⟨rfl, rfl⟩)
            go_ret
            exact ⟨ret_int (by rw [HZ.out, HE.out]; rfl), rfl⟩
end
end Go.Proofs.YtbmidhlilafgeaaGreatDoor
end
section
namespace Go.Proofs.YtbmidhlilafgeaaGreatDoor
open Go.RowKit Word

theorem over_nonneg (o : Ob) (f t : Int) : 0 ≤ over o f t := by unfold over; omega
theorem overs_nonneg (L : List Ob) (f t : Int) : 0 ≤ overs L f t := by
  induction L with
  | nil => exact Int.le_refl _
  | cons o r ih => have := over_nonneg o f t; show 0 ≤ over o f t + overs r f t; omega
theorem overs_none {L : List Ob} {n tp : Nat} (hg : ∀ o ∈ L, 1 ≤ o.2 ∧ o.1 + o.2 ≤ n) : overs L tp n = 0 ↔ ∀ o ∈ L, o.1 + o.2 ≤ tp := by
  induction L with
  | nil => exact ⟨(fun _ _ h => by cases h), fun _ => rfl⟩
  | cons o r ih =>
    have h1 := over_nonneg o tp n
    have h2 := overs_nonneg r tp n
    have h3 := hg o (List.mem_cons_self ..)
    have ih := ih (fun q hq => hg q (List.mem_cons_of_mem _ hq))
    have e : overs (o :: r) tp n = over o tp n + overs r tp n := rfl
    rw [e]
    constructor
    · intro h q hq
      rcases List.mem_cons.1 hq with rfl | hq
      · have h4 : over q tp n = 0 := by omega
        unfold over at h4; omega
      · exact ih.1 (by omega) q hq
    · intro h
      have h4 := ih.2 (fun q hq => h q (List.mem_cons_of_mem _ hq))
      have h5 := h o (List.mem_cons_self ..)
      have h6 : over o tp n = 0 := by unfold over; omega
      omega
theorem starts_from {n : Nat} {o : Ob} {r : List Ob} (hg : Good n (o :: r)) {fr : Nat} (h : fr ≤ o.1) : ∀ q ∈ o :: r, fr ≤ q.1 := fun q hq => by
  rcases List.mem_cons.1 hq with rfl | hq
  · exact h
  · have := (List.pairwise_cons.1 hg.pw).1 q hq
    omega
def PkIn (v : Vm) (rs : List Int) (fr tp : Int) (L : List Ob) : Prop := Marks v rs v.n L ∧ ∀ o ∈ L, fr ≤ (o.1 : Int) ∧ (o.1 : Int) + o.2 ≤ tp
def PkReach (w : World) (S : Nat → Prop) (q : Nat) (v : Vm) (rs : List Int) (fr tp : Nat) (e : Ending) (w' : World) : Prop :=
  Touch S w w' ∧ VmAt w' (cutS S w) q v ∧
    ((∃ L m p1 b1 p2 b2, PkIn v rs fr tp L ∧ e = .returned (.tuple #[.pointer (some ⟨m, 0, none⟩), .int .i64 0]) ∧ Ext w' m p1 b1 p2 b2 v.n L ∧ w.heap.size ≤ m ∧ w.heap.size ≤ p1 ∧ w.heap.size ≤ b1 ∧ w.heap.size ≤ p2 ∧ w.heap.size ≤ b2) ∨
     ((∀ L, ¬ PkIn v rs fr tp L) ∧ e = .returned (.tuple #[.pointer none, .int .i64 25])))
section
variable {w : World} {S : Nat → Prop} {q r g : Nat} {v : Vm} {rs : List Int}
set_option maxRecDepth 100000 in
set_option maxHeartbeats 3200000 in
theorem pk_reached (hV : VmAt w S q v) (hn : v.n ≠ 0) (hR : RtAt w r g rs) (hT : TabAt w) (htS : ¬ S 0) (fr tp room : Nat) (htp : tp ≤ v.n) (hr1 : 1 ≤ room) (hr2 : room ≤ 4096) :
    Calls Tryz.prog 83 #[.pointer (some ⟨q, 0, none⟩), .pointer (some ⟨r, 0, none⟩), .int .i64 fr, .int .i64 tp, .int .i64 room] w (PkReach w S q v rs fr tp) := by
  have HV := hid hV.cut
  have HR := hid hR
  have HT := hid hT
  have HTS := hid htS
  have hn2 := hV.ok.n2
  have htl := hT.lt
  have HX := hid (fun W => ext_new v.n (by omega) (by omega) W)
  have hle := hR.le
  have HWD := hid (fun (W : World) (g : Gr w W) => vm_words (HV.out.gr g))
  have HLE := hid hle
  obtain ⟨n, hnn⟩ : ∃ n, n = v.n := ⟨_, rfl⟩
  have HNN := hid hnn
  rw [← hnn] at HX HWD htp hn2
  clear hV hR hT htS hn hle hnn
  go_enter Tryz.func83, Tryz.ntmps83
  go_upto_region 2 with (first
    | (go_at_call 33; refine (HWD.out _ (Gr.refl w)).mono ?_; rintro e w1 ⟨rfl, rfl⟩)
    | (go_at_call 131; refine (HX.out _).mono ?_; rintro e w3 ⟨m, p1, b1, p2, b2, rfl, hg3, he3, hb0, hb1, hb2, hb3, hb4⟩; have HG3 := hid hg3; have HE3 := hid he3; have HB := hid (And.intro hb0 (And.intro hb1 (And.intro hb2 (And.intro hb3 hb4)))); clear hg3 he3 hb0 hb1 hb2 hb3 hb4))
  have HMI : Hid (∀ i, mine m b1 b2 i → w.heap.size ≤ i ∧ i < w3.heap.size) := ⟨fun i hi => by
    have h1 := HE3.out.hm
    have h2 := HE3.out.v1.hb
    have h3 := HE3.out.v2.hb
    have h4 := HB.out
    rcases hi with rfl | rfl | rfl <;> omega⟩
  have HALL := hid (fun (W : World) (g : Gr w3 W) => rt_all (HR.out.gr (HG3.out.trans g)))
  have HRUN : Hid (∀ (W : World) (g1 cp : Nat), Gr w3 W → w3.heap.size ≤ g1 → W.ownsRow 0 3 1 (.slice (some ⟨g1, 0, none⟩) rs.length cp) rs.length (zs rs) → Calls Tryz.prog 132 #[.iface 31 (.pointer (some ⟨q, 0, none⟩)), .slice (some ⟨g1, 0, none⟩) rs.length cp, .pointer (some ⟨m, 0, none⟩), .int .i64 room] W fun e w' =>
      Touch (fun i => mine m b1 b2 i ∨ cutS S w i) W w' ∧ VmAt w' (cutS S w) q v ∧ ((∃ (L : List Ob) (rv vi : Int), e = .returned (.tuple #[.agg #[.int .i64 (L.length : Nat), .int .i64 (sizes L : Nat), .int .i64 rv, .int .i64 vi], .int .i64 0]) ∧ Ext w' m p1 b1 p2 b2 n L ∧ Marks v rs n L) ∨ (e = .returned (.tuple #[.agg #[.int .i64 0, .int .i64 0, .int .i64 0, .int .i64 0], .int .i64 25]) ∧ ¬ Sound v rs n))) := ⟨fun W g1 cp hg hg1 ho => by
    have hgw := HG3.out.trans hg
    refine (mark_run (HV.out.gr hgw) (HE3.out.gr hg) (hgw.tab HT.out.lt HT.out) (fun i hi => ?_) (by unfold maxLen; have := HLE.out; omega) (fun i hi h => by have := (HMI.out i h).1; have := hi.2; omega) (fun h => by have := h.2; have := HB.out; omega) (fun h => by have := h.2; have := HB.out; omega) (fun h => HTS.out h.1) (fun h => by have := (HMI.out _ h).1; have := HT.out.lt; omega) (room : Int)).mono ?_
    · exact ⟨g1, 0, rfl, (own_lt ho rfl).2, fun h => by have := (HMI.out _ h).2; omega, by rw [Nat.zero_add]; exact own_cell ho (zs_at hi)⟩
    · rintro e w' (⟨h, -⟩ | ⟨-, -, ht, hv, (⟨L, r', vi, rfl, he, hm, -⟩ | ⟨rfl, -, hs⟩)⟩)
      · omega
      · exact ⟨ht, hv, .inl ⟨L, r', vi, rfl, he, hm⟩⟩
      · exact ⟨ht, hv, .inr ⟨rfl, hs⟩⟩⟩
  have HTW : Hid (∀ W1 W2, Gr w3 W1 → Touch (fun i => mine m b1 b2 i ∨ cutS S w i) W1 W2 → Touch S w W2) := ⟨fun W1 W2 h1 h2 => ((HG3.out.trans h1).touch _).trans' h2 (fun b hb h => h.elim (fun h => by have := (HMI.out b h).1; omega) (fun h => h.1))⟩
  go_upto_region 3 with (first
    | (go_at_call 16; refine (HALL.out _ (Gr.refl w3)).mono ?_; rintro e w4 ⟨g1, c1, rfl, hg4, hgl, ho4⟩; have HG4 := hid hg4; have HO4 := hid ho4; have HL4 := hid hgl; clear hg4 ho4 hgl)
    | (go_at_call 132; refine (HRUN.out _ g1 c1 HG4.out HL4.out HO4.out).mono ?_; rintro e w5 ⟨ht5, hv5, (⟨L, rv, vi, rfl, he5, hm5⟩ | ⟨rfl, hs5⟩)⟩ <;> (have HT5 := hid (HTW.out _ _ HG4.out ht5); have HV5 := hid hv5; clear ht5 hv5)))
  · have HM5 := hid hm5
    have HZ : Hid (w.heap.size ≤ w5.heap.size) := ⟨HT5.out.size⟩
    obtain ⟨w6, hw6⟩ : ∃ w6, w6 = w5.alloc (.cells #[.int .i64 (L.length : Nat), .int .i64 (sizes L : Nat), .int .i64 rv, .int .i64 vi] 179) := ⟨_, rfl⟩
    have hg6 : Gr w5 w6 := by rw [hw6]; exact (Gr.refl w5).alloc _
    have HE6 := hid (he5.gr hg6)
    have HT6 : Hid (Touch S w w6) := ⟨HT5.out.trans (hg6.touch _)⟩
    have HV6 := hid (HV5.out.gr hg6)
    have HTB : Hid (TabAt w6) := ⟨HT.out.touch' HT6.out HTS.out⟩
    rw [← hw6]
    have HWD6 := hid (vm_words HV6.out)
    rw [← HNN.out] at HWD6
    have HLV := hid (fun (f : Int) (t : Int) (hf : f ≤ 9223372036854775807) (ht : -9223372036854775808 ≤ t) => ext_live HE6.out HTB.out f t hf ht)
    have HNT := hid (ext_next HE6.out HTB.out 0)
    clear hw6 hg6 he5 hm5
    cases L with
    | nil =>
      rw [tellO_out (by simp)] at HNT
      have HL0 := hid (HLV.out tp n (by omega) (by omega))
      rw [show overs [] (tp : Int) (n : Int) = 0 from rfl] at HL0
      go_wp2_with (first
        | (go_at_call 144; refine HNT.out.mono ?_; rintro e w7 ⟨rfl, rfl⟩)
        | (go_at_call 33; refine HWD6.out.mono ?_; rintro e w7 ⟨rfl, rfl⟩)
        | (go_at_call 145; refine HL0.out.mono ?_; rintro e w7 ⟨rfl, rfl⟩))
      go_ret2
      exact ⟨HT6.out, HV6.out, .inl ⟨[], m, p1, b1, p2, b2, ⟨by rw [← HNN.out]; exact HM5.out, fun _ h => by cases h⟩, ret2 rfl rfl, by rw [← HNN.out]; exact HE6.out, HB.out⟩⟩
    | cons o rr =>
      have hn0 : nextO (o :: rr) 0 = 0 := nextO_eq (Nat.zero_le _) (fun i _ h => absurd h (Nat.not_lt_zero _)) (fun _ => by omega)
      rw [hn0, tellO_in (by simp)] at HNT
      simp only [List.getElem_cons_zero] at HNT
      have hg := HE6.out.good
      obtain ⟨os, hos⟩ : ∃ os, os = o.1 := ⟨_, rfl⟩
      obtain ⟨oz, hoz⟩ : ∃ oz, oz = o.2 := ⟨_, rfl⟩
      rw [← hos, ← hoz] at HNT
      have HOS := hid hos
      have HGD := hid hg
      by_cases hlo : os < fr
      · have e1 : decide ((os : Int) < (fr : Int)) = true := decide_eq_true (by omega)
        have e9 : decide (os < fr) = true := decide_eq_true hlo
        have HLO := hid hlo
        clear hlo hos hoz hg hn0
        go_wp2_with (go_at_call 144; refine HNT.out.mono ?_; rintro e w7 ⟨rfl, rfl⟩)
        go_ret2
        refine ⟨HT6.out, HV6.out, .inr ⟨fun L' h => ?_, ret2 rfl rfl⟩⟩
        have h1 := h.1
        rw [← HNN.out] at h1
        have e := h1.unique HM5.out
        subst e
        have := (h.2 o (List.mem_cons_self ..)).1
        have := HOS.out
        have := HLO.out
        omega
      · have e1 : decide ((os : Int) < (fr : Int)) = false := decide_eq_false (by omega)
        have e9 : decide (os < fr) = false := decide_eq_false hlo
        have HST := hid (starts_from hg (fr := fr) (by omega))
        have HON := hid (overs_none (tp := tp) hg.sz)
        have HL0 := hid (HLV.out tp n (by omega) (by omega))
        obtain ⟨ov, hov⟩ : ∃ ov, ov = overs (o :: rr) (tp : Int) (n : Int) := ⟨_, rfl⟩
        have hov0 : 0 ≤ ov := by rw [hov]; exact overs_nonneg _ _ _
        rw [← hov] at HL0 HON
        clear hlo hos hoz hg hn0 hov
        by_cases hz : ov = 0
        · have e2 : decide (0 < ov) = false := decide_eq_false (by omega)
          have HZE := hid hz
          clear hz
          go_wp2_with (first
            | (go_at_call 144; refine HNT.out.mono ?_; rintro e w7 ⟨rfl, rfl⟩)
            | (go_at_call 33; refine HWD6.out.mono ?_; rintro e w7 ⟨rfl, rfl⟩)
            | (go_at_call 145; refine HL0.out.mono ?_; rintro e w7 ⟨rfl, rfl⟩))
          go_ret2
          refine ⟨HT6.out, HV6.out, .inl ⟨o :: rr, m, p1, b1, p2, b2, ⟨by rw [← HNN.out]; exact HM5.out, fun q hq => ?_⟩, ret2 rfl rfl, by rw [← HNN.out]; exact HE6.out, HB.out⟩⟩
          have := HST.out q hq
          have := HON.out.1 HZE.out q hq
          omega
        · have e2 : decide (0 < ov) = true := decide_eq_true (by omega)
          have HZE := hid hz
          clear hz
          go_wp2_with (first
            | (go_at_call 144; refine HNT.out.mono ?_; rintro e w7 ⟨rfl, rfl⟩)
            | (go_at_call 33; refine HWD6.out.mono ?_; rintro e w7 ⟨rfl, rfl⟩)
            | (go_at_call 145; refine HL0.out.mono ?_; rintro e w7 ⟨rfl, rfl⟩))
          go_ret2
          refine ⟨HT6.out, HV6.out, .inr ⟨fun L' h => ?_, ret2 rfl rfl⟩⟩
          have h1 := h.1
          rw [← HNN.out] at h1
          have e := h1.unique HM5.out
          subst e
          exact HZE.out (HON.out.2 fun q hq => by have := (h.2 q hq).2; omega)
  · have HS5 := hid hs5
    clear hs5
    go_wp2
    go_ret2
    refine ⟨HT5.out.trans (((Gr.refl w5).alloc _).touch _), HV5.out.gr ((Gr.refl w5).alloc _), .inr ⟨fun L' h => HS5.out ?_, ret2 rfl rfl⟩⟩
    rw [HNN.out]
    exact h.1.sound
end
end Go.Proofs.YtbmidhlilafgeaaGreatDoor
end
section
namespace Go.Proofs.YtbmidhlilafgeaaGreatDoor
open Go.RowKit Word

theorem pk_ctx {v v1 : Vm} (h : VmOk v) {rs : List Int} {fr tp : Nat} {L : List Ob} (hI : PkIn v rs fr tp L) (h1 : 1 ≤ fr) (h2 : fr ≤ tp) (h3 : tp ≤ v.n) (hE : needE v fr ((fr + sizes L : Nat) : Int) = 0) (hG : Grown v v1 (needF v fr ((fr + sizes L : Nat) : Int))) : PkCtx v1 rs L fr tp ∧ fr + sizes L ≤ tp := by
  have hw := hG.wider h
  have hin : ∀ o ∈ L, fr ≤ o.1 ∧ o.1 + o.2 ≤ tp := fun o ho => by have := hI.2 o ho; omega
  have hall : fr + sizes L ≤ tp := by
    rcases Nat.eq_zero_or_pos L.length with h0 | h0
    · have : L = [] := List.eq_nil_of_length_eq_zero h0
      subst this
      simp only [sizes]; omega
    · have hj : L.length - 1 < L.length := by omega
      have e1 := pk_le hI.1.mkd.good (fun o ho => (hin o ho).1) hj
      have e2 := hin _ (List.getElem_mem hj)
      have e3 := sizes_take hj
      rw [show L.length - 1 + 1 = L.length by omega, List.take_length] at e3
      omega
  exact ⟨⟨hG.ok, by rw [hG.n]; exact hw.marks hI.1, hin, h1, by rw [hG.n]; exact h3, fun a ha hb => need_map h (by omega) hE hG ha hb⟩, hall⟩
/-- The first page without a word. -/
def pgUp (nt pg : Nat) : Nat := (nt + pg - 1) / pg
theorem pgUp_le {nt pg q : Nat} (hp : 1 ≤ pg) : nt ≤ q * pg ↔ pgUp nt pg ≤ q := by
  unfold pgUp
  have h1 := Nat.div_add_mod (nt + pg - 1) pg
  have h2 := Nat.mod_lt (nt + pg - 1) (show 0 < pg by omega)
  constructor
  · intro h
    have h3 : nt + pg - 1 < (q + 1) * pg := by rw [Nat.add_mul]; omega
    have := (Nat.div_lt_iff_lt_mul (show 0 < pg by omega)).2 h3
    omega
  · intro h
    have h3 := Nat.mul_le_mul_right pg h
    rw [Nat.mul_comm] at h1
    omega
/-- Where packing comes to. -/
structure PkDone (v : Vm) (rs : List Int) (fr tp : Nat) (L : List Ob) (v1 v2 : Vm) (j : Nat) : Prop where
  gr : Grown v v1 (needF v fr ((fr + sizes L : Nat) : Int))
  cx : PkCtx v1 rs L fr tp
  st : Pkd v1 v2 L fr (sizes L)
  q1 : ∀ i, i < j → (fr / v.pl.pg + i) * v.pl.pg < tp
  q2 : tp ≤ (fr / v.pl.pg + j) * v.pl.pg
/-- The memory behind it. -/
def pkUm (v v2 : Vm) (fr nt j : Nat) : Vm := umN v2 (pgUp nt v.pl.pg) (fr / v.pl.pg + j - pgUp nt v.pl.pg)
def PkEnd (w : World) (S : Nat → Prop) (q r g : Nat) (v : Vm) (rs : List Int) (fr tp room : Int) (e : Ending) (w' : World) : Prop :=
  Touch (fun b => b = g ∨ S b) w w' ∧
   ((pkArg v.n fr tp room = false ∧ e = .returned (.tuple #[.int .i64 0, .int .i64 5]) ∧ VmAt w' S q v ∧ RtAt w' r g rs) ∨
    (pkArg v.n fr tp room = true ∧
     (((∀ L, ¬ PkIn v rs fr tp L) ∧ e = .returned (.tuple #[.int .i64 0, .int .i64 25]) ∧ VmAt w' S q v ∧ RtAt w' r g rs) ∨
      ∃ (L : List Ob) (f t : Nat), PkIn v rs fr tp L ∧ fr = (f : Int) ∧ tp = (t : Int) ∧
       ((needE v f ((f + sizes L : Nat) : Int) ≠ 0 ∧ e = .returned (.tuple #[.int .i64 0, .int .i64 (needE v f ((f + sizes L : Nat) : Int))]) ∧ GrownAt w' (plus S w) q v [] ∧ RtAt w' r g rs) ∨
        (needE v f ((f + sizes L : Nat) : Int) = 0 ∧ e = .returned (.tuple #[.int .i64 ((f + sizes L : Nat) : Int), .int .i64 0]) ∧
          ∃ v1 v2 j, PkDone v rs f t L v1 v2 j ∧ VmAt w' (plus S w) q (pkUm v v2 f (f + sizes L) j) ∧ RtAt w' r g (rs.map (toV L f)))))))
section
variable {w : World} {S : Nat → Prop} {q r g : Nat} {v : Vm} {rs : List Int}
theorem vm_needs (hV : VmAt w S q v) (f t : Nat) (ht : t ≤ v.n) (hft : f ≤ t) : Calls Tryz.prog 59 #[.pointer (some ⟨q, 0, none⟩), .int .i64 f, .int .i64 t] w fun e w' => e = .returned (.int .i64 (needE v f t)) ∧ Touch S w w' ∧ GrownAt w' (plus S w) q v (needF v f t) := by
  rcases Nat.lt_or_ge f t with h | h
  · exact vm_need hV f t ht h
  · obtain rfl : f = t := by omega
    obtain ⟨e1, e2⟩ := need_none (v := v) (f := f) ht
    rw [e1, e2]
    refine (vm_need_none hV f f ht (Nat.le_refl _)).mono ?_
    rintro e w' ⟨rfl, hg⟩
    refine ⟨rfl, hg.touch _, v, ?_, (hV.gr hg).mono (fun _ h => .inl h)⟩
    exact ⟨hV.ok, rfl, rfl, rfl, rfl, List.nodup_nil, (fun _ h => by cases h), (fun _ _ => by simp), fun _ _ => by simp⟩
theorem toV_nonneg {n : Nat} {L : List Ob} (hg : Good n L) (hn : n ≤ 1048576) (base : Nat) (a : Int) : 0 ≤ toV L base a := by
  unfold toV
  split
  · have := (overs_to hg hn a).1; omega
  · exact Int.le_refl _
variable {F f n B fr : Nat} {L : List Ob}
theorem pk_turn1 {fb : Nat} (hF : Fwd w F f n B fr L) (hc : w.cell? ⟨fb, 0, none⟩ = some (.pointer (some ⟨f, 0, none⟩))) (a : Int) : Calls Tryz.prog 88 #[.int .i64 a, .pointer (some ⟨fb, 0, none⟩)] w fun e w' => e = .returned (.int .i64 (toV L fr a)) ∧ Gr w w' := by
  have HT := hid (fwd_to hF a)
  obtain ⟨y, hy⟩ : ∃ y, y = toV L fr a := ⟨_, rfl⟩
  obtain ⟨z, hz⟩ : ∃ z, z = toE L a := ⟨_, rfl⟩
  rw [← hy, ← hz] at HT
  rw [← hy]
  clear hF hy hz
  go_enter Tryz.func88, Tryz.ntmps88
  go_wp2_with (go_at_call 89; refine (HT.out).mono ?_; rintro e w1 ⟨rfl, hg1⟩; have HG1 := hid hg1; clear hg1)
  go_ret
  exact ⟨rfl, HG1.out⟩
/-- The roots, turned. -/
theorem pk_turns {fb : Nat} (hF : ∀ W, Touch (fun b => b = g) w W → Fwd W F f n B fr L) (hc : w.cell? ⟨fb, 0, none⟩ = some (.pointer (some ⟨f, 0, none⟩))) (hfb : fb ≠ g) (hR : RtAt w r g rs) (h0 : toV L fr 0 = 0) :
    Calls Tryz.prog 68 #[.pointer (some ⟨r, 0, none⟩), .func (.func 88) #[] #[.pointer (some ⟨fb, 0, none⟩)]] w fun e w' => e = .returned (.tuple #[]) ∧ Touch (fun b => b = g) w w' ∧ RtAt w' r g (rs.map (toV L fr)) := by
  refine (rt_turn (F := 88) (pre := #[]) (caps := #[.pointer (some ⟨fb, 0, none⟩)]) (fun i W out => Touch (fun b => b = g) w W ∧ out = (rs.take i).map (toV L fr)) (fun _ _ => by kernel_rfl) hR ⟨Touch.refl _ _, rfl⟩ ?_ ?_).mono ?_
  · rintro i hi W out ho ⟨t, e⟩ hz
    refine ⟨t, ?_⟩
    rw [take_snoc hi, List.map_append, ← e, hz]
    show out ++ [0] = out ++ [toV L fr 0]
    rw [h0]
  · rintro i hi W out ho ⟨t, e⟩ hrt hne W0 hg0
    have hf := hF W0 (t.trans (hg0.touch _))
    have hcl := lt_cell hc
    have hc0 := ((t.trans (hg0.touch _)).cell hcl hfb 0).trans hc
    refine (pk_turn1 hf hc0 rs[i]).mono ?_
    rintro e' W' ⟨rfl, hg'⟩
    have hb := toV_nonneg hf.good.1 hf.good.2 fr rs[i]
    refine ⟨_, rfl, (hrt.gr hg0).gr hg', fun W'' t'' => ⟨((t.trans (hg0.touch _)).trans (hg'.touch _)).trans t'', ?_⟩⟩
    rw [take_snoc hi, List.map_append, ← e, Int.max_eq_left hb]
    rfl
  · rintro e w' ⟨rfl, out, -, ⟨t, e⟩, hrt⟩
    rw [List.take_length] at e
    subst e
    exact ⟨rfl, t, hrt⟩
end
end Go.Proofs.YtbmidhlilafgeaaGreatDoor
end
section
namespace Go.Proofs.YtbmidhlilafgeaaGreatDoor
open Go.RowKit Go.Shelf Word
attribute [local go_sem] Oper.semAt_some

theorem pk_fwd {w : World} {m p1 b1 p2 b2 n : Nat} {L : List Ob} (hE : Ext w m p1 b1 p2 b2 n L) (hT : TabAt w) {f : Nat} (hf : f < 2147483648) :
    Calls Tryz.prog 84 #[.pointer (some ⟨m, 0, none⟩), .int .i64 64, .int .i64 f] w fun e w' => ∃ ff B, e = .returned (.tuple #[.pointer (some ⟨ff, 0, none⟩), .int .i64 0]) ∧ Gr w w' ∧ Fwd w' w.heap.size ff n B f L := by
  refine (fwd_new hE hT 64 f (by decide)).mono ?_
  have hb : baseOk (f : Int) = true := by unfold baseOk; rw [decide_eq_true (by omega), decide_eq_true (by omega)]; rfl
  have hk : blockOk 64 = true := by decide
  rintro e w' ⟨hg, (⟨h, -⟩ | ⟨-, ff, B, base, hB, hbase, rfl, hF⟩)⟩
  · rw [hk, hb] at h; cases h
  · obtain rfl : f = base := by omega
    exact ⟨ff, B, rfl, hg, hF⟩
/-- While pages are let go. -/
structure UmP (w8 wx : World) (S5 : Nat → Prop) (q r g : Nat) (v2 : Vm) (out : List Int) (qs q0 j pg tp : Nat) : Prop where
  t : Touch S5 w8 wx
  vm : ∃ Sj, (∀ b, Sj b → plus S5 w8 b) ∧ VmAt wx Sj q (umN v2 qs (q0 + j - qs))
  rt : RtAt wx r g out
  q1 : ∀ i, i < j → (q0 + i) * pg < tp
section
variable {w : World} {S : Nat → Prop} {q r g : Nat} {v : Vm} {rs : List Int}
set_option maxRecDepth 100000 in
set_option maxHeartbeats 12800000 in
theorem pk_run (hV : VmAt w S q v) (hn : v.n ≠ 0) (hR : RtAt w r g rs) (hT : TabAt w) (htS : ¬ S 0) (hrS : ¬ S r) (hgS : ¬ S g) (fr tp room : Int) :
    Calls Tryz.prog 28 #[.pointer (some ⟨q, 0, none⟩), .pointer (some ⟨r, 0, none⟩), .int .i64 fr, .int .i64 tp, .int .i64 room] w (PkEnd w S q r g v rs fr tp room) := by
  have HV := hid hV.cut
  have HR := hid hR
  have HT := hid hT
  have HNO := hid (And.intro htS (And.intro hrS hgS))
  have htl := hT.lt
  have hrl := hR.lt
  have hn2 := hV.ok.n2
  have hpg := hV.ok.page
  have HOK := hid hV.ok
  have HG1 := hid ((Gr.refl w).alloc (.cells #[.pointer (some ⟨q, 0, none⟩)] 31))
  have hrb := Rec.new w 31 [.pointer (some ⟨q, 0, none⟩)]
  obtain ⟨W0, hW0⟩ : ∃ W0, W0 = w.alloc (.cells #[.pointer (some ⟨q, 0, none⟩)] 31) := ⟨_, rfl⟩
  have hsz0 : W0.heap.size = w.heap.size + 1 := by rw [hW0, World.size_alloc]
  rw [show w.alloc (.cells ([.pointer (some ⟨q, 0, none⟩)] : List Value).toArray 31) = W0 from hW0.symm] at hrb
  rw [← hW0] at HG1
  have HRB := hid hrb
  have HCK := hid (pk_check (HV.out.gr HG1.out) hn (HR.out.gr HG1.out) fr tp room)
  obtain ⟨ce, hce⟩ : ∃ ce : Int, ce = if pkArg v.n fr tp room then 0 else 5 := ⟨_, rfl⟩
  rw [← hce] at HCK
  have HCE := hid hce
  have c0 := hrb.cell (j := 0) rfl
  have cl := hrb.lt
  have HNZ := hid hn
  clear hV hR hT htS hrS hgS hrb hce hn
  have hmf : ∀ (fn : Fn) (first cap : Array Value) (w : World), (Instr.makeFunc fn first cap).run Tryz.prog w = .ok (.func fn first cap) w := fun _ _ _ _ => rfl
  refine (callsIn_wide (n := 5)).1 ?_
  refine callsIn_of_wp_marks Tryz.func28 rfl trivial ?_ rfl
  simp only [Tryz.ntmps28, List.size_toArray, List.length_cons, List.length_nil, Nat.reduceAdd, Nat.reduceSub, Array.replicate_succ, Array.replicate_zero, List.push_toArray, List.append_toArray, List.nil_append, List.cons_append]
  gi_upto_region 1 with (fail)
  rw [← hW0]
  clear hW0
  by_cases hag : pkArg v.n fr tp room = true
  · obtain ⟨h1, h2, h3, h4, h5⟩ := pkArg_true.1 hag
    obtain rfl : ce = 0 := by rw [HCE.out, if_pos hag]
    have HAG := hid hag
    obtain ⟨f, rfl⟩ : ∃ f : Nat, fr = f := ⟨fr.toNat, by omega⟩
    obtain ⟨t, rfl⟩ : ∃ t : Nat, tp = t := ⟨tp.toNat, by omega⟩
    obtain ⟨k, rfl⟩ : ∃ k : Nat, room = k := ⟨room.toNat, by omega⟩
    have HRC := hid (pk_reached (HV.out.gr HG1.out) HNZ.out (HR.out.gr HG1.out) (HG1.out.tab htl HT.out) (fun h => HNO.out.1 h.1) f t k (by omega) (by omega) (by omega))
    clear hag
    gi_upto_region 5 with (first
      | (refine ⟨trivial, ?_⟩; gi_at_call 82; refine (callsIn_wide.2 (HCK.out)).mono ?_; rintro e w1 ⟨rfl, rfl⟩)
      | (refine ⟨trivial, ?_⟩; gi_at_call 83; refine (callsIn_wide.2 (HRC.out)).mono ?_; rintro e w1 ⟨ht1, hv1, (⟨L, m, p1, b1, p2, b2, hI, rfl, hE, hm1, hm2, hm3, hm4, hm5⟩ | ⟨hno, rfl⟩)⟩ <;> (have HT1 := hid ht1; have HV1 := hid hv1; have HB1 := hid (HRB.out.touch ht1 (fun h => by have := h.2; omega)); have HR1 := hid ((HR.out.gr HG1.out).touch ht1 (fun h => HNO.out.2.1 h.1) (fun h => HNO.out.2.2 h.1)); have y0 := HB1.out.cell (j := 0) rfl; have yl := HB1.out.lt; clear ht1 hv1)))
    · have HI := hid hI
      have hw1 := HT1.out.size
      have HT1' := hid (HT.out.touch' ((HG1.out.touch _).trans HT1.out) (fun h => HNO.out.1 h.1))
      have HFN := hid (pk_fwd hE HT1'.out (f := f) (by omega))
      have HX := hid hE
      have HXM := hid (And.intro hm1 (And.intro hm2 (And.intro hm3 (And.intro hm4 hm5))))
      clear hI hE hm1 hm2 hm3 hm4 hm5
      gi_upto_region 8 with (refine ⟨trivial, ?_⟩; gi_at_call 84; refine (callsIn_wide.2 (HFN.out)).mono ?_; rintro e w2 ⟨ff, B, rfl, hg2, hF⟩; have HG2 := hid hg2; have HFW := hid hF; clear hg2 hF)
      obtain ⟨w3, hw3⟩ : ∃ w3, w3 = w2.alloc (.cells #[.pointer (some ⟨ff, 0, none⟩)] 127) := ⟨_, rfl⟩
      have hfc := Rec.new w2 127 [.pointer (some ⟨ff, 0, none⟩)]
      obtain ⟨fb, hfb⟩ : ∃ fb, fb = w2.heap.size := ⟨_, rfl⟩
      have hg3 : Gr w2 w3 := by rw [hw3]; exact (Gr.refl w2).alloc _
      have hsz3 : w3.heap.size = fb + 1 := by rw [hw3, World.size_alloc, hfb]
      rw [show w2.alloc (.cells ([.pointer (some ⟨ff, 0, none⟩)] : List Value).toArray 127) = w3 from hw3.symm] at hfc
      rw [← hfb] at hfc ⊢
      rw [← hw3]
      have hz2 := HG2.out.size
      have HFZ : Hid (w1.heap.size ≤ fb ∧ fb + 1 = w3.heap.size ∧ w2.heap.size = fb) := ⟨by omega, hsz3.symm, hfb.symm⟩
      have HFC := hid hfc
      have HG13 := hid (HG2.out.trans hg3)
      have HG23 := hid hg3
      have HB3 := hid (HB1.out.gr HG13.out)
      have HV3 := hid (HV1.out.gr HG13.out)
      have HTP := hid (fun (W : World) (g : Gr w3 W) => fwd_top (HFW.out.gr (HG23.out.trans g)))
      have HALL : Hid (∀ j (hj : j < L.length), f + sizes (L.take j) ≤ L[j].1) := ⟨fun j hj => pk_le HI.out.1.mkd.good (fr := f) (fun o ho => by have := HI.out.2 o ho; omega) hj⟩
      clear hw3 hfb hfc hg3 y0 yl c0 cl
      have hft : f + sizes L ≤ t := by
        have hI := HI.out
        rcases Nat.eq_zero_or_pos L.length with h0 | h0
        · have : L = [] := List.eq_nil_of_length_eq_zero h0
          subst this
          simp only [sizes]; omega
        · have hj : L.length - 1 < L.length := by omega
          have e1 := HALL.out _ hj
          have e2 := hI.2 _ (List.getElem_mem hj)
          have e3 := sizes_take hj
          rw [show L.length - 1 + 1 = L.length by omega, List.take_length] at e3
          omega
      have HND := hid (fun (W : World) (g : Gr w3 W) => vm_needs (HV3.out.gr g) f (f + sizes L) (by omega) (by omega))
      obtain ⟨nn, hnn⟩ : ∃ nn, nn = sizes L := ⟨_, rfl⟩
      have HNN := hid hnn
      obtain ⟨E, hE⟩ : ∃ E, E = needE v f ((f + nn : Nat) : Int) := ⟨_, rfl⟩
      rw [← hnn] at HND HTP hft
      rw [← hE] at HND
      have HE := hid hE
      have hcast : ((f + nn : Nat) : Int) = (f : Int) + (nn : Int) := by push_cast; rfl
      rw [hcast] at HND
      have HCAST := hid hcast
      clear hnn hE hcast
      have p0 := HB3.out.cell (j := 0) rfl
      have p1' := HFC.out.cell (j := 0) rfl
      obtain ⟨Sx, hSx⟩ : ∃ Sx : World → Prop, Sx = fun W' => W'.cell? ⟨w.heap.size, 0, none⟩ = some (.pointer (some ⟨q, 0, none⟩)) ∧ W'.cell? ⟨fb, 0, none⟩ = some (.pointer (some ⟨ff, 0, none⟩)) := ⟨_, rfl⟩
      have x1 : ∀ p : Held Sx, p.w.cell? ⟨w.heap.size, 0, none⟩ = some (.pointer (some ⟨q, 0, none⟩)) := fun p => by have h := Held.get hSx p; exact h.1
      have x2 : ∀ p : Held Sx, p.w.cell? ⟨fb, 0, none⟩ = some (.pointer (some ⟨ff, 0, none⟩)) := fun p => by have h := Held.get hSx p; exact h.2
      have HS : Hid (∀ W', W'.cell? ⟨w.heap.size, 0, none⟩ = some (.pointer (some ⟨q, 0, none⟩)) ∧ W'.cell? ⟨fb, 0, none⟩ = some (.pointer (some ⟨ff, 0, none⟩)) → Sx W') := ⟨fun W' h => by rw [hSx]; exact h⟩
      have hS0 := HS.out (w3.drew) (⟨p0, p1'⟩)
      have inst : Inhabited (Held Sx) := ⟨⟨_, hS0⟩⟩
      clear hSx
      refine wpIn_region_mixS Sx 6 [([0, 1, 2], 3), ([], 4)] [5] wide_fn (by kernel_rfl) (by kernel_rfl) hS0 ?_
      refine segsIn_step ?_
      try simp only [opsAt, List.getElem?_cons_zero, List.getElem?_cons_succ]
      repeat (go_big_quiet_step (fail))
      refine wpQuiet_nil ?_
      gi_wp2_with ((refine ⟨trivial, ?_⟩; gi_at_call 85; refine (callsIn_wide.2 (HTP.out _ (Gr.refl w3).drew)).mono ?_; rintro e w4 ⟨rfl, hg4⟩; have HG4 := hid ((Gr.refl w3).drew.trans hg4); have HB4 := hid (HB3.out.gr HG4.out); have HFC4 := hid (HFC.out.gr HG4.out); clear hg4))
      refine ⟨.inr (Held.of (HS.out _ (⟨HB4.out.cell (j := 0) rfl, HFC4.out.cell (j := 0) rfl⟩))), ?_⟩
      refine segsIn_step ?_
      try simp only [opsAt, List.getElem?_cons_zero, List.getElem?_cons_succ]
      repeat (go_big_quiet_step (fail))
      refine wpQuiet_nil ?_
      gi_wp2_with ((refine ⟨trivial, ?_⟩; gi_at_call 59; refine (callsIn_wide.2 (HND.out _ HG4.out)).mono ?_; rintro e w5 ⟨rfl, ht5, hg5⟩; have HT5 := hid ht5; have HGW5 := hid hg5; have HB5 := hid (HB4.out.touch ht5 (fun h => by have := h.1.2; omega)); have HFC5 := hid (HFC4.out.touch ht5 (fun h => by have := h.1.2; have := HFZ.out; omega)); clear ht5 hg5))
      refine ⟨.inr (Held.of (HS.out _ (⟨HB5.out.cell (j := 0) rfl, HFC5.out.cell (j := 0) rfl⟩))), ?_⟩
      refine segsIn_end ?_
      try simp only [opsAt, List.getElem?_cons_zero, List.getElem?_cons_succ]
      repeat (go_big_quiet_step (fail))
      refine wpQuiet_nil ?_
      refine NoPanic.normal ?_
      clear x1 x2 hS0 inst
      clear HS Sx
      clear p0 p1'
      have HR5 := hid ((HR1.out.gr (HG13.out.trans HG4.out)).touch HT5.out (fun h => HNO.out.2.1 h.1.1) (fun h => HNO.out.2.2 h.1.1))
      have HTW5 : Hid (Touch S w w5) := ⟨(((HG1.out.touch _).trans (HT1.out.mono (fun i _ h => h.1))).trans ((HG13.out.trans HG4.out).touch _)).trans (HT5.out.mono (fun i _ h => h.1.1))⟩
      by_cases hE0 : E = 0
      · subst hE0
        obtain ⟨v1, hg1, hv1⟩ := HGW5.out
        rw [← HCAST.out] at hg1
        have hnd := HE.out
        rw [HNN.out] at hg1 hnd
        obtain ⟨cx, -⟩ := pk_ctx HOK.out HI.out (by omega) (by omega) (by omega) hnd.symm hg1
        have HCX := hid cx
        have HGR := hid hg1
        have HND0 := hid hnd
        obtain ⟨S5, hS5⟩ : ∃ S5, S5 = cutS (plus (cutS (cutS S w) W0) w4) w5 := ⟨_, rfl⟩
        have hz4 := HG4.out.size
        have hz5 := HT5.out.size
        have HS5 : Hid (∀ b, S5 b → (S b ∧ b < w.heap.size ∨ w4.heap.size ≤ b) ∧ b < w5.heap.size) := ⟨fun b hb => by
          rw [hS5] at hb
          exact ⟨hb.1.imp (fun h => h.1) id, hb.2⟩⟩
        have HV5 : Hid (VmAt w5 S5 q v1) := ⟨by rw [hS5]; exact hv1.cut⟩
        have c13l := HX.out.hm
        have hx5 : Ext w5 m p1 b1 p2 b2 v.n L := (HX.out.gr (HG13.out.trans HG4.out)).touch HT5.out (fun h => by have := h.1.2; have := HXM.out.1; omega) (fun h => by have := h.1.2; have := HXM.out.2.1; omega) (fun h => by have := h.1.2; have := HXM.out.2.2.1; omega) (fun h => by have := h.1.2; have := HXM.out.2.2.2.1; omega) (fun h => by have := h.1.2; have := HXM.out.2.2.2.2; omega)
        have HX5 := hid hx5
        have HTB5 := hid (HT.out.touch' HTW5.out HNO.out.1)
        have hFX : Touch (fun i => i < w.heap.size ∨ w3.heap.size ≤ i) w2 w5 := ((HG23.out.trans HG4.out).touch _).trans (HT5.out.mono (fun i _ h => .inl h.1.2))
        have HFX := hid hFX
        clear hg1 hnd hv1 cx hS5 hx5 hFX
        gi_upto_region 11 with (fail)
        gi_wp2_with (refine ⟨trivial, ?_⟩; gi_at_call 86; refine (callsIn_wide.2 (all_call (some ⟨m, 0, none⟩))).mono ?_; rintro e w6 ⟨rfl, rfl⟩)
        obtain ⟨W6, hW6⟩ : ∃ W6, W6 = w5.alloc (.cells #[.pointer (some ⟨m, 0, none⟩)] 124) := ⟨_, rfl⟩
        have hg6 : Gr w5 W6 := by rw [hW6]; exact (Gr.refl w5).alloc _
        have hs6 : W6.heap.size = w5.heap.size + 1 := by rw [hW6, World.size_alloc]
        have k6 : W6.cell? ⟨w5.heap.size, 0, none⟩ = some (.pointer (some ⟨m, 0, none⟩)) := by rw [hW6]; exact (Boxed.new w5 124 (.pointer (some ⟨m, 0, none⟩))).cell
        rw [← hW6]
        clear hW6
        have hfz := HFZ.out
        have HFW6 : Hid (∀ W, Touch (fun i => i < w.heap.size ∨ w3.heap.size ≤ i) W6 W → Fwd W w1.heap.size ff v.n B f L) := ⟨fun W tt => HFW.out.touch ((HFX.out.trans (hg6.touch _)).trans tt) (fun kk h1 h2 h => by omega)⟩
        have HNS5 : Hid (∀ b, w.heap.size ≤ b → b < w4.heap.size → ¬ (S5 b ∨ W6.heap.size ≤ b)) := ⟨fun b h1 h2 h => by
          rcases h with h | h
          · have := (HS5.out b h).1; omega
          · omega⟩
        have HNR5 : Hid (∀ b, ¬ S b → b < w.heap.size → ¬ (S5 b ∨ W6.heap.size ≤ b)) := ⟨fun b h1 h2 h => by
          rcases h with h | h
          · rcases (HS5.out b h).1 with h' | h'
            · exact h1 h'.1
            · omega
          · omega⟩
        have HLO : Hid (∀ b, S5 b ∨ W6.heap.size ≤ b → b < w.heap.size ∨ w3.heap.size ≤ b) := ⟨fun b h => by
          rcases h with h | h
          · have := (HS5.out b h).1; omega
          · omega⟩
        have hml := HX.out.hm
        have hp1l := HX.out.v1.hp
        have hb1l := HX.out.v1.hb
        have hp2l := HX.out.v2.hp
        have hb2l := HX.out.v2.hb
        obtain ⟨hm1, hm2, hm3, hm4, hm5⟩ := HXM.out
        have HB6 := hid (HB5.out.gr hg6)
        have HFC6 := hid (HFC5.out.gr hg6)
        have HR6 := hid (HR5.out.gr hg6)
        have htl5 := HTB5.out.lt
        have HG6 := hid hg6
        have HK6 := hid k6
        clear k6 hg6
        have tI : ∀ (j : Nat) A B', (Touch (fun i => S5 i ∨ W6.heap.size ≤ i) W6 A ∧ j ≤ L.length ∧ ∃ v'', VmAt A S5 q v'' ∧ Pkd v1 v'' L f (sizes (L.take j))) → Touch (fun i => W6.heap.size ≤ i ∧ i < W6.heap.size + 2 + 4) A B' → (Touch (fun i => S5 i ∨ W6.heap.size ≤ i) W6 B' ∧ j ≤ L.length ∧ ∃ v'', VmAt B' S5 q v'' ∧ Pkd v1 v'' L f (sizes (L.take j))) := fun j A B' h tt => by
          obtain ⟨h1, h2, v'', h3, h4⟩ := h
          exact ⟨h1.trans (tt.mono (fun i _ h => .inr h.1)), h2, v'', h3.touch tt (fun i hi _ h => by have := (HS5.out i hi).2; omega), h4⟩
        refine range_lawU (K := 4) (s0 := 0) rfl (by omega) (gf := 150) (lb := #[.pointer (some ⟨w5.heap.size, 0, none⟩)]) rfl trivial (enters_of Tryz.func150 (by kernel_rfl) rfl)
          (all_seqU _ w5.heap.size m p1 b1 p2 b2 v.n L _) (fun _ => rfl)
          (fun (j : Nat) A => Touch (fun i => S5 i ∨ W6.heap.size ≤ i) W6 A ∧ j ≤ L.length ∧ ∃ v'', VmAt A S5 q v'' ∧ Pkd v1 v'' L f (sizes (L.take j))) (fun _ _ => False) tI (fun _ _ _ h _ => h)
          (fun j A h => ⟨(HX5.out.gr HG6.out).touch h.1 (HNS5.out _ (by omega) (by omega)) (HNS5.out _ (by omega) (by omega)) (HNS5.out _ (by omega) (by omega)) (HNS5.out _ (by omega) (by omega)) (HNS5.out _ (by omega) (by omega)), (HG6.out.tab htl5 HTB5.out).touch' h.1 (HNR5.out _ HNO.out.1 (by omega)), (h.1.cell (by omega) (fun h => by
            rcases h with h | h
            · have := (HS5.out _ h).2; omega
            · omega) 0).trans HK6.out, h.2.1⟩)
          ⟨Touch.refl _ _, Nat.zero_le _, v1, HV5.out.gr HG6.out, by simpa [sizes] using Pkd.zero HCX.out.ok L f⟩ ?round ?done (fun _ _ _ _ h _ => h.elim)
        case round =>
          intro lp j x W7 hsz7 hI7 hgv
          dsimp only [encO]
          gi_wp2
          refine ⟨Gr.refl _, fun W8 ht8 hI8 => ?_⟩
          have hjl : j < L.length := by
            rcases Nat.lt_or_ge j L.length with h | h
            · exact h
            · unfold AllGives at hgv; rw [List.getElem?_eq_none h] at hgv; cases hgv
          obtain rfl : x = L[j] := by unfold AllGives at hgv; rw [List.getElem?_eq_getElem hjl] at hgv; exact (Option.some.inj hgv).symm
          obtain ⟨hT8, -, vx, hvx, hpx⟩ := hI8
          have c5 := (HB6.out.touch hT8 (HNS5.out _ (by omega) (by omega))).cell (j := 0) rfl
          have c15 := (HFC6.out.touch hT8 (HNS5.out _ (by omega) (by omega))).cell (j := 0) rfl
          have HMV := hid (pk_move hvx (fun W tt => HFW6.out W ((hT8.mono (fun i _ h => HLO.out i h)).trans (tt.mono (fun i _ h => HLO.out i (.inl h.1))))) HCX.out hjl hpx)
          have HT8 := hid hT8
          have HSZ := hid (sizes_take hjl)
          clear hI7 hgv ht8 hT8 hvx hpx
          gi_wp2_with (refine ⟨trivial, ?_⟩; gi_at_call 87; refine (CallsIn.inRound lp (callsIn_wide.2 (HMV.out))).mono ?_; rintro e w7 ⟨rfl, ht7, v7, hv7, hp7⟩)
          refine ⟨ht7.mono (fun i _ h => .inl (by have := (HS5.out i h.1).2; omega)), j + 1, rfl, HT8.out.trans (ht7.mono (fun i _ h => .inl h.1)), hjl, v7, hv7.mono (fun b h => h.1), ?_⟩
          rw [HSZ.out]
          exact hp7
        case done =>
          rintro D j W7 hD rfl hI7 hK
          obtain ⟨hT7, -, v2, hv2, hp2⟩ := hI7
          rw [List.take_length] at hp2
          have c5 := (HB6.out.touch hT7 (HNS5.out _ (by omega) (by omega))).cell (j := 0) rfl
          have c15 := (HFC6.out.touch hT7 (HNS5.out _ (by omega) (by omega))).cell (j := 0) rfl
          have hHFW7 : ∀ W, Touch (fun i => i < w.heap.size ∨ w3.heap.size ≤ i) W7 W → Fwd W w1.heap.size ff v.n B f L := fun W tt => HFW6.out W ((hT7.mono (fun i _ h => HLO.out i h)).trans tt)
          have HTU := hid (pk_turns (fun W tt => hHFW7 W (tt.mono (fun i _ h => .inl (by omega)))) c15 (by omega) (HR6.out.touch hT7 (HNR5.out r HNO.out.2.1 (by omega)) (HNR5.out g HNO.out.2.2 (by omega))) (toV_zero HCX.out))
          have HB7 := hid (HB6.out.touch hT7 (HNS5.out _ (by omega) (by omega)))
          have HFC7 := hid (HFC6.out.touch hT7 (HNS5.out _ (by omega) (by omega)))
          have HFW7 := hid hHFW7
          have HT7 := hid hT7
          have HV2 := hid hv2
          have HP2 := hid hp2
          have HK := hid hK
          have HD := hid hD
          have hz7 := hT7.size
          clear c5 c15 hHFW7 hT7 hv2 hp2 hK hD
          gi_upto_region 16 with (refine ⟨trivial, ?_⟩; gi_at_call 68; refine (callsIn_wide.2 (HTU.out)).mono ?_; rintro e w8 ⟨rfl, ht8, hr8⟩; have HT8 := hid ht8; have HR8 := hid hr8; have HB8 := hid (HB7.out.touch ht8 (fun h => by omega)); have HFC8 := hid (HFC7.out.touch ht8 (fun h => by omega)); have hz8 := ht8.size; clear ht8 hr8)
          have HFW8 : Hid (∀ W, Touch (fun i => i < w.heap.size ∨ w3.heap.size ≤ i) w8 W → Fwd W w1.heap.size ff v.n B f L) := ⟨fun W tt => HFW7.out W ((HT8.out.mono (fun i _ h => .inl (by omega))).trans tt)⟩
          have hgS5 : ¬ S5 g := fun h => HNR5.out g HNO.out.2.2 (by omega) (.inl h)
          have HV8 := hid (HV2.out.touch HT8.out (fun b hb _ h => hgS5 (h ▸ hb)))
          have HGS5 := hid hgS5
          clear hgS5
          have HD5 : Hid (D = W6.heap.size ∧ D < W7.heap.size ∧ D ≠ g ∧ ¬ S5 D) := ⟨HD.out, (Array.getElem?_eq_some_iff.1 HK.out).1, by rw [HD.out]; omega, fun h => by rw [HD.out] at h; have := (HS5.out _ h).2; omega⟩
          have HK8 : Hid (w8.heap[D]? = some (.deferred (some []))) := ⟨(HT8.out.block D HD5.out.2.1 HD5.out.2.2.1).trans HK.out⟩
          have hpgv : v2.pl.pg = v.pl.pg := HP2.out.sm.pg.trans HGR.out.pg
          have HVP := hid (fun (W : World) (g' : Gr w8 W) => vm_page (HV8.out.gr g'))
          rw [hpgv] at HVP
          obtain ⟨pg, hpge⟩ : ∃ pg, pg = v.pl.pg := ⟨_, rfl⟩
          have HPGE := hid hpge
          rw [← hpge] at HVP hpg
          have HPV : Hid (v2.pl.pg = pg) := ⟨by rw [hpgv, hpge]⟩
          obtain ⟨q0, hq0⟩ : ∃ q0, q0 = f / pg := ⟨_, rfl⟩
          have hq0m : q0 * pg ≤ f := by rw [hq0]; exact Nat.div_mul_le_self f pg
          have HQ0 := hid hq0
          have g1 : ((f : Int).tdiv (pg : Int)) = (q0 : Int) := by rw [hq0]; rfl
          have g2 : ((f : Int) / (pg : Int)) = (q0 : Int) := by rw [hq0]; rfl
          have hpg0 : (pg : Int) ≠ 0 := by omega
          have hq0n : q0 ≤ 524288 := by have := Nat.div_le_self f pg; omega
          have HQM := hid hq0m
          obtain ⟨qs, hqs⟩ : ∃ qs, qs = pgUp (f + nn) pg := ⟨_, rfl⟩
          have HQS := hid hqs
          have hqs0 : q0 ≤ qs := by
            rcases Nat.lt_or_ge qs q0 with h | h
            · exfalso
              have h1 := (pgUp_le (nt := f + nn) (q := qs) hpg.1).2 (by rw [hqs]; exact Nat.le_refl _)
              have h2 : (qs + 1) * pg ≤ q0 * pg := Nat.mul_le_mul_right _ (by omega)
              rw [Nat.add_mul, Nat.one_mul] at h2
              omega
            · exact h
          have HQL := hid hqs0
          have hft2 : f + nn ≤ 1048576 := by omega
          have HUM : Hid (UmP w8 w8 S5 q r g v2 (rs.map (toV L f)) qs q0 0 pg t) := ⟨Touch.refl _ _, ⟨S5, fun b h => .inl h, by rw [show q0 + 0 - qs = 0 by omega]; exact HV8.out⟩, HR8.out, fun i hi => absurd hi (Nat.not_lt_zero _)⟩
          have u5 := HB8.out.cell (j := 0) rfl
          have u5l := HB8.out.lt
          clear hpge hq0 hpgv hq0m hqs hqs0
          gi_wp2_with (refine ⟨trivial, ?_⟩; gi_at_call 71; refine (callsIn_wide.2 (HVP.out _ (Gr.refl w8))).mono ?_; rintro e w9 ⟨rfl, rfl⟩)
          clear u5 u5l
          gi_loopw [20] (fun s20 wx => ∃ j : Nat, Hid (UmP w8 wx S5 q r g v2 (rs.map (toV L f)) qs q0 j pg t) ∧ s20 = .int .i64 ((q0 + j : Nat) : Int)) (fun s20 _ => t - (intOf s20).toNat * pg)
          case atStart => exact ⟨0, HUM, rfl⟩
          case round =>
            clear HUM
            obtain ⟨j, HU, rfl⟩ := hrel
            obtain ⟨Sj, hsj, hvj⟩ := HU.out.vm
            have hVP := fun (W : World) (g' : Gr wr W) => vm_page (hvj.gr g')
            rw [(umN_same v2 qs _).2.1, HPV.out] at hVP
            have HVP2 := hid hVP
            have HVJ := hid hvj
            have HSJ := hid hsj
            have HBX := hid (HB8.out.touch HU.out.t (fun h => HNS5.out _ (Nat.le_refl _) (by omega) (.inl h)))
            have HFX8 := hid (HFC8.out.touch HU.out.t (fun h => HNS5.out fb (by omega) (by omega) (.inl h)))
            have HTPX := hid (fun (W : World) (g' : Gr wr W) => fwd_top (HFW8.out W ((HU.out.t.mono (fun i _ h => HLO.out i (.inl h))).trans (g'.touch _))))
            rw [← HNN.out] at HTPX
            obtain ⟨qq, hqq⟩ : ∃ qq, qq = q0 + j := ⟨_, rfl⟩
            obtain ⟨pp, hpp⟩ : ∃ pp, pp = qq * pg := ⟨_, rfl⟩
            have hppb : pp ≤ 1048576 := by
              rcases Nat.eq_zero_or_pos j with h0 | h0
              · rw [hpp, hqq, h0, Nat.add_zero]; have := HQM.out; omega
              · have := HU.out.q1 (j - 1) (by omega)
                have e : pp = (q0 + (j - 1)) * pg + pg := by rw [hpp, hqq, show q0 + j = (q0 + (j - 1)) + 1 by omega, Nat.add_mul, Nat.one_mul]
                omega
            have hqb : qq ≤ pp := by rw [hpp]; exact Nat.le_mul_of_pos_right _ (by omega)
            have hmul : ((qq : Int) * (pg : Int)) = (pp : Int) := by rw [hpp]; push_cast; rfl
            have HQQ := hid (And.intro hqq hpp)
            rw [← hqq]
            clear hVP hvj hsj hqq hpp
            have u5 := HBX.out.cell (j := 0) rfl
            have u5l := HBX.out.lt
            have u15 := HFX8.out.cell (j := 0) rfl
            have u15l := HFX8.out.lt
            by_cases hlt : pp < t
            · have e1 : decide ((pp : Int) < (t : Int)) = true := decide_eq_true (by omega)
              have e2 : decide (pp < t) = true := decide_eq_true hlt
              have HLT := hid hlt
              clear hlt
              by_cases hge : f + nn ≤ pp
              · have e3 : decide ((f : Int) + (nn : Int) ≤ (pp : Int)) = true := decide_eq_true (by omega)
                have HGE := hid hge
                clear hge
                gi_upto_region 19 with (refine ⟨trivial, ?_⟩; gi_at_call 71; refine (callsIn_wide.2 (HVP2.out _ (Gr.refl wr))).mono ?_; rintro e w10 ⟨rfl, rfl⟩)
                obtain ⟨Sx, hSx⟩ : ∃ Sx : World → Prop, Sx = fun W' => W'.cell? ⟨w.heap.size, 0, none⟩ = some (.pointer (some ⟨q, 0, none⟩)) ∧ W'.cell? ⟨fb, 0, none⟩ = some (.pointer (some ⟨ff, 0, none⟩)) := ⟨_, rfl⟩
                have x1 : ∀ p : Held Sx, p.w.cell? ⟨w.heap.size, 0, none⟩ = some (.pointer (some ⟨q, 0, none⟩)) := fun p => by have h := Held.get hSx p; exact h.1
                have x2 : ∀ p : Held Sx, p.w.cell? ⟨fb, 0, none⟩ = some (.pointer (some ⟨ff, 0, none⟩)) := fun p => by have h := Held.get hSx p; exact h.2
                have HS : Hid (∀ W', W'.cell? ⟨w.heap.size, 0, none⟩ = some (.pointer (some ⟨q, 0, none⟩)) ∧ W'.cell? ⟨fb, 0, none⟩ = some (.pointer (some ⟨ff, 0, none⟩)) → Sx W') := ⟨fun W' h => by rw [hSx]; exact h⟩
                have hS0 := HS.out (wr.drew) (⟨u5, u15⟩)
                have inst : Inhabited (Held Sx) := ⟨⟨_, hS0⟩⟩
                clear hSx
                refine wpIn_region_mixS Sx 7 [([0, 1, 4], 2), ([3], 5)] [6] wide_fn (by kernel_rfl) (by kernel_rfl) hS0 ?_
                refine segsIn_step ?_
                try simp only [opsAt, List.getElem?_cons_zero, List.getElem?_cons_succ]
                repeat (go_big_quiet_step (fail))
                refine wpQuiet_nil ?_
                gi_wp2_with ((refine ⟨trivial, ?_⟩; gi_at_call 71; refine (callsIn_wide.2 (HVP2.out _ (Gr.refl wr).drew)).mono ?_; rintro e w10 ⟨rfl, rfl⟩))
                refine ⟨.inr (Held.of (HS.out _ (⟨u5, u15⟩))), ?_⟩
                refine segsIn_step ?_
                try simp only [opsAt, List.getElem?_cons_zero, List.getElem?_cons_succ]
                repeat (go_big_quiet_step (fail))
                refine wpQuiet_nil ?_
                gi_wp2_with ((refine ⟨trivial, ?_⟩; gi_at_call 85; refine (callsIn_wide.2 (HTPX.out _ (Gr.refl wr).drew)).mono ?_; rintro e w10 ⟨rfl, hg10⟩; have HG10 := hid ((Gr.refl wr).drew.trans hg10); have z5 := (HBX.out.gr HG10.out).cell (j := 0) rfl; have z5l := (HBX.out.gr HG10.out).lt; have z15 := (HFX8.out.gr HG10.out).cell (j := 0) rfl; clear hg10))
                refine ⟨.inr (Held.of (HS.out _ (⟨z5, z15⟩))), ?_⟩
                refine segsIn_end ?_
                try simp only [opsAt, List.getElem?_cons_zero, List.getElem?_cons_succ]
                repeat (go_big_quiet_step (fail))
                refine wpQuiet_nil ?_
                refine NoPanic.normal ?_
                clear x1 x2 hS0 inst
                clear HS Sx
                clear u5 u5l u15 u15l z15
                gi_wp2_with (refine ⟨trivial, ?_⟩; gi_at_call 72; refine (callsIn_wide.2 (vm_unmap (HVJ.out.gr HG10.out) (qq : Int))).mono ?_; rintro e w11 ⟨rfl, ht11, hv11⟩; have HT11 := hid ht11; have HV11 := hid hv11; clear ht11 hv11)
                go_roundw
                case rel =>
                  have hzx := HU.out.t.size
                  have hzy := HG10.out.size
                  refine ⟨j + 1, ⟨⟨?_, ⟨plus Sj w10, fun b hb => ?_, ?_⟩, ?_, fun i hi => ?_⟩⟩, ?_⟩
                  · exact (HU.out.t.trans (HG10.out.touch _)).trans' HT11.out (fun b hb h => (HSJ.out b h).elim id (fun h => by omega))
                  · rcases hb with h | h
                    · exact HSJ.out b h
                    · right; omega
                  · have h1 := HV11.out
                    have h2 := (pgUp_le (nt := f + nn) (q := qq) hpg.1).1 (by rw [← HQQ.out.2]; exact HGE.out)
                    rw [← HQS.out] at h2
                    have e : q0 + (j + 1) - qs = (q0 + j - qs) + 1 := by have := HQQ.out.1; omega
                    rw [e]
                    show VmAt _ _ _ ((umN v2 qs (q0 + j - qs)).um ((qs + (q0 + j - qs) : Nat) : Int))
                    rw [show qs + (q0 + j - qs) = qq by have := HQQ.out.1; omega]
                    exact h1
                  · refine (HU.out.rt.gr HG10.out).touch HT11.out (fun h => ?_) (fun h => ?_)
                    · exact (HSJ.out _ h).elim (fun h => HNR5.out r HNO.out.2.1 (by omega) (.inl h)) (fun h => by omega)
                    · exact (HSJ.out _ h).elim HGS5.out (fun h => by omega)
                  · rcases Nat.lt_or_ge i j with h | h
                    · exact HU.out.q1 i h
                    · obtain rfl : i = j := by omega
                      rw [← HQQ.out.1, ← HQQ.out.2]; exact HLT.out
                  · rw [show q0 + (j + 1) = qq + 1 by rw [HQQ.out.1]; omega]
                    go_num
                case measure =>
                  have h1 := HLT.out
                  have h2 := HQQ.out.2
                  simp only [intOf]
                  rw [show ((qq : Int) + 1).toNat = qq + 1 by omega, Int.toNat_natCast, Nat.add_mul, Nat.one_mul, ← h2]
                  omega
              · have e3 : decide ((f : Int) + (nn : Int) ≤ (pp : Int)) = false := decide_eq_false (by omega)
                have HGE := hid hge
                clear hge
                gi_upto_region 19 with (refine ⟨trivial, ?_⟩; gi_at_call 71; refine (callsIn_wide.2 (HVP2.out _ (Gr.refl wr))).mono ?_; rintro e w10 ⟨rfl, rfl⟩)
                obtain ⟨Sx, hSx⟩ : ∃ Sx : World → Prop, Sx = fun W' => W'.cell? ⟨w.heap.size, 0, none⟩ = some (.pointer (some ⟨q, 0, none⟩)) ∧ W'.cell? ⟨fb, 0, none⟩ = some (.pointer (some ⟨ff, 0, none⟩)) := ⟨_, rfl⟩
                have x1 : ∀ p : Held Sx, p.w.cell? ⟨w.heap.size, 0, none⟩ = some (.pointer (some ⟨q, 0, none⟩)) := fun p => by have h := Held.get hSx p; exact h.1
                have x2 : ∀ p : Held Sx, p.w.cell? ⟨fb, 0, none⟩ = some (.pointer (some ⟨ff, 0, none⟩)) := fun p => by have h := Held.get hSx p; exact h.2
                have HS : Hid (∀ W', W'.cell? ⟨w.heap.size, 0, none⟩ = some (.pointer (some ⟨q, 0, none⟩)) ∧ W'.cell? ⟨fb, 0, none⟩ = some (.pointer (some ⟨ff, 0, none⟩)) → Sx W') := ⟨fun W' h => by rw [hSx]; exact h⟩
                have hS0 := HS.out (wr.drew) (⟨u5, u15⟩)
                have inst : Inhabited (Held Sx) := ⟨⟨_, hS0⟩⟩
                clear hSx
                refine wpIn_region_mixS Sx 7 [([0, 1, 4], 2), ([3], 5)] [6] wide_fn (by kernel_rfl) (by kernel_rfl) hS0 ?_
                refine segsIn_step ?_
                try simp only [opsAt, List.getElem?_cons_zero, List.getElem?_cons_succ]
                repeat (go_big_quiet_step (fail))
                refine wpQuiet_nil ?_
                gi_wp2_with ((refine ⟨trivial, ?_⟩; gi_at_call 71; refine (callsIn_wide.2 (HVP2.out _ (Gr.refl wr).drew)).mono ?_; rintro e w10 ⟨rfl, rfl⟩))
                refine ⟨.inr (Held.of (HS.out _ (⟨u5, u15⟩))), ?_⟩
                refine segsIn_step ?_
                try simp only [opsAt, List.getElem?_cons_zero, List.getElem?_cons_succ]
                repeat (go_big_quiet_step (fail))
                refine wpQuiet_nil ?_
                gi_wp2_with ((refine ⟨trivial, ?_⟩; gi_at_call 85; refine (callsIn_wide.2 (HTPX.out _ (Gr.refl wr).drew)).mono ?_; rintro e w10 ⟨rfl, hg10⟩; have HG10 := hid ((Gr.refl wr).drew.trans hg10); have z5 := (HBX.out.gr HG10.out).cell (j := 0) rfl; have z5l := (HBX.out.gr HG10.out).lt; have z15 := (HFX8.out.gr HG10.out).cell (j := 0) rfl; clear hg10))
                refine ⟨.inr (Held.of (HS.out _ (⟨z5, z15⟩))), ?_⟩
                refine segsIn_end ?_
                try simp only [opsAt, List.getElem?_cons_zero, List.getElem?_cons_succ]
                repeat (go_big_quiet_step (fail))
                refine wpQuiet_nil ?_
                refine NoPanic.normal ?_
                clear x1 x2 hS0 inst
                clear HS Sx
                clear u5 u5l u15 u15l z15
                gi_wp2
                go_roundw
                case rel =>
                  refine ⟨j + 1, ⟨⟨HU.out.t.trans (HG10.out.touch _), ⟨Sj, HSJ.out, ?_⟩, HU.out.rt.gr HG10.out, fun i hi => ?_⟩⟩, ?_⟩
                  · have h1 := HVJ.out.gr HG10.out
                    have h2 : ¬ qs ≤ qq := fun h => HGE.out (by
                      rw [HQQ.out.2]
                      exact (pgUp_le hpg.1).2 (by rw [← HQS.out]; exact h))
                    have e : q0 + (j + 1) - qs = q0 + j - qs := by have := HQQ.out.1; omega
                    rw [e]
                    exact h1
                  · rcases Nat.lt_or_ge i j with h | h
                    · exact HU.out.q1 i h
                    · obtain rfl : i = j := by omega
                      rw [← HQQ.out.1, ← HQQ.out.2]; exact HLT.out
                  · rw [show q0 + (j + 1) = qq + 1 by rw [HQQ.out.1]; omega]
                    go_num
                case measure =>
                  have h1 := HLT.out
                  have h2 := HQQ.out.2
                  simp only [intOf]
                  rw [show ((qq : Int) + 1).toNat = qq + 1 by omega, Int.toNat_natCast, Nat.add_mul, Nat.one_mul, ← h2]
                  omega
            · have e1 : decide ((pp : Int) < (t : Int)) = false := decide_eq_false (by omega)
              have e2 : decide (pp < t) = false := decide_eq_false hlt
              have HLT := hid hlt
              clear hlt
              gi_wp2_with (first
                | (refine ⟨trivial, ?_⟩; gi_at_call 71; refine (callsIn_wide.2 (HVP2.out _ (Gr.refl wr))).mono ?_; rintro e w10 ⟨rfl, rfl⟩)
                | (refine ⟨trivial, ?_⟩; gi_at_call 85; refine (callsIn_wide.2 (HTPX.out _ (Gr.refl wr))).mono ?_; rintro e w10 ⟨rfl, hg10⟩; have HG10 := hid hg10; clear hg10))
              have hD5 : w10.heap[D]? = some (.deferred (some [])) := by
                have h1 := HU.out.t.size
                rw [HG10.out.block (by have := HD5.out.2.1; omega), HU.out.t.block D (by have := HD5.out.2.1; omega) HD5.out.2.2.2]
                exact HK8.out
              refine ⟨by simp, .inl ⟨_, _, rfl, run_takeDeferred hD5, ?_⟩⟩
              have tt := touch_put1 w10 D (.deferred none)
              have hd := HD5.out
              have h8x := HU.out.t.size
              refine ⟨.tuple #[.int .i64 ((f : Int) + (nn : Int)), .int .i64 0], ?_, ?_, .inr ⟨HAG.out, .inr ⟨L, f, t, HI.out, rfl, rfl, .inr ⟨HND0.out.symm, ?_, v1, v2, j, ⟨HGR.out, HCX.out, HP2.out, ?_, ?_⟩, ?_, ?_⟩⟩⟩⟩
              · simp [results, Tryz.f28, go_sem]
              · have a1 := HTW5.out.trans (HG6.out.touch S)
                have a2 := a1.trans' HT7.out (fun b hb h => by
                  rcases h with h | h
                  · rcases (HS5.out b h).1 with h' | h'
                    · exact h'.1
                    · omega
                  · omega)
                have a3 := (a2.mono (T := fun b => b = g ∨ S b) (fun _ _ h => .inr h)).trans (HT8.out.mono (fun i _ h => .inl h))
                have a4 := a3.trans' HU.out.t (fun b hb h => by
                  rcases (HS5.out b h).1 with h' | h'
                  · exact .inr h'.1
                  · omega)
                exact (a4.trans (HG10.out.touch _)).trans' tt (fun b hb h => by omega)
              · rw [← HNN.out]; push_cast; rfl
              · intro i hi
                rw [← HPGE.out, ← HQ0.out]; exact HU.out.q1 i hi
              · rw [← HPGE.out, ← HQ0.out, ← HQQ.out.1, ← HQQ.out.2]; have := HLT.out; omega
              · unfold pkUm
                rw [← HNN.out, ← HPGE.out, ← HQS.out, ← HQ0.out]
                refine ((HVJ.out.gr HG10.out).touch tt (fun b hb _ h => ?_)).mono (fun b hb => ?_)
                · rcases HSJ.out b hb with h' | h'
                  · exact hd.2.2.2 (h ▸ h')
                  · omega
                · rcases HSJ.out b hb with h' | h'
                  · exact (HS5.out b h').1.imp (fun h => h.1) (fun h => by omega)
                  · right; omega
              · exact (HU.out.rt.gr HG10.out).touch tt (fun h => by omega) (fun h => hd.2.2.1 h.symm)
      · have d0 : (E != 0) = true := by simpa using hE0
        have HE0 := hid hE0
        clear hE0
        gi_wp2
        refine ⟨.tuple #[.int .i64 0, .int .i64 E], ?_, HTW5.out.mono (fun i _ h => .inr h), .inr ⟨HAG.out, .inr ⟨L, f, t, HI.out, rfl, rfl, .inl ⟨?_, ?_, ?_, HR5.out⟩⟩⟩⟩
        · simp [results, Tryz.f28, go_sem]
        · rw [← HNN.out, ← HE.out]; exact HE0.out
        · rw [← HNN.out, ← HE.out]
        · have hF : needF v f ((f + nn : Nat) : Int) = [] := by unfold needF; rw [if_neg (fun h => HE0.out (HE.out.trans h.1))]
          obtain ⟨v', hg, hv⟩ := HGW5.out
          rw [← HCAST.out, hF] at hg
          have h1 := HT1.out.size
          have h2 := (HG13.out.trans HG4.out).size
          exact ⟨v', hg, hv.mono (fun b hb => hb.elim (fun h => .inl h.1.1) (fun h => .inr (by omega)))⟩
    · have HNOL := hid hno
      clear hno
      gi_wp2
      refine ⟨.tuple #[.int .i64 0, .int .i64 25], ?_, ?_, .inr ⟨HAG.out, .inl ⟨HNOL.out, rfl, ?_, ?_⟩⟩⟩
      · simp [results, Tryz.f28, go_sem]
      · exact (HG1.out.touch _).trans (HT1.out.mono (fun i _ h => .inr h.1))
      · exact HV1.out.mono (fun b h => h.1.1)
      · exact HR1.out
  · obtain rfl : ce = 5 := by rw [HCE.out, if_neg hag]
    have HAG := hid hag
    clear hag
    gi_wp2_with (refine ⟨trivial, ?_⟩; gi_at_call 82; refine (callsIn_wide.2 (HCK.out)).mono ?_; rintro e w1 ⟨rfl, rfl⟩)
    refine ⟨.tuple #[.int .i64 0, .int .i64 5], ?_, ?_, .inl ⟨by simpa using HAG.out, rfl, ?_, ?_⟩⟩
    · simp [results, Tryz.f28, go_sem]
    · exact HG1.out.touch _
    · exact (HV.out.gr HG1.out).mono (fun b h => h.1)
    · exact HR.out.gr HG1.out
end
end Go.Proofs.YtbmidhlilafgeaaGreatDoor
end
section
namespace Go.Proofs.YtbmidhlilafgeaaGreatDoor
open Go.RowKit Word

section
variable {w : World} {A0 A : Option Addr} {cp cr M : Nat} {v : Vm} {rs O : List Int} {L : List Ob}
end
def us (l : List Nat) : List Value := l.map fun x => .int .u64 (x : Nat)
section
variable {w : World} {A0 A : Option Addr} {cp cr M : Nat} {v : Vm} {rs O : List Int} {L : List Ob}
end
end Go.Proofs.YtbmidhlilafgeaaGreatDoor
end
section
namespace Go.Proofs.YtbmidhlilafgeaaGreatDoor
open Go.RowKit Word

/-- What Need maps. -/
theorem need_ldE {v v1 : Vm} (h : VmOk v) {f t : Nat} (_ht : t ≤ v.n) (hE : needE v f t = 0) (hG : Grown v v1 (needF v f t)) {a : Nat} (ha : a < v.n) :
    v1.ldE a = 0 ↔ v.ldE a = 0 ∨ (f < t ∧ f / v.pl.pg ≤ a / v.pl.pg ∧ a / v.pl.pg ≤ (t - 1) / v.pl.pg) := by
  have hp := h.page
  rw [hG.ldE h ha]
  rcases Nat.lt_or_ge f t with hft | hft
  · have hF : needF v f t = unmL v ((f : Int) / v.pl.pg).toNat (pgsN v f t) := by unfold needF; rw [if_pos ⟨hE, by omega⟩]
    have e1 : ((f : Int) / (v.pl.pg : Int)).toNat = f / v.pl.pg := by rw [← Int.natCast_ediv]; exact Int.toNat_natCast _
    have e2 : pgsN v f t = (t - 1) / v.pl.pg + 1 - f / v.pl.pg := by
      unfold pgsN
      rw [show (t : Int) - 1 = ((t - 1 : Nat) : Int) by omega, ← Int.natCast_ediv, ← Int.natCast_ediv]
      have : f / v.pl.pg ≤ (t - 1) / v.pl.pg := Nat.div_le_div_right (by omega)
      omega
    have g0 : f / v.pl.pg ≤ (t - 1) / v.pl.pg := Nat.div_le_div_right (by omega)
    rw [hF]
    have hmem : a / v.pl.pg ∈ unmL v ((f : Int) / v.pl.pg).toNat (pgsN v f t) ↔ (f / v.pl.pg ≤ a / v.pl.pg ∧ a / v.pl.pg < f / v.pl.pg + ((t - 1) / v.pl.pg + 1 - f / v.pl.pg)) ∧ v.pt.getD (a / v.pl.pg) 0 = 0 := by rw [unmL_mem, e1, e2]
    by_cases h0 : v.pt.getD (a / v.pl.pg) 0 = 0
    · have hl : v.ldE a = 12 := by rw [h.ldE_of ha, if_pos h0]
      rw [hl]
      constructor
      · intro hx
        split at hx
        · rename_i hc; have := hmem.1 hc; exact .inr ⟨hft, by omega⟩
        · cases hx
      · rintro (hx | hx)
        · cases hx
        · rw [if_pos (hmem.2 ⟨by omega, h0⟩)]
    · have hl : v.ldE a = 0 := by rw [h.ldE_of ha, if_neg h0]
      rw [if_neg (fun hc => h0 (hmem.1 hc).2), hl]
      exact ⟨fun _ => .inl rfl, fun _ => rfl⟩
  · have hF : needF v f t = [] := by unfold needF; rw [if_neg (fun hc => by have := hc.2; omega)]
    rw [hF, if_neg (by simp)]
    exact ⟨.inl, fun hx => hx.elim id (fun hx => by omega)⟩
section
variable {v v1 v2 : Vm} {rs : List Int} {f t j : Nat} {L : List Ob}
theorem PkDone.base (d : PkDone v rs f t L v1 v2 j) : (pkUm v v2 f (f + sizes L) j).n = v.n ∧ (pkUm v v2 f (f + sizes L) j).pl.pg = v.pl.pg ∧ (pkUm v v2 f (f + sizes L) j).pl.rm = v.pl.rm ∧ VmOk (pkUm v v2 f (f + sizes L) j) ∧ v2.n = v.n ∧ v2.pl.pg = v.pl.pg := by
  obtain ⟨e1, e2, e3, -⟩ := umN_same v2 (pgUp (f + sizes L) v.pl.pg) (f / v.pl.pg + j - pgUp (f + sizes L) v.pl.pg)
  have n2 : v2.n = v.n := d.st.sm.n.trans d.gr.n
  have p2 : v2.pl.pg = v.pl.pg := d.st.sm.pg.trans d.gr.pg
  exact ⟨e1.trans n2, e2.trans p2, e3.trans (d.st.sm.rm.trans d.gr.rm), umN_ok d.st.ok _ _, n2, p2⟩
/-- Which words can be loaded behind it. -/
theorem PkDone.ldE (d : PkDone v rs f t L v1 v2 j) (h : VmOk v) (hE : needE v f ((f + sizes L : Nat) : Int) = 0) (hn : f + sizes L ≤ v.n) {a : Nat} (ha : a < v.n) :
    (pkUm v v2 f (f + sizes L) j).ldE a = 0 ↔ (v.ldE a = 0 ∨ (0 < sizes L ∧ f / v.pl.pg ≤ a / v.pl.pg ∧ a / v.pl.pg ≤ (f + sizes L - 1) / v.pl.pg)) ∧ ¬ (pgUp (f + sizes L) v.pl.pg ≤ a / v.pl.pg ∧ a / v.pl.pg < f / v.pl.pg + j) := by
  obtain ⟨-, -, -, -, n2, p2⟩ := d.base
  have h1 := need_ldE h hn hE d.gr ha
  unfold pkUm
  rw [umN_ldE d.st.ok _ _ (by rw [n2]; exact ha), p2, d.st.sm.ldE]
  rw [show (0 < sizes L ∧ f / v.pl.pg ≤ a / v.pl.pg ∧ a / v.pl.pg ≤ (f + sizes L - 1) / v.pl.pg) ↔ (f < f + sizes L ∧ f / v.pl.pg ≤ a / v.pl.pg ∧ a / v.pl.pg ≤ (f + sizes L - 1) / v.pl.pg) from ⟨fun h => ⟨by omega, h.2⟩, fun h => ⟨by omega, h.2⟩⟩]
  rw [← h1]
  by_cases hx : pgUp (f + sizes L) v.pl.pg ≤ a / v.pl.pg ∧ a / v.pl.pg < pgUp (f + sizes L) v.pl.pg + (f / v.pl.pg + j - pgUp (f + sizes L) v.pl.pg)
  · rw [if_pos hx]
    exact ⟨(fun h => by cases h), fun h => absurd (show pgUp (f + sizes L) v.pl.pg ≤ a / v.pl.pg ∧ a / v.pl.pg < f / v.pl.pg + j by omega) h.2⟩
  · rw [if_neg hx]
    exact ⟨fun h => ⟨h, fun h' => hx (by omega)⟩, fun h => h.1⟩
end
/-- A laid heap has room for what is packed. -/
theorem need_in {v : Vm} (h : VmOk v) {f t : Nat} (ht : t ≤ v.n) (hl : ∀ a : Nat, f ≤ a → a < t → v.ldE a = 0) : needE v f t = 0 := by
  have hp := h.page
  unfold needE
  rw [if_neg (by omega)]
  by_cases hft : (t : Int) ≤ f
  · rw [if_pos hft]
  · rw [if_neg hft]
    have : unmL v ((f : Int) / v.pl.pg).toNat (pgsN v f t) = [] := by
      apply List.eq_nil_iff_forall_not_mem.2
      intro p hm
      rw [unmL_mem] at hm
      obtain ⟨⟨m1, m2⟩, m3⟩ := hm
      have e1 : ((f : Int) / (v.pl.pg : Int)).toNat = f / v.pl.pg := by rw [← Int.natCast_ediv]; exact Int.toNat_natCast _
      have g0 : f / v.pl.pg ≤ (t - 1) / v.pl.pg := Nat.div_le_div_right (by omega)
      have e2 : pgsN v f t = (t - 1) / v.pl.pg + 1 - f / v.pl.pg := by
        unfold pgsN
        rw [show (t : Int) - 1 = ((t - 1 : Nat) : Int) by omega, ← Int.natCast_ediv, ← Int.natCast_ediv]
        omega
      rw [e1] at m1 m2
      rw [e2] at m2
      have hq : ∃ a : Nat, f ≤ a ∧ a < t ∧ a / v.pl.pg = p := by
        rcases Nat.eq_or_lt_of_le m1 with h0 | h0
        · exact ⟨f, Nat.le_refl _, by omega, h0⟩
        · refine ⟨p * v.pl.pg, ?_, ?_, Nat.mul_div_cancel _ (by omega)⟩
          · have h1 := Nat.div_add_mod f v.pl.pg
            have h2 := Nat.mod_lt f (show 0 < v.pl.pg by omega)
            have h3 := Nat.mul_le_mul_right v.pl.pg (show f / v.pl.pg + 1 ≤ p by omega)
            rw [Nat.add_mul, Nat.one_mul, Nat.mul_comm] at h3
            omega
          · have h3 := Nat.mul_le_mul_right v.pl.pg (show p ≤ (t - 1) / v.pl.pg by omega)
            have h4 := Nat.div_mul_le_self (t - 1) v.pl.pg
            omega
      obtain ⟨a, a1, a2, rfl⟩ := hq
      have := hl a a1 a2
      rw [h.ldE_of (by omega), if_pos m3] at this
      cases this
    rw [this, List.length_nil, Nat.add_zero, if_pos]
    have h1 := h.pl.us
    have h2 := h.pl.le
    omega
end Go.Proofs.YtbmidhlilafgeaaGreatDoor
end
