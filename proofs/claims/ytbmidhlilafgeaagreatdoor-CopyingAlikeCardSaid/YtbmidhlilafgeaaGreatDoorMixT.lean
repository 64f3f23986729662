/- A region that draws, in which two operations may come up side by side: a walk that branches. -/
import Derived.Test.YtbmidhlilafgeaaGreatDoorK2
namespace Go.Proofs.YtbmidhlilafgeaaGreatDoor
open Go.RowKit

/-- Reads, and the end; or reads, and one operation that comes up alone; or reads, and two that come up together. -/
inductive MixT where
  | fin (qs : List Nat)
  | one (qs : List Nat) (k : Nat) (t : MixT)
  | two (qs : List Nat) (k1 : Nat) (t1 : MixT) (k2 : Nat) (t2 : MixT)
/-- How many operations. -/
def MixT.len : MixT → Nat
  | .fin qs => qs.length
  | .one qs _ t => qs.length + (t.len + 1)
  | .two qs _ t1 _ _ => qs.length + (t1.len + 1)
/-- Reads, in this order; what has come up behind them. -/
def readsB (md : Region.Mode) (ops : Array Oper) : List Nat → Array Bool → Option (Array Bool)
  | [], listed => some listed
  | k :: r, listed => if (Region.ready md ops listed).contains k && Region.free md ops listed k && ((ops[k]?).any quietB) then readsB md ops r (listed.setIfInBounds k true) else none
def mixTB (md : Region.Mode) (ops : Array Oper) : MixT → Array Bool → Bool
  | .fin qs, listed => match readsB md ops qs listed with
    | some l => (Region.ready md ops l).isEmpty
    | none => false
  | .one qs k t, listed => match readsB md ops qs listed with
    | some l => decide (Region.ready md ops l = [k]) && mixTB md ops t (l.setIfInBounds k true)
    | none => false
  | .two qs k1 t1 k2 t2, listed => match readsB md ops qs listed with
    | some l => decide (Region.ready md ops l = [k1, k2]) && decide (t1.len = t2.len) && mixTB md ops t1 (l.setIfInBounds k1 true) && mixTB md ops t2 (l.setIfInBounds k2 true)
    | none => false
def wpMixT (P : Program) (l : List Oper) (S : World → Prop) (Q : Exit → Act → World → Prop) : MixT → Act → World → Prop
  | .fin qs, a, w => wpQuiet P l.toArray S (fun a' => Q .normal a' w) (opsAt l qs) a
  | .one qs k t, a, w => wpQuiet P l.toArray S (fun a' => wpList P l.toArray (Exit.then (fun a2 w2 => S w2 ∧ wpMixT P l S Q t a2 w2) Q) (opsAt l [k]) a' w) (opsAt l qs) a
  | .two qs k1 t1 k2 t2, a, w => wpQuiet P l.toArray S (fun a' => wpList P l.toArray (Exit.then (fun a2 w2 => S w2 ∧ wpMixT P l S Q t1 a2 w2) Q) (opsAt l [k1]) a' w ∧ wpList P l.toArray (Exit.then (fun a2 w2 => S w2 ∧ wpMixT P l S Q t2 a2 w2) Q) (opsAt l [k2]) a' w) (opsAt l qs) a
section
variable {P : Program} {l : List Oper} {Q : Exit → Act → World → Prop} {md : Region.Mode} {S : World → Prop} {z : Nat}
theorem reads_quiet (hsel : Region.noSelect l.toArray = true) (hQ : ∀ c a b w, Q (.panic c) b w → Q (.panic c) a w) (hz : sinkZ md l.toArray z = true) {w : World} (hS : S w) {K : Act → Prop} {f : Nat} {l' : Array Bool}
    (hK : ∀ a, Closed md l.toArray l' → K a → wpAnyZ P md l.toArray Q S z f l' a w) :
    ∀ (qs : List Nat) (listed : Array Bool) (a : Act), readsB md l.toArray qs listed = some l' → Closed md l.toArray listed → wpQuiet P l.toArray S K (opsAt l qs) a →
      wpAnyZ P md l.toArray Q S z (qs.length + f) listed a w
  | [], listed, a, hB, hc, h => by
    simp only [readsB, Option.some.injEq] at hB
    subst hB
    simpa using hK a hc h
  | k :: qs, listed, a, hB, hc, h => by
    simp only [readsB] at hB
    split at hB
    · rename_i hb
      simp only [Bool.and_eq_true] at hb
      obtain ⟨⟨hr, hf⟩, hq⟩ := hb
      cases ho : l.toArray[k]? with
      | none => rw [ho] at hq; cases hq
      | some o =>
        rw [ho] at hq
        have hq : quietB o = true := hq
        have hr' : k ∈ Region.ready md l.toArray listed := by simpa using hr
        rw [opsAt_cons ho] at h
        simp only [wpQuiet] at h
        have hy : ∃ v, YieldsIf P l.toArray S o v a ∧ wpQuiet P l.toArray S K (opsAt l qs) (a.put o.dst v) := by
          split at h
          · rename_i hw
            obtain ⟨v, h1, h2⟩ := h
            exact ⟨v, yields_of_quiet hq hw h1, h2⟩
          · rename_i hw
            exact ⟨undef, .inr ⟨by simpa using hw, rfl⟩, h⟩
        obtain ⟨v, hy, hK'⟩ := hy
        have hlen : (k :: qs).length + f = (qs.length + f) + 1 := by simp; omega
        rw [hlen]
        exact wpAnyZ_first ho (Region.noSelect_spec hsel) (fun c a w h => hQ c a _ w h) hz _ listed a w hc (Region.free_spec ho hf) hr' hy hS (reads_quiet hsel hQ hz hS hK qs _ _ hB (hc.set hr') hK')
    · cases hB
theorem mixT_all (hsel : Region.noSelect l.toArray = true) (hQ : ∀ c a b w, Q (.panic c) b w → Q (.panic c) a w) (hz : sinkZ md l.toArray z = true) :
    ∀ (t : MixT) (listed : Array Bool) (a : Act) (w : World), mixTB md l.toArray t listed = true → Closed md l.toArray listed → S w → wpMixT P l S Q t a w → wpAnyZ P md l.toArray Q S z t.len listed a w
  | .fin qs, listed, a, w, hB, hc, hS, h => by
    simp only [mixTB] at hB
    split at hB
    · rename_i l' hl
      exact reads_quiet (f := 0) (K := fun a' => Q .normal a' w) hsel hQ hz hS (fun a _ h => ⟨by simpa using hB, h⟩) qs listed a hl hc h
    · cases hB
  | .one qs k t, listed, a, w, hB, hc, hS, h => by
    simp only [mixTB] at hB
    split at hB
    · rename_i l' hl
      simp only [Bool.and_eq_true, decide_eq_true_eq] at hB
      obtain ⟨hr, hB'⟩ := hB
      refine reads_quiet hsel hQ hz hS (fun a hc h => ?_) qs listed a hl hc h
      have hkr : k ∈ Region.ready md l.toArray l' := by rw [hr]; simp
      refine ⟨fun h0 => (by rw [hr] at h0; cases h0), fun i hi => ?_⟩
      rw [hr] at hi
      obtain rfl : i = k := by simpa using hi
      obtain ⟨_, o, ho, _⟩ := mem_ready.1 hkr
      rw [opsAt_cons ho] at h
      exact wpOp_then ho (fun a2 w2 h2 => ⟨.inr h2.1, mixT_all hsel hQ hz t _ a2 w2 hB' (hc.set hkr) h2.1 h2.2⟩) h
    · cases hB
  | .two qs k1 t1 k2 t2, listed, a, w, hB, hc, hS, h => by
    simp only [mixTB] at hB
    split at hB
    · rename_i l' hl
      simp only [Bool.and_eq_true, decide_eq_true_eq] at hB
      obtain ⟨⟨⟨hr, hlen⟩, hB1⟩, hB2⟩ := hB
      refine reads_quiet hsel hQ hz hS (fun a hc h => ?_) qs listed a hl hc h
      refine ⟨fun h0 => (by rw [hr] at h0; cases h0), fun i hi => ?_⟩
      have hkr : i ∈ Region.ready md l.toArray l' := hi
      rw [hr] at hi
      obtain ⟨_, o, ho, _⟩ := mem_ready.1 hkr
      have hi : i = k1 ∨ i = k2 := by simpa using hi
      rcases hi with rfl | rfl
      · have h := h.1
        rw [opsAt_cons ho] at h
        exact wpOp_then ho (fun a2 w2 h2 => ⟨.inr h2.1, mixT_all hsel hQ hz t1 _ a2 w2 hB1 (hc.set hkr) h2.1 h2.2⟩) h
      · have h := h.2
        rw [opsAt_cons ho] at h
        rw [hlen]
        exact wpOp_then ho (fun a2 w2 h2 => ⟨.inr h2.1, mixT_all hsel hQ hz t2 _ a2 w2 hB2 (hc.set hkr) h2.1 h2.2⟩) h
    · cases hB
/-- **The region**, walked as a tree. -/
theorem wp_region_mixT {id : Nat} {a : Act} {w : World} (S : World → Prop) (t : MixT) (hm : P.follows .mixedOrders = true)
    (hB : (Region.noSelect l.toArray && mixTB .any l.toArray t (Array.replicate l.toArray.size false) && t.len == l.toArray.size) = true) (hS : S w.drew)
    (h : wpMixT P l (fun w' => ∃ p : Held S, w' = p.w) (NoPanic Q) t a w.drew) : (Code.region id l.toArray true).wp P Q a w := by
  simp only [Bool.and_eq_true, beq_iff_eq] at hB
  obtain ⟨⟨hsel, hB⟩, hlen⟩ := hB
  refine wp_region_noPanic (wp_region_any hm ?_)
  have hz : sinkZ .any l.toArray l.toArray.size = true := by unfold sinkZ; simp
  have := mixT_all (P := P) (Q := NoPanic Q) (S := fun w' => ∃ p : Held S, w' = p.w) (md := .any) hsel (fun c a b w h => h) hz t _ a w.drew hB (Closed.none .any l.toArray) (Held.of hS) h
  rw [hlen] at this
  exact wpAny_of_Z _ _ _ _ this
end
section
variable {F : Fence} {n : Nat}
def wpMixTIn (F : Fence) (n : Nat) (P : Program) (l : List Oper) (S : World → Prop) (Q : Exit → Act → World → Prop) : MixT → Act → World → Prop
  | .fin qs, a, w => wpQuiet P l.toArray S (fun a' => Q .normal a' w) (opsAt l qs) a
  | .one qs k t, a, w => wpQuiet P l.toArray S (fun a' => wpListIn F n P l.toArray (Exit.then (fun a2 w2 => S w2 ∧ wpMixTIn F n P l S Q t a2 w2) Q) (opsAt l [k]) a' w) (opsAt l qs) a
  | .two qs k1 t1 k2 t2, a, w => wpQuiet P l.toArray S (fun a' => wpListIn F n P l.toArray (Exit.then (fun a2 w2 => S w2 ∧ wpMixTIn F n P l S Q t1 a2 w2) Q) (opsAt l [k1]) a' w ∧ wpListIn F n P l.toArray (Exit.then (fun a2 w2 => S w2 ∧ wpMixTIn F n P l S Q t2 a2 w2) Q) (opsAt l [k2]) a' w) (opsAt l qs) a
section
variable {P : Program} {l : List Oper} {Q : Exit → Act → World → Prop} {md : Region.Mode} {S : World → Prop} {z : Nat}
theorem reads_quietIn (hF : ∀ f, F.fn f) (hnd : noDefer l.toArray = true) (hsel : Region.noSelect l.toArray = true) (hQ : ∀ c a b w, Q (.panic c) b w → Q (.panic c) a w) (hz : sinkZ md l.toArray z = true) {w : World} (hS : S w) {K : Act → Prop} {f : Nat} {l' : Array Bool}
    (hK : ∀ a, Closed md l.toArray l' → K a → wpAnyZIn F n P md l.toArray Q S z f l' a w) :
    ∀ (qs : List Nat) (listed : Array Bool) (a : Act), readsB md l.toArray qs listed = some l' → Closed md l.toArray listed → wpQuiet P l.toArray S K (opsAt l qs) a →
      wpAnyZIn F n P md l.toArray Q S z (qs.length + f) listed a w
  | [], listed, a, hB, hc, h => by
    simp only [readsB, Option.some.injEq] at hB
    subst hB
    simpa using hK a hc h
  | k :: qs, listed, a, hB, hc, h => by
    simp only [readsB] at hB
    split at hB
    · rename_i hb
      simp only [Bool.and_eq_true] at hb
      obtain ⟨⟨hr, hf⟩, hq⟩ := hb
      cases ho : l.toArray[k]? with
      | none => rw [ho] at hq; cases hq
      | some o =>
        rw [ho] at hq
        have hq : quietB o = true := hq
        have hr' : k ∈ Region.ready md l.toArray listed := by simpa using hr
        rw [opsAt_cons ho] at h
        simp only [wpQuiet] at h
        have hy : ∃ v, YieldsIf P l.toArray S o v a ∧ wpQuiet P l.toArray S K (opsAt l qs) (a.put o.dst v) := by
          split at h
          · rename_i hw
            obtain ⟨v, h1, h2⟩ := h
            exact ⟨v, yields_of_quiet hq hw h1, h2⟩
          · rename_i hw
            exact ⟨undef, .inr ⟨by simpa using hw, rfl⟩, h⟩
        obtain ⟨v, hy, hK'⟩ := hy
        have hlen : (k :: qs).length + f = (qs.length + f) + 1 := by simp; omega
        rw [hlen]
        exact wpAnyZIn_first hF hnd ho (Region.noSelect_spec hsel) (fun c a w h => hQ c a _ w h) hz _ listed a w hc (Region.free_spec ho hf) hr' hy hS (reads_quietIn hF hnd hsel hQ hz hS hK qs _ _ hB (hc.set hr') hK')
    · cases hB
theorem mixT_allIn (hF : ∀ f, F.fn f) (hnd : noDefer l.toArray = true) (hsel : Region.noSelect l.toArray = true) (hQ : ∀ c a b w, Q (.panic c) b w → Q (.panic c) a w) (hz : sinkZ md l.toArray z = true) :
    ∀ (t : MixT) (listed : Array Bool) (a : Act) (w : World), mixTB md l.toArray t listed = true → Closed md l.toArray listed → S w → wpMixTIn F n P l S Q t a w → wpAnyZIn F n P md l.toArray Q S z t.len listed a w
  | .fin qs, listed, a, w, hB, hc, hS, h => by
    simp only [mixTB] at hB
    split at hB
    · rename_i l' hl
      exact reads_quietIn (n := n) (f := 0) (K := fun a' => Q .normal a' w) hF hnd hsel hQ hz hS (fun a _ h => ⟨by simpa using hB, h⟩) qs listed a hl hc h
    · cases hB
  | .one qs k t, listed, a, w, hB, hc, hS, h => by
    simp only [mixTB] at hB
    split at hB
    · rename_i l' hl
      simp only [Bool.and_eq_true, decide_eq_true_eq] at hB
      obtain ⟨hr, hB'⟩ := hB
      refine reads_quietIn hF hnd hsel hQ hz hS (fun a hc h => ?_) qs listed a hl hc h
      have hkr : k ∈ Region.ready md l.toArray l' := by rw [hr]; simp
      refine ⟨fun h0 => (by rw [hr] at h0; cases h0), fun i hi => ?_⟩
      rw [hr] at hi
      obtain rfl : i = k := by simpa using hi
      obtain ⟨_, o, ho, _⟩ := mem_ready.1 hkr
      rw [opsAt_cons ho] at h
      exact wpOpIn_then ho (fun a2 w2 h2 => ⟨.inr h2.1, mixT_allIn hF hnd hsel hQ hz t _ a2 w2 hB' (hc.set hkr) h2.1 h2.2⟩) h
    · cases hB
  | .two qs k1 t1 k2 t2, listed, a, w, hB, hc, hS, h => by
    simp only [mixTB] at hB
    split at hB
    · rename_i l' hl
      simp only [Bool.and_eq_true, decide_eq_true_eq] at hB
      obtain ⟨⟨⟨hr, hlen⟩, hB1⟩, hB2⟩ := hB
      refine reads_quietIn hF hnd hsel hQ hz hS (fun a hc h => ?_) qs listed a hl hc h
      refine ⟨fun h0 => (by rw [hr] at h0; cases h0), fun i hi => ?_⟩
      have hkr : i ∈ Region.ready md l.toArray l' := hi
      rw [hr] at hi
      obtain ⟨_, o, ho, _⟩ := mem_ready.1 hkr
      have hi : i = k1 ∨ i = k2 := by simpa using hi
      rcases hi with rfl | rfl
      · have h := h.1
        rw [opsAt_cons ho] at h
        exact wpOpIn_then ho (fun a2 w2 h2 => ⟨.inr h2.1, mixT_allIn hF hnd hsel hQ hz t1 _ a2 w2 hB1 (hc.set hkr) h2.1 h2.2⟩) h
      · have h := h.2
        rw [opsAt_cons ho] at h
        rw [hlen]
        exact wpOpIn_then ho (fun a2 w2 h2 => ⟨.inr h2.1, mixT_allIn hF hnd hsel hQ hz t2 _ a2 w2 hB2 (hc.set hkr) h2.1 h2.2⟩) h
    · cases hB
/-- .. in a fence. -/
theorem wpIn_region_mixT {id : Nat} {a : Act} {w : World} (S : World → Prop) (t : MixT) (hF : ∀ f, F.fn f) (hm : P.follows .mixedOrders = true)
    (hB : (noDefer l.toArray && Region.noSelect l.toArray && mixTB .any l.toArray t (Array.replicate l.toArray.size false) && t.len == l.toArray.size) = true) (hS : S w.drew)
    (h : wpMixTIn F n P l (fun w' => ∃ p : Held S, w' = p.w) (NoPanic Q) t a w.drew) : (Code.region id l.toArray true).wpIn F n P Q a w := by
  simp only [Bool.and_eq_true, beq_iff_eq] at hB
  obtain ⟨⟨⟨hnd, hsel⟩, hB⟩, hlen⟩ := hB
  refine wpIn_mono (wpIn_region_any hm ?_) NoPanic.imp
  have hz : sinkZ .any l.toArray l.toArray.size = true := by unfold sinkZ; simp
  have := mixT_allIn (F := F) (n := n) (P := P) (Q := NoPanic Q) (S := fun w' => ∃ p : Held S, w' = p.w) (md := .any) hF hnd hsel (fun c a b w h => h) hz t _ a w.drew hB (Closed.none .any l.toArray) (Held.of hS) h
  rw [hlen] at this
  exact wpAnyIn_of_Z _ _ _ _ this
theorem mixTIn_fin {qs : List Nat} {a : Act} {w : World} (h : wpQuiet P l.toArray S (fun a' => Q .normal a' w) (opsAt l qs) a) : wpMixTIn F n P l S Q (.fin qs) a w := h
theorem mixTIn_one {qs : List Nat} {k : Nat} {t : MixT} {a : Act} {w : World} (h : wpQuiet P l.toArray S (fun a' => wpListIn F n P l.toArray (Exit.then (fun a2 w2 => S w2 ∧ wpMixTIn F n P l S Q t a2 w2) Q) (opsAt l [k]) a' w) (opsAt l qs) a) : wpMixTIn F n P l S Q (.one qs k t) a w := h
theorem mixTIn_two {qs : List Nat} {k1 k2 : Nat} {t1 t2 : MixT} {a : Act} {w : World} (h : wpQuiet P l.toArray S (fun a' => wpListIn F n P l.toArray (Exit.then (fun a2 w2 => S w2 ∧ wpMixTIn F n P l S Q t1 a2 w2) Q) (opsAt l [k1]) a' w ∧ wpListIn F n P l.toArray (Exit.then (fun a2 w2 => S w2 ∧ wpMixTIn F n P l S Q t2 a2 w2) Q) (opsAt l [k2]) a' w) (opsAt l qs) a) : wpMixTIn F n P l S Q (.two qs k1 t1 k2 t2) a w := h
end
end
end Go.Proofs.YtbmidhlilafgeaaGreatDoor
