/- Layer 21: Lay, LayW in one text (a claim has at most 60 files). -/
import Derived.Test.YtlkifhoedfjlaaaDoorOffA
import Derived.Test.YtlkifhoedfjlaaaDoorK8
namespace Go.Proofs.YtlkifhoedfjlaaaDoor
open Go.RowKit Word

/-- A row of bytes lies in w. -/
def BytesAt (w : World) (A : Option Addr) (l : List Nat) : Prop := ∀ i (h : i < l.length), l[i] ≤ 255 ∧ ∃ b o, A = some ⟨b, o, none⟩ ∧ b < w.heap.size ∧ w.cell? ⟨b, o + i, none⟩ = some (.int .u8 (l[i] : Nat))
/-- Where Lay stands behind k pairs: the place, and the objects. -/
def layAt (n : Nat) (l : List Nat) : Nat → Nat × List Ob
  | 0 => (0, [])
  | k + 1 =>
    let a := (layAt n l k).1 + l.getD (2 * k) 0 % 16
    let z := l.getD (2 * k + 1) 0
    if addE (layAt n l k).2 n a z = 0 then (a + z, (layAt n l k).2 ++ [(a, z)]) else (a, (layAt n l k).2)
def layL2 (n : Nat) (l : List Nat) : List Ob := (layAt n l (l.length / 2)).2
theorem layAt_le (n : Nat) (l : List Nat) (hl : ∀ i (h : i < l.length), l[i] ≤ 255) (k : Nat) : (layAt n l k).1 ≤ 270 * k ∧ (∀ o ∈ (layAt n l k).2, o.1 ≤ (layAt n l k).1) ∧ (layAt n l k).2.length ≤ k := by
  have hd : ∀ i, l.getD i 0 ≤ 255 := fun i => by
    rw [List.getD_eq_getElem?_getD]
    rcases Nat.lt_or_ge i l.length with h | h
    · rw [List.getElem?_eq_getElem h]; exact hl i h
    · rw [List.getElem?_eq_none h]; exact Nat.zero_le _
  induction k with
  | zero => exact ⟨Nat.le_refl _, (fun o ho => by cases ho), Nat.le_refl _⟩
  | succ k ih =>
    obtain ⟨h1, h2, h3⟩ := ih
    have hz := hd (2 * k + 1)
    unfold layAt
    simp only []
    split
    · refine ⟨by simp only []; omega, fun o ho => ?_, by simp; omega⟩
      rcases List.mem_append.1 ho with ho | ho
      · have := h2 o ho; simp only []; omega
      · rw [List.mem_singleton.1 ho]; simp only []; omega
    · exact ⟨by simp only []; omega, fun o ho => by have := h2 o ho; simp only []; omega, by simp only []; omega⟩
/-- What Add leaves: the object behind all others. -/
theorem addL_last {n : Nat} {L : List Ob} {a z : Nat} (h : ∀ o ∈ L, o.1 ≤ a) (he : addE L n a z = 0) : addL L n a z = L ++ [(a, z)] := by
  unfold addL
  rw [if_pos he, Int.toNat_natCast, Int.toNat_natCast]
  exact insO_last (fun y hy => by have := h y hy; show ¬ a < y.1; omega)
end Go.Proofs.YtlkifhoedfjlaaaDoor

namespace Go.Proofs.YtlkifhoedfjlaaaDoor
open Go.RowKit Word

def LayEnd (w : World) (n : Nat) (L : List Ob) (e : Ending) (w' : World) : Prop :=
  ∃ m p1 b1 p2 b2 A' c', e = .returned (.tuple #[.pointer (some ⟨m, 0, none⟩), .slice A' L.length c']) ∧ Gr w w' ∧ Ext w' m p1 b1 p2 b2 n L ∧ ObjsAt w' A' L ∧
    (w.heap.size ≤ m ∧ w.heap.size ≤ p1 ∧ w.heap.size ≤ b1 ∧ w.heap.size ≤ p2 ∧ w.heap.size ≤ b2) ∧ ∀ a, A' = some a → w.heap.size ≤ a.block ∧ ¬ mine m b1 b2 a.block
set_option maxRecDepth 100000 in
set_option maxHeartbeats 3200000 in
theorem lay_walk {w : World} (hT : TabAt w) (n : Nat) (h1 : 1 ≤ n) (h2 : n ≤ 1048576) (A : Option Addr) (c : Nat) (l : List Nat) (hB : BytesAt w A l) (hl : l.length ≤ 100) :
    Calls Tryd.prog 21 #[.int .i64 n, .slice A l.length c] w (LayEnd w n (layL2 n l)) := by
  obtain ⟨i0, hi, hi0, hi1, hi2⟩ := info_parts infoOb
  have HT := hid hT
  have HB := hid hB
  have HLE := hid (fun k => layAt_le n l (fun i h => (hB i h).1) k)
  have hTl := hT.lt
  clear hT hB
  go_enter Tryd.func21, Tryd.ntmps21
  go_wp2_with (first
    | (go_at_call 63; refine (ext_new n h1 h2 _).mono ?_; rintro e w1 ⟨m, p1, b1, p2, b2, rfl, hg1, hE1, hx1, hx2, hx3, hx4, hx5⟩; have HG1 := hid hg1; have HE1 := hid hE1; have HX := hid (And.intro hx1 (And.intro hx2 (And.intro hx3 (And.intro hx4 hx5)))); clear hg1 hE1 hx1 hx2 hx3 hx4 hx5))
  go_loopw [8, 9, 10] (fun s8 s9 i wr => ∃ k i2 at' : Nat, Hid (i2 = 2 * k) ∧ Hid (k ≤ l.length / 2) ∧ Hid (at' = (layAt n l k).1) ∧ Hid (Ext wr m p1 b1 p2 b2 n (layAt n l k).2) ∧ Hid (OwnO wr w1.heap.size s8 (layAt n l k).2) ∧ Hid (Touch (fun i => mine m b1 b2 i ∨ w1.heap.size ≤ i) w1 wr) ∧ s9 = .int .i64 at' ∧ i = .int .i64 i2) (fun _ _ i _ => 200 - (intOf i).toNat)
  case atStart => exact ⟨0, 0, 0, ⟨rfl⟩, ⟨Nat.zero_le _⟩, ⟨rfl⟩, HE1, ⟨OwnO.nil _ _⟩, ⟨Touch.refl _ _⟩, rfl, rfl⟩
  case round =>
    obtain ⟨k, i2, at', hi2', hk, hat, hE, hO, ht, rfl, rfl⟩ := hrel
    have hle := HLE.out k
    rw [← hat.out] at hle
    have hk2 := hk.out
    have hii := hi2'.out
    obtain ⟨hl1, hl2, hl3⟩ := hle
    have hlt1 := HE1.out.hm
    have hlt2 := HE1.out.v1.hb
    have hlt3 := HE1.out.v2.hb
    have hml : ∀ i, mine m b1 b2 i → i < w1.heap.size := fun i h => by rcases h with rfl | rfl | rfl <;> assumption
    have hws := ht.out.size
    have HG := hid ((HG1.out.touch (fun _ => False)).trans' ht.out (fun i hi h => by have := HX.out; have := HG1.out.size; unfold mine at h; omega)).gr
    by_cases hlt : i2 + 1 < l.length
    · obtain ⟨hg255, ab, ao, rfl, hab, q0⟩ := HB.out i2 (by omega)
      obtain ⟨hz255, ab', ao', hA', hab', q1⟩ := HB.out (i2 + 1) hlt
      cases hA'
      have q0 := (HG.out.cell hab _).trans q0
      have q1 := (HG.out.cell hab _).trans q1
      have hgd : l.getD (2 * k) 0 = l[i2] := by rw [← hii, List.getD_eq_getElem?_getD, List.getElem?_eq_getElem (by omega)]; rfl
      have hzd : l.getD (2 * k + 1) 0 = l[i2 + 1] := by rw [← hii, List.getD_eq_getElem?_getD, List.getElem?_eq_getElem hlt]; rfl
      have hst : layAt n l (k + 1) = if addE (layAt n l k).2 n ((at' + l[i2] % 16 : Nat) : Int) (l[i2 + 1] : Nat) = 0 then (at' + l[i2] % 16 + l[i2 + 1], (layAt n l k).2 ++ [(at' + l[i2] % 16, l[i2 + 1])]) else (at' + l[i2] % 16, (layAt n l k).2) := by
        rw [← hgd, ← hzd, hat.out]; rfl
      generalize l[i2] = g at *
      generalize l[i2 + 1] = z at *
      obtain ⟨r, hr⟩ : ∃ r, r = g % 16 := ⟨_, rfl⟩
      rw [← hr] at hst
      have hmod : ((g : Int) % 16) = (r : Int) := by omega
      have hr16 : r ≤ 15 := by omega
      obtain ⟨L, hL⟩ : ∃ L, L = (layAt n l k).2 := ⟨_, rfl⟩
      rw [← hL] at hE hO hst hl2 hl3
      have hcast : ((at' + r : Nat) : Int) = (at' : Int) + (r : Int) := by push_cast; rfl
      have hnm : ¬ mine m b1 b2 ab := fun h => by have := HX.out; unfold mine at h; omega
      have hlt4 := HE1.out.v1.hp
      have hlt5 := HE1.out.v2.hp
      have hab1 : ab < wr.heap.size := by have := HG.out.size; omega
      have hnn : ¬ (mine m b1 b2 ab ∨ w1.heap.size ≤ ab) := fun h => by have := HG1.out.size; rcases h with h | h; exact hnm h; omega
      have HTW := hid (HG.out.tab HT.out.lt HT.out)
      have HLL := hid hl2
      have HML := hid hml
      have HNM := hid hnm
      have HCAST := hid hcast
      have hii2 : i2 + 2 = 2 * (k + 1) := by omega
      have hk3 : k + 1 ≤ l.length / 2 := by omega
      have HI := hid hii2
      have HOT : Hid (∀ w', Touch (mine m b1 b2) wr w' → OwnO w' w1.heap.size u8 L) := ⟨fun w' h => own_touch hO.out h (fun g hg hm => by have := own_lt hO.out hg; have := HML.out g hm; omega)⟩
      have hil : (i2 : Int) ≤ 100 := by omega
      have hatb : (at' : Int) ≤ 27000 := by omega
      rw [hcast] at hst
      by_cases he : addE L n ((at' : Int) + (r : Int)) (z : Int) = 0
      · have E := hid he
        have HS := hid (show layAt n l (k + 1) = (at' + r + z, L ++ [(at' + r, z)]) from by rw [hst, if_pos he])
        have HA := hid (show addL L n ((at' : Int) + (r : Int)) (z : Int) = L ++ [(at' + r, z)] from by
          rw [← hcast]; exact addL_last (fun o ho => by have := hl2 o ho; omega) (by rw [hcast]; exact he))
        clear he hst hl2 hml hnm hcast hL hr hgd hzd hii hii2 hk2 hl1
        go_wp2_with (first
          | (go_at_call 64; refine (ext_add hE.out HTW.out _ _).mono ?_; rintro e w3 ⟨rfl, ht3, hE3⟩; rw [E.out]; rw [HA.out] at hE3; have q1 := (ht3.cell (b := ab) hab1 HNM.out _).trans q1; have HT3 := hid ht3; have HE3 := hid hE3; have HO3 := hid (HOT.out w3 ht3); have hz3 := ht3.size; clear ht3 hE3)
          | (at_builtin; refine wpList_append_own _ rfl _ _ 38 rfl w1.heap.size 45 i0 _ 2 16 Tryd.underlying38 hi hi0 hi1 hi2 rfl (by decide) u8 L.length (flatO L) rfl (HO3.out.gr ((Gr.refl _).alloc _)) ⟨w3.heap.size, 0, none⟩ 1 1 [.int .i64 ((at' : Int) + (r : Int)), .int .i64 (z : Nat)] rfl rfl (World.news_of_block (cs := #[.int .i64 ((at' : Int) + (r : Int)), .int .i64 (z : Nat)]) (t := 45) (fr := (0, 0)) (heap_alloc_new w3 _)) (by simp [Value.oneCell']) (by unfold maxLen; omega) (by omega) (by simp only [World.size_alloc]; omega) ?_; intro v4 w4 hown4 hgrow4 _; rw [← HCAST.out] at hown4; have HO4 := hid (OwnO.push (o := (at' + r, z)) hown4); have HT4 := hid ((((Gr.refl w3).alloc (.cells #[.int .i64 ((at' : Int) + (r : Int)), .int .i64 (z : Nat)] 45)).touch (fun k => w1.heap.size ≤ k)).trans (grown_touch hgrow4 _ (fun _ e _ => (own_lt HO3.out e).1))); have q1 := (HT4.out.cell (b := ab) (by omega) (by have := HG1.out.size; omega) _).trans q1; clear hown4 hgrow4))
        go_roundw
        case rel =>
          refine ⟨k + 1, i2 + 2, at' + r + z, HI, ⟨hk3⟩, ⟨by rw [HS.out]⟩, ⟨by rw [HS.out]; exact HE3.out.touch HT4.out (by omega) (by omega) (by omega) (by omega) (by omega)⟩, ⟨by rw [HS.out]; exact HO4.out⟩, ⟨?_⟩, by go_num, by go_num⟩
          exact (ht.out.trans (HT3.out.mono (fun k _ h => .inl h))).trans (HT4.out.mono (fun k _ h => .inr h))
        case measure => simp [intOf]; omega
      · obtain ⟨ev, hev⟩ : ∃ ev, ev = addE L n ((at' : Int) + (r : Int)) (z : Int) := ⟨_, rfl⟩
        have E := hid hev.symm
        have hev0 : (ev == 0) = false := beq_eq_false_iff_ne.2 (by rw [hev]; exact he)
        have HS := hid (show layAt n l (k + 1) = (at' + r, L) from by rw [hst, if_neg he])
        have HA := hid (show addL L n ((at' : Int) + (r : Int)) (z : Int) = L from by unfold addL; rw [if_neg he])
        clear he hst hl2 hml hnm hcast hL hr hgd hzd hii hii2 hk2 hl1 hev
        go_wp2_with (first
          | (go_at_call 64; refine (ext_add hE.out HTW.out _ _).mono ?_; rintro e w3 ⟨rfl, ht3, hE3⟩; rw [E.out]; rw [HA.out] at hE3; have HT3 := hid ht3; have HE3 := hid hE3; have HO3 := hid (HOT.out w3 ht3); clear ht3 hE3))
        go_roundw
        case rel =>
          exact ⟨k + 1, i2 + 2, at' + r, HI, ⟨hk3⟩, ⟨by rw [HS.out]⟩, ⟨by rw [HS.out]; exact HE3.out⟩, ⟨by rw [HS.out]; exact HO3.out⟩, ⟨ht.out.trans (HT3.out.mono (fun k _ h => .inl h))⟩, by go_num, by go_num⟩
        case measure => simp [intOf]; omega
    · have hke : k = l.length / 2 := by omega
      have HL2 := hid (show (layAt n l k).2 = layL2 n l from by rw [hke]; rfl)
      have hil : (i2 : Int) ≤ 100 := by omega
      clear hke
      go_wp2
      go_ret2
      obtain ⟨A', c', rfl, h3, h4⟩ := own_objs (HL2.out ▸ hO.out)
      refine ⟨m, p1, b1, p2, b2, A', c', rfl, HG.out, HL2.out ▸ hE.out, h3, HX.out, fun a ha => ?_⟩
      have := h4 a ha
      have hgs := HG1.out.size
      exact ⟨by omega, fun h => by have := hml _ h; omega⟩
end Go.Proofs.YtlkifhoedfjlaaaDoor
