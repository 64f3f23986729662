/- Package extent: All, its iterator turning four blocks of its own alone. -/
import Derived.Test.YtlkifhoedfjlaaaGreatDoorK7
import Derived.Test.YtlkifhoedfjlaaaGreatDoorRangeU
namespace Go.Proofs.YtlkifhoedfjlaaaGreatDoor
open Go.RowKit Go.Shelf Word
attribute [local go_sem] Oper.semAt_some

set_option maxRecDepth 100000 in
set_option maxHeartbeats 3200000 in
theorem all_seqU (n' : Nat) (box m p1 b1 p2 b2 n : Nat) (L : List Ob) (w : World) :
    SeqU 4 Fence.wide n' Tryz.prog 69 #[.pointer (some ⟨box, 0, none⟩)] encO (AllInv box m p1 b1 p2 b2 n L) (AllGives L) (fun j _ j' => j' = j + 1) (fun j => j = L.length) 0 w := by
  intro l J Jx W hg hJ hJx hI hY h0
  refine callsIn_wide.2 ((callsIn_wide (n := 5)).1 ?_)
  refine callsIn_of_wp_marks Tryz.func69 rfl trivial ?_ rfl
  have hi0 := hI _ _ h0
  have c0 := hi0.2.2.1
  have k0 := hi0.1.c0
  have HI0 := hid hi0
  have HJ0 := hid h0
  have HII := hid hI
  clear hi0 h0 hI
  simp only [Tryz.ntmps69, List.size_toArray, List.length_cons, List.length_nil, Nat.reduceAdd, Nat.reduceSub, Array.replicate_succ, Array.replicate_zero, List.push_toArray, List.append_toArray, List.nil_append, List.cons_append]
  have hbox : box < W.heap.size := lt_cell c0
  have hmw := HI0.out.1.hm
  gi_wp2_with (first
    | (refine ⟨trivial, ?_⟩; gi_at_call 22; refine (callsIn_wide.2 (ext_none (HI0.out.1.gr ((Gr.refl W).alloc _)))).mono ?_; rintro e w1 ⟨rfl, rfl⟩)
    | (refine ⟨trivial, ?_⟩; gi_at_call 70; refine (callsIn_wide.2 (ones_call (some ⟨p1, 0, none⟩))).mono ?_; rintro e w1 ⟨rfl, rfl⟩))
  obtain ⟨W0, hW0⟩ : ∃ W0, W0 = (W.alloc (.cells #[.func (.yield l) #[] #[]] 128)).alloc (.cells #[.pointer (some ⟨p1, 0, none⟩)] 60) := ⟨_, rfl⟩
  have hg0 : Gr W W0 := by rw [hW0]; exact ((Gr.refl W).alloc _).alloc _
  have hsz0 : W0.heap.size = W.heap.size + 2 := by rw [hW0]; simp
  have bY : W0.cell? ⟨W.heap.size, 0, none⟩ = some (.func (.yield l) #[] #[]) := by rw [hW0]; exact ((Boxed.new W _ _).alloc _).cell
  have bV : W0.cell? ⟨W.heap.size + 1, 0, none⟩ = some (.pointer (some ⟨p1, 0, none⟩)) := by
    rw [hW0]
    have := Boxed.new (W.alloc (.cells #[.func (.yield l) #[] #[]] 128)) 60 (.pointer (some ⟨p1, 0, none⟩))
    rw [World.size_alloc] at this
    exact this.cell
  rw [← hW0]
  have hgood := HI0.out.1.good
  have hnb := HI0.out.1.nb
  have hJ00 : J 0 W0 := hJ _ _ _ HJ0.out (hg0.touch _)
  have HH0 := hid hW0
  clear hW0 c0 k0
  have hn0 : nextO L ((0 : Nat) : Int) = 0 := nextO_eq (Nat.zero_le _) (fun i hi h => by omega) (fun h => by omega)
  have tI : ∀ s A B, InAll n L J W.heap.size (W.heap.size + 1) p1 (.func (.yield l) #[] #[]) s A → Touch (fun k => W0.heap.size ≤ k ∧ k < W0.heap.size + 2 + 0) A B → InAll n L J W.heap.size (W.heap.size + 1) p1 (.func (.yield l) #[] #[]) s B := fun s A B h t =>
    ⟨h.st, h.ps, by obtain ⟨j, hj, e⟩ := h.j; exact ⟨j, hJ _ _ _ hj (t.mono (fun k _ h => by omega)), e⟩, (t.cell (lt_cell h.y) (by show ¬ (W0.heap.size ≤ W.heap.size ∧ _); omega) 0).trans h.y, (t.cell (lt_cell h.v) (by show ¬ (W0.heap.size ≤ W.heap.size + 1 ∧ _); omega) 0).trans h.v⟩
  refine range_lawU (K := 0) (s0 := (startsL n L, 0)) rfl (by omega) (gf := 94) (lb := #[.pointer (some ⟨W.heap.size + 1, 0, none⟩)]) rfl trivial (enters_of Tryz.func94 (by kernel_rfl) rfl)
    (ones_seq _ (W.heap.size + 1) p1 b1 n (startsL n L) _).toU (fun _ => rfl)
    (InAll n L J W.heap.size (W.heap.size + 1) p1 (.func (.yield l) #[] #[])) (fun c A => c = .ret ∧ Jx A) tI (fun c A B h t => ⟨h.1, hJx _ _ h.2 (t.mono (fun k _ h => by omega))⟩)
    (fun s A h => by
      obtain ⟨j, hj, -⟩ := h.j
      have hi := HII.out _ _ hj
      exact ⟨by rw [h.st]; exact hi.1.v1, by rw [h.st, startsL_len], hi.2.1, h.v, h.ps⟩)
    ⟨rfl, Nat.zero_le _, ⟨0, hJ00, hn0⟩, bY, bV⟩ ?round ?done ?stop
  case round =>
    intro lp s x W3 hsz3 hI3 hgv
    gi_wp2
    refine ⟨Gr.refl _, fun W4 ht4 hI4 => ?_⟩
    obtain ⟨hst, hps, ⟨j, hj, hnx⟩, hy, hv⟩ := hI4
    obtain ⟨hx, hlt⟩ := hgv
    have hi4 := HII.out _ _ hj
    rw [hst] at hx hlt
    have hjl : j < L.length := by
      rcases Nat.lt_or_ge j L.length with h | h
      · exact h
      · have := next_start_no hgood (a := (s.2 : Int)) (by rw [hnx]; omega)
        omega
    have hxj : x = L[j].1 := by
      have := (next_start_yes hgood (a := (s.2 : Int)) (by rw [hnx]; exact hjl)).1
      rw [hx, this]; congr 2
    subst hxj
    have hJd : J j W4.drew := hJ _ _ _ hj ((Gr.refl W4).drew.touch _)
    have hsz4 : W.heap.size + 4 ≤ W4.drew.heap.size := by have := ht4.size; show W.heap.size + 4 ≤ W4.heap.size; omega
    obtain ⟨fn, tmps, assign, body, hyy, hR⟩ := yieldAt_wide (m' := 2) (l2 := lp) (hY j L[j] W4.drew hJd hsz4 (List.getElem?_eq_getElem hjl))
    have HZ := hid (ext_size (hi4.1.gr (Gr.refl W4).drew) ((Gr.refl W4).drew.tab hi4.2.1.lt hi4.2.1) hjl)
    have cbx := hi4.2.2.1
    have hbxs := hsz0
    have HS := hid (And.intro hst (And.intro hnx hjl))
    clear hst hnx hj hi4 hx hlt hI3
    dsimp only [encO] at hyy
    have hR2 := hR.mono (R' := fun e W' => ∃ bb : Bool, e = .returned (.bool bb) ∧ ((bb = true ∧ J (j + 1) W') ∨ (bb = false ∧ Jx W')) ∧ Touch (fun k => k < W.heap.size ∨ W.heap.size + 4 ≤ k) W4.drew W') (by
      rintro e W' ⟨⟨he, s', rfl, hs'⟩ | ⟨he, hx⟩, ht⟩
      · exact ⟨true, he, .inl ⟨rfl, hs'⟩, ht⟩
      · exact ⟨false, he, .inr ⟨rfl, hx⟩, ht⟩)
    clear hR
    gi_wp2
    obtain ⟨Sx, hSx⟩ : ∃ S : World → Prop, S = fun A => A.cell? ⟨W.heap.size, 0, none⟩ = some (.func (.yield l) #[] #[]) := ⟨_, rfl⟩
    have x1 : ∀ p : Held Sx, p.w.cell? ⟨W.heap.size, 0, none⟩ = some (.func (.yield l) #[] #[]) := fun p => Held.get hSx p
    have hS0 : Sx W4.drew := by rw [hSx]; exact hy
    have HSx := hid hSx
    clear hSx
    have inst : Inhabited (Held Sx) := ⟨⟨_, hS0⟩⟩
    refine wpIn_region_mixS Sx 7 [([0, 1, 3], 2), ([], 4), ([], 5)] [6] (fun _ => trivial) (by kernel_rfl) (by kernel_rfl) hS0 ?_
    refine segsIn_step ?_
    simp only [opsAt, List.getElem?_cons_zero, List.getElem?_cons_succ]
    repeat (go_big_quiet_step (fail))
    refine wpQuiet_nil ?_
    gi_wp2
    refine ⟨.inr (Held.of hS0), ?_⟩
    refine segsIn_step ?_
    simp only [opsAt, List.getElem?_cons_zero, List.getElem?_cons_succ]
    refine wpQuiet_nil ?_
    gi_wp2_with (refine ⟨trivial, ?_⟩; gi_at_call 54; refine (CallsIn.inRound lp (callsIn_wide.2 HZ.out)).mono ?_; rintro e w' ⟨rfl, rfl⟩)
    refine ⟨.inr (Held.of hS0), ?_⟩
    refine segsIn_step ?_
    simp only [opsAt, List.getElem?_cons_zero, List.getElem?_cons_succ]
    refine wpQuiet_nil ?_
    gi_wp2
    refine hR2.mono ?_
    rintro e W5 ⟨bb, rfl, hor, ht5⟩
    have hy5 := (ht5.cell (lt_cell hy) (by show ¬ (W.heap.size < W.heap.size ∨ W.heap.size + 4 ≤ W.heap.size); omega) 0).trans hy
    have hv5 := (ht5.cell (lt_cell hv) (by show ¬ (W.heap.size + 1 < W.heap.size ∨ W.heap.size + 4 ≤ W.heap.size + 1); omega) 0).trans hv
    gi_wp2
    refine ⟨.inr (Held.of (by rw [HSx.out]; exact hy5)), ?_⟩
    refine segsIn_end ?_
    simp only [opsAt, List.getElem?_cons_zero, List.getElem?_cons_succ]
    repeat (go_big_quiet_step (fail))
    refine wpQuiet_nil ?_
    refine NoPanic.normal ?_
    have T5 := hid (((Gr.refl W4).drew.touch (fun k => k < W0.heap.size ∨ W0.heap.size + (2 + 0) ≤ k)).trans (ht5.mono (fun k _ h => by omega)))
    have HSZ := hid (hgood.sz _ (List.getElem_mem hjl))
    clear x1 hS0 HSx inst hR2 ht5
    clear Sx
    cases bb with
    | true =>
      have hJ5 : J (j + 1) W5 := by
        rcases hor with ⟨_, h⟩ | ⟨h, _⟩
        · exact h
        · cases h
      have HJ5 := hid hJ5
      clear hor hJ5
      gi_wp2
      exact ⟨T5.out, (startsL n L, L[j].1 + 1), rfl, rfl, by have := HSZ.out; show L[j].1 + 1 ≤ n; omega, ⟨j + 1, HJ5.out, by have := next_succ_ob hgood hjl; push_cast; exact this⟩, hy5, hv5⟩
    | false =>
      have hJ5 : Jx W5 := by
        rcases hor with ⟨h, _⟩ | ⟨_, h⟩
        · cases h
        · exact h
      have HJ5 := hid hJ5
      clear hor hJ5
      gi_wp2
      exact ⟨T5.out, rfl, HJ5.out⟩
  case done =>
    rintro D s W3 hD hfin hI3 hK
    obtain ⟨hst, hps, ⟨j, hj, hnx⟩, hy, hv⟩ := hI3
    have hjl : ¬ j < L.length := fun h => by
      have := next_start_yes hgood (a := (s.2 : Int)) (by rw [hnx]; exact h)
      unfold OnesFin at hfin
      rw [hst] at hfin
      exact hfin this.2
    have hje : j = L.length := by have := nextO_le L (s.2 : Int); omega
    have HE := hid (And.intro hje hj)
    have HK := hid hK
    have HD := hid hD
    clear hst hps hnx hy hv hfin hje hj hK hD hjl
    gi_wp2
    refine ⟨by simp, .inl ⟨_, _, rfl, run_takeDeferred HK.out, ?_⟩⟩
    refine ⟨.tuple #[], results_none rfl _ _ _, ⟨_, rfl⟩, .inl ⟨j, HE.out.1, hJ _ _ _ HE.out.2 ((touch_put1 W3 D _).mono (fun k _ h => by have := HD.out; omega))⟩⟩
  case stop =>
    rintro D c W3 hD ⟨rfl, hx⟩ hK
    have HE := hid hx
    have HK := hid hK
    have HD := hid hD
    clear hx hK hD
    gi_wp2
    refine ⟨by simp, .inl ⟨_, _, rfl, run_takeDeferred HK.out, ?_⟩⟩
    refine ⟨.tuple #[], results_none rfl _ _ _, ⟨_, rfl⟩, .inr (hJx _ _ HE.out ((touch_put1 W3 D _).mono (fun k _ h => by have := HD.out; omega)))⟩
end Go.Proofs.YtlkifhoedfjlaaaGreatDoor
