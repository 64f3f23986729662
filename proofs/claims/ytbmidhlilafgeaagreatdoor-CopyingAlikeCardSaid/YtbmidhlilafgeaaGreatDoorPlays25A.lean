/- Layer 25: CopyingPlays: what its calls leave. -/
import Derived.Test.YtbmidhlilafgeaaGreatDoorLive25
import Derived.Test.YtbmidhlilafgeaaGreatDoorCp25P
import Derived.Test.YtbmidhlilafgeaaGreatDoorRef25C
import Derived.Test.YtbmidhlilafgeaaGreatDoorFar25
namespace Go.Proofs.YtbmidhlilafgeaaGreatDoor
open Go.RowKit Word

theorem us_at {l : List Nat} {i : Nat} (h : i < l.length) : (us l)[i]? = some (.int .u64 ((l[i] : Nat) : Int)) := by unfold us; rw [List.getElem?_map, List.getElem?_eq_getElem h]; rfl
theorem wrds_congr {u v : Vm} {M : Nat} (h : ∀ a : Nat, a < M → u.ldV a = v.ldV a) : wrds u M = wrds v M := by
  unfold wrds
  apply List.map_congr_left
  intro a ha
  rw [List.mem_range] at ha
  rw [h a ha]
/-- What the law holds on to. -/
structure P25 (W : World) (x : LaidC) (u : Vm) (hp q r gA cA : Nat) (A : Option Addr) (c : Nat) : Prop where
  hb : Rec W hp 37 (heapL x q r (.slice A x.n c))
  wd : Wrds W A c x.n u
  ws : W.ownsRow 0 3 1 (.slice (some ⟨gA, 0, none⟩) x.rs.length cA) x.rs.length (zs x.rs)
theorem P25.gr {W W' : World} {x : LaidC} {u : Vm} {hp q r gA cA : Nat} {A : Option Addr} {c : Nat} (h : P25 W x u hp q r gA cA A c) (g : Gr W W') : P25 W' x u hp q r gA cA A c := ⟨h.hb.gr g, h.wd.gr g, own_gr h.ws g⟩
theorem P25.touch {T : Nat → Prop} {W W' : World} {x : LaidC} {u : Vm} {hp q r gA cA : Nat} {A : Option Addr} {c : Nat} (h : P25 W x u hp q r gA cA A c) (t : Touch T W W') (h1 : ¬ T hp) (h2 : ∀ b, (Value.slice A x.n c).ownBlock = some b → ¬ T b) (h3 : ¬ T gA) : P25 W' x u hp q r gA cA A c :=
  ⟨h.hb.touch t h1, own_touch h.wd t h2, own_touch h.ws t (fun g hg => by cases hg; exact h3)⟩
theorem P25.ints {W : World} {x : LaidC} {u : Vm} {hp q r gA cA : Nat} {A : Option Addr} {c : Nat} (h : P25 W x u hp q r gA cA A c) : IntsAt W (some ⟨gA, 0, none⟩) x.rs := own_ints h.ws rfl
/-- The words lie apart from the roots. -/
theorem words_ne {W : World} {x : LaidC} {u : Vm} {A : Option Addr} {c r g : Nat} {rs : List Int} (h : Wrds W A c x.n u) (hR : RtAt W r g rs) {b : Nat} (hb : (Value.slice A x.n c).ownBlock = some b) : b ≠ g := by
  rintro rfl
  have hp := x.page_pos
  have hn : 0 < x.n := by unfold LaidC.n; omega
  obtain ⟨b', c', ea, -, -, -, -⟩ := own_form h (by omega)
  simp only [Value.slice.injEq] at ea
  obtain ⟨rfl, -, rfl⟩ := ea
  have e : b' = b := Option.some.inj hb
  subst e
  have h1 := own_cell h (wrds_at u hn)
  have h2 := hR.cell (i := 0) (List.length_pos_iff.2 hR.ne)
  rw [h1] at h2
  simp at h2
/-- No frames enough: nothing is done. -/
theorem run25_big {x : LaidC} {rm : Nat} {v0 u : Vm} {L : List Ob} (hr : Run24 x rm v0) (hM : Marks (layC x v0) x.rs x.n L) (huv : ∀ a : Nat, a < x.n → u.ldV a = (layC x v0).ldV a) (hb : rm < (layC x v0).pl.used + x.pgs (sizes L))
    {W w' : World} {S : Nat → Prop} {q r g : Nat} {e : Ending} (h : CpEnd W S q r g (layC x v0) x.rs x.cf e w') :
    e = .returned (.tuple #[.int .i64 0, .int .i64 14]) ∧ Touch (fun b => b = g ∨ S b) W w' ∧ (∃ v' S', VmAt w' S' q v' ∧ v'.n = x.n ∧ wrds v' x.n = wrds u x.n ∧ v'.pl.used = (layC x v0).pl.used) ∧ RtAt w' r g x.rs := by
  have hs := hr.stays (Stays.layC hr.ok x)
  obtain ⟨L', hM', ht, hc⟩ := h
  rw [hs.n] at hM'
  obtain rfl := hM'.unique hM
  have hsz := ((laid_in hr.ok hr.map).marks hr.map hM).2.1
  have hn := need25 hr hsz
  rw [if_pos hb] at hn
  rcases hc with ⟨-, rfl, ⟨v', hg, hv⟩, hrt⟩ | ⟨h0, -⟩
  · refine ⟨by rw [hn], ht, ⟨v', _, hv, hg.n.trans hs.n, wrds_congr (fun a ha => ?_), ?_⟩, hrt⟩
    · rw [hg.vl a (by rw [hs.n]; exact ha), if_neg (by simp), huv a ha]
    · rw [hg.us]; rfl
  · rw [hn] at h0; cases h0
/-- Frames enough: all is copied. -/
theorem run25_ok {x : LaidC} {rm : Nat} {v0 u : Vm} {L : List Ob} (hr : Run24 x rm v0) (hM : Marks (layC x v0) x.rs x.n L) (hu : FullN x.n u) (huv : ∀ a : Nat, a < x.n → u.ldV a = (layC x v0).ldV a) (hb : ¬ rm < (layC x v0).pl.used + x.pgs (sizes L))
    {W w' : World} {S : Nat → Prop} {q r g : Nat} {e : Ending} (h : CpEnd W S q r g (layC x v0) x.rs x.cf e w') :
    e = .returned (.tuple #[.int .i64 ((x.cf.to + sizes L : Nat) : Int), .int .i64 0]) ∧ Touch (fun b => b = g ∨ S b) W w' ∧ ∃ v' S' out, VmAt w' S' q v' ∧ v'.n = x.n ∧ v'.pl.used = x.pgs (sizes L) ∧ RtAt w' r g out ∧ out.length = x.rs.length ∧
      ∀ k' : Nat, k' = (ordC u x.rs k').length → (rowC u (ordC u x.rs k') x.cf.to (ordC u x.rs k')).length = sizes L ∧ (∀ i : Nat, i < sizes L → v'.ldV ((x.cf.to + i : Nat) : Int) = (rowC u (ordC u x.rs k') x.cf.to (ordC u x.rs k')).getD i 0) ∧ out = x.rs.map (fun a => wentC u (ordC u x.rs k') x.cf.to a) ∧ RowO u x.rs (ordC u x.rs k') := by
  have hs := hr.stays (Stays.layC hr.ok x)
  obtain ⟨L', hM', ht, hc⟩ := h
  rw [hs.n] at hM'
  obtain rfl := hM'.unique hM
  have hsz := ((laid_in hr.ok hr.map).marks hr.map hM).2.1
  have hn := need25 hr hsz
  rw [if_neg hb] at hn
  rcases hc with ⟨h0, -⟩ | ⟨h0, rfl, v1, v2, k, kq, hD, hv, hrt⟩
  · exact absurd hn h0
  · have hok2 : v2.n = x.n := by rw [hD.st.cp.sm.n, hD.gr.n, hs.n]
    refine ⟨rfl, ht, _, _, _, hv, (umN_same v2 _ kq).1.trans hok2, (cp24_used hs hsz h0 hD).2.1, hrt, List.length_map _, fun k' hk' => ?_⟩
    obtain ⟨e1, e2, -, e4, e5⟩ := cp25_end hr hu huv hM h0 hD hk'
    refine ⟨e1, e2, ?_, e5⟩
    apply List.map_congr_left
    intro a _
    exact e4 a
end Go.Proofs.YtbmidhlilafgeaaGreatDoor
