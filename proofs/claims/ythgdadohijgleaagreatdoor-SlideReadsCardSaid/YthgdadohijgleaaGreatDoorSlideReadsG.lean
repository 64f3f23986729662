/- Part 7 of what SlideReads leans on: my own lemmas, merged by shake.py. -/
import Derived.Test.YthgdadohijgleaaGreatDoorSlideReadsF
section
namespace Go.Proofs.YthgdadohijgleaaGreatDoor
open Go.RowKit Word
def waitsB (md:Region.Mode) (ops:Array Oper) (ds:List (Nat × List Nat)):Bool:=ds.all fun d=>match ops[d.1]? with
 | some o=>d.2.all fun i=>o.after.any fun e=>Region.binds md e&&e.on==i
 | none=>false
def lowB (md:Region.Mode) (ops:Array Oper):Bool:=(List.range ops.size).all fun j=>match ops[j]? with
 | some o=>o.after.all fun e=>!Region.binds md e||decide (e.on<j)
 | none=>true
def coverB (l0:Array Bool) (ds:List (Nat × List Nat)) (n:Nat):Bool:=(List.range n).all fun k=>l0.getD k false||ds.any fun d=>d.1==k
def upD (D:Nat->Bool) (k:Nat):Nat->Bool:=fun j=>if j=k then true else D j
theorem cnt_drop {f g:Nat->Bool} {n i:Nat} (h:∀ j,g j=true->f j=true) (hi:i<n) (h1:f i=true) (h2:g i=false):cnt g n+1<=cnt f n:=by
 have key:∀ m,cnt g m+(if i<m then 1 else 0)<=cnt f m:=fun m=>by
  induction m with
  | zero=>simp [cnt_zero]
  | succ m ih=>
   rw [cnt_succ,cnt_succ]
   by_cases e:i=m
   ·subst e
    rw [if_pos (Nat.lt_succ_self _),h1,h2]
    rw [if_neg (Nat.lt_irrefl _)] at ih
    simpa using ih
   ·have h3:=h m
    have h4:(g m).toNat<=(f m).toNat:=by cases hg:g m <;> cases hf:f m <;> simp_all
    by_cases h5:i<m
    ·rw [if_pos h5] at ih
     rw [if_pos (by omega)]
     omega
    ·rw [if_neg h5] at ih
     rw [if_neg (by omega)]
     omega
 have:=key n
 rw [if_pos hi] at this
 exact this
section
variable {F:Fence} {n:Nat} {P:Program} {l:List Oper} {Q:Exit->Act->World->Prop} {md:Region.Mode} {S:World->Prop} {z:Nat}
def stepsFIn (F:Fence) (n:Nat) (P:Program) (l:List Oper) (S:World->Prop) (Q:Exit->Act->World->Prop) (I:(Nat->Bool)->Act->World->Prop):List (Nat × List Nat)->Prop
 | []=>True
 | d :: r=>(∀ (D:Nat->Bool) (a:Act) (w:World),I D a w->S w->D d.1=false->(∀ i∈d.2,D i=true)->wpListIn F n P l.toArray (Exit.then (fun a2 w2=>S w2/\I (upD D d.1) a2 w2) Q) (opsAt l [d.1]) a w)/\stepsFIn F n P l S Q I r
theorem stepsFIn_mem {I:(Nat->Bool)->Act->World->Prop} {ds:List (Nat × List Nat)} (h:stepsFIn F n P l S Q I ds) {d:Nat × List Nat} (hd:d∈ds):
  ∀ (D:Nat->Bool) (a:Act) (w:World),I D a w->S w->D d.1=false->(∀ i∈d.2,D i=true)->wpListIn F n P l.toArray (Exit.then (fun a2 w2=>S w2/\I (upD D d.1) a2 w2) Q) (opsAt l [d.1]) a w:=by
 induction ds with
 | nil=>cases hd
 | cons e r ih=>
  rcases List.mem_cons.1 hd with rfl | hd
  ·exact h.1
  ·exact ih h.2 hd
theorem all_listed {listed:Array Bool} (hlow:lowB md l.toArray=true) (hr:Region.ready md l.toArray listed=[]) (hs:listed.size=l.toArray.size):∀ j,j<l.toArray.size->listed.getD j false=true:=by
 intro j
 induction j using Nat.strongRecOn with
 | ind j ih=>
  intro hj
  cases hb:listed.getD j false with
  | true=>rfl
  | false=>
   exfalso
   have hjo:l.toArray[j]?=some l.toArray[j]:=Array.getElem?_eq_getElem hj
   have hl:=List.all_eq_true.1 hlow j (List.mem_range.2 hj)
   rw [hjo] at hl
   have hl:(l.toArray[j].after.all fun e=>!Region.binds md e||decide (e.on<j))=true:=hl
   have hm:j∈Region.ready md l.toArray listed:=by
    refine mem_ready.2 ⟨?_,_,hjo,fun e he hbe=>?_⟩
    ·rw [Array.getD_eq_getD_getElem?,Array.getElem?_eq_getElem (by omega)] at hb ⊢
     exact hb
    ·have h1:=Array.all_eq_true_iff_forall_mem.1 hl e he
     rw [hbe] at h1
     have h2:e.on<j:=by simpa using h1
     exact ih e.on h2 (by omega)
   rw [hr] at hm
   cases hm
theorem upD_set {listed:Array Bool} {i:Nat} (hi:i<listed.size):(fun j=>(listed.setIfInBounds i true).getD j false)=upD (fun j=>listed.getD j false) i:=by
 funext j
 unfold upD
 simp only [Array.getD_eq_getD_getElem?,Array.getElem?_setIfInBounds]
 by_cases h:j=i
 ·subst h
  rw [if_pos rfl,if_pos rfl,if_pos hi];rfl
 ·rw [if_neg (fun e=>h e.symm),if_neg h]
theorem free_allIn {I:(Nat->Bool)->Act->World->Prop} {ds:List (Nat × List Nat)} (hlow:lowB md l.toArray=true) (hwt:waitsB md l.toArray ds=true) (hst:stepsFIn F n P l S Q I ds)
  (hfin:∀ (D:Nat->Bool) (a:Act) (w:World),I D a w->S w->(∀ j,j<l.toArray.size->D j=true)->Q .normal a w):
  ∀ (f:Nat) (listed:Array Bool) (a:Act) (w:World),Closed md l.toArray listed->listed.size=l.toArray.size->cnt (fun j=>!listed.getD j false) l.toArray.size<=f →
   (∀ k,k<l.toArray.size->listed.getD k false=false->∃ d∈ds,d.1=k)->S w->I (fun j=>listed.getD j false) a w->wpAnyZIn F n P md l.toArray Q S z f listed a w:=by
 intro f
 induction f with
 | zero=>
  intro listed a w hc hs hf hcov hS hI
  have hall:∀ j,j<l.toArray.size->listed.getD j false=true:=fun j hj=>by
   have:=cnt_zero_iff (Nat.le_zero.1 hf) j hj
   simpa using this
  refine ⟨?_,hfin _ a w hI hS hall⟩
  cases hr:Region.ready md l.toArray listed with
  | nil=>rfl
  | cons i r=>
   exfalso
   have hi:i∈Region.ready md l.toArray listed:=by rw [hr];exact List.mem_cons_self ..
   obtain ⟨h1,o,ho,-⟩:=mem_ready.1 hi
   have hlt:i<l.toArray.size:=(Array.getElem?_eq_some_iff.1 ho).1
   exact not_both h1 (hall i hlt)
 | succ f ih=>
  intro listed a w hc hs hf hcov hS hI
  refine ⟨fun hr=>hfin _ a w hI hS (all_listed hlow hr hs),fun i hi=>?_⟩
  obtain ⟨h1,o,ho,hall⟩:=mem_ready.1 hi
  have hlt:i<l.toArray.size:=(Array.getElem?_eq_some_iff.1 ho).1
  have hun:listed.getD i false=false:=by
   rw [Array.getD_eq_getD_getElem?,Array.getElem?_eq_getElem (by omega)] at h1 ⊢
   exact h1
  obtain ⟨d,hd,rfl⟩:=hcov i hlt hun
  have hw:=List.all_eq_true.1 hwt d hd
  rw [ho] at hw
  have hw:(d.2.all fun i=>o.after.any fun e=>Region.binds md e&&e.on==i)=true:=hw
  have hwt':∀ i∈d.2,listed.getD i false=true:=fun i hi=>by
   have h2:=List.all_eq_true.1 hw i hi
   obtain ⟨e,he,h3⟩:=Array.any_eq_true'.1 h2
   obtain ⟨h4,h5⟩:=Bool.and_eq_true_iff.1 h3
   have h5:e.on=i:=by simpa using h5
   rw [<-h5]
   exact hall e he h4
  have hst':=stepsFIn_mem hst hd _ a w hI hS hun hwt'
  rw [opsAt_cons ho] at hst'
  refine wpOpIn_then ho (fun a2 w2 h2=>⟨.inr h2.1,ih _ a2 w2 (hc.set hi) (by rw [Array.size_setIfInBounds];exact hs) ?_ ?_ h2.1 ?_⟩) hst'
  ·have hd':=cnt_drop (f:=fun j=>!listed.getD j false) (g:=fun j=>!(listed.setIfInBounds d.1 true).getD j false) (n:=l.toArray.size) (i:=d.1) (fun j hj=>by
    have e:=congrFun (upD_set (listed:=listed) (i:=d.1) (by omega)) j
    rw [e] at hj
    unfold upD at hj
    split at hj
    ·simp at hj
    ·exact hj) hlt (by rw [hun];rfl) (by
    have e:=congrFun (upD_set (listed:=listed) (i:=d.1) (by omega)) d.1
    rw [e]
    unfold upD
    rw [if_pos rfl];rfl)
   omega
  ·intro k hk hl
   have e:=congrFun (upD_set (listed:=listed) (i:=d.1) (by omega)) k
   rw [e] at hl
   unfold upD at hl
   split at hl
   ·cases hl
   ·exact hcov k hk hl
  ·rw [upD_set (by omega)];exact h2.2
theorem wpIn_region_free {id:Nat} {a:Act} {w:World} (S:World->Prop) (qs:List Nat) (l0:Array Bool) (ds:List (Nat × List Nat)) (I:(Nat->Bool)->Act->World->Prop) (hF:∀ f,F.fn f) (hm:P.follows .mixedOrders=true)
  (hB:(noDefer l.toArray&&Region.noSelect l.toArray&&lowB .any l.toArray&&waitsB .any l.toArray ds&&coverB l0 ds l.toArray.size&&decide (readsB .any l.toArray qs (Array.replicate l.toArray.size false)=some l0)&&decide (l0.size=l.toArray.size)&&decide (qs.length+cnt (fun j=>!l0.getD j false) l.toArray.size=l.toArray.size))=true) (hS:S w.drew)
  (h:wpQuiet P l.toArray (fun w'=>∃ p:Held S,w'=p.w) (fun a'=>I (fun j=>l0.getD j false) a' w.drew) (opsAt l qs) a)
  (hst:stepsFIn F n P l (fun w'=>∃ p:Held S,w'=p.w) (NoPanic Q) I ds)
  (hfin:∀ (D:Nat->Bool) (a:Act) (w:World),I D a w->(∃ p:Held S,w=p.w)->(∀ j,j<l.toArray.size->D j=true)->NoPanic Q .normal a w):(Code.region id l.toArray true).wpIn F n P Q a w:=by
 simp only [Bool.and_eq_true,decide_eq_true_eq] at hB
 obtain ⟨⟨⟨⟨⟨⟨⟨hnd,hsel⟩,hlow⟩,hwt⟩,hcov⟩,hrd⟩,hsz⟩,hlen⟩:=hB
 refine wpIn_mono (wpIn_region_any hm ?_) NoPanic.imp
 have hz:sinkZ .any l.toArray l.toArray.size=true:=by unfold sinkZ;simp
 have:=reads_quietIn (F:=F) (n:=n) (P:=P) (Q:=NoPanic Q) (S:=fun w'=>∃ p:Held S,w'=p.w) (md:=.any) (f:=cnt (fun j=>!l0.getD j false) l.toArray.size) (K:=fun a'=>I (fun j=>l0.getD j false) a' w.drew) hF hnd hsel (fun c a b w h=>h) hz (Held.of hS)
  (fun a hc hI=>free_allIn hlow hwt hst hfin _ l0 a w.drew hc hsz (Nat.le_refl _) (fun k hk hl=>by
   have:=List.all_eq_true.1 hcov k (List.mem_range.2 hk)
   rw [hl,Bool.false_or] at this
   obtain ⟨d,hd,e⟩:=List.any_eq_true.1 this
   exact ⟨d,hd,by simpa using e⟩) (Held.of hS) hI) qs _ a hrd (Closed.none .any l.toArray) h
 rw [hlen] at this
 exact wpAnyIn_of_Z _ _ _ _ this
theorem wpIn_region_freeA {id:Nat} {a:Act} {w:World} (S:World->Prop) (qs:List Nat) (l0:Array Bool) (ds:List (Nat × List Nat)) (I:Act->(Nat->Bool)->Act->World->Prop) (hF:∀ f,F.fn f) (hm:P.follows .mixedOrders=true)
  (hB:(noDefer l.toArray&&Region.noSelect l.toArray&&lowB .any l.toArray&&waitsB .any l.toArray ds&&coverB l0 ds l.toArray.size&&decide (readsB .any l.toArray qs (Array.replicate l.toArray.size false)=some l0)&&decide (l0.size=l.toArray.size)&&decide (qs.length+cnt (fun j=>!l0.getD j false) l.toArray.size=l.toArray.size))=true) (hS:S w.drew)
  (h:wpQuiet P l.toArray (fun w'=>∃ p:Held S,w'=p.w) (fun a'=>I a (fun j=>l0.getD j false) a' w.drew) (opsAt l qs) a)
  (hst:stepsFIn F n P l (fun w'=>∃ p:Held S,w'=p.w) (NoPanic Q) (I a) ds)
  (hfin:∀ (D:Nat->Bool) (a':Act) (w:World),I a D a' w->(∃ p:Held S,w=p.w)->(∀ j,j<l.toArray.size->D j=true)->NoPanic Q .normal a' w):(Code.region id l.toArray true).wpIn F n P Q a w:=
 wpIn_region_free S qs l0 ds (I a) hF hm hB hS h hst hfin
end
end Go.Proofs.YthgdadohijgleaaGreatDoor
end
section
namespace Go.Proofs.YthgdadohijgleaaGreatDoor
open Go.RowKit Word
theorem Run24.map {x:LaidC} {rm:Nat} {v:Vm} (h:Run24 x rm v):∀ a:Nat,x.page<=a->a<x.top->v.ldE a=0:=fun a h1 h2=>by
 have h3:=x.top_le
 have h4:=x.page_pos
 rw [h.le a (by unfold LaidC.n;omega),if_pos]
 refine ⟨h1,?_⟩
 unfold upN
 have:=Nat.div_add_mod (x.top+x.page-1) x.page
 have:=Nat.mod_lt (x.top+x.page-1) (show 0<x.page by omega)
 have:(x.top+x.page-1)/x.page*x.page=x.page*((x.top+x.page-1)/x.page):=Nat.mul_comm _ _
 omega
end Go.Proofs.YthgdadohijgleaaGreatDoor
end
