/- Part 1 of what HeapNobody leans on: my own lemmas, merged by shake.py. -/
import Derived.WalkKit
import Derived.BigQuiet
import Derived.Deep.Cut
import Derived.RangeFuncNested
import Derived.RangeFuncBound
import Derived.RangeFuncCalls
import Derived.RangeFuncLeaves
import Derived.Deep.RegionHeld3
import Derived.OrdersIn
import Derived.Deep.AppendLies
import Derived.Test.YtmjoodkiiekjcaaGreatDoorProg
import Derived.Test.YtmjoodkiiekjcaaGreatDoorCards
import Derived.Test.YtmjoodkiiekjcaaGreatDoorTie
import Derived.ProofKit
import Derived.OpenShut
import Derived.Deep.DeepHandedRow
import Derived.Deep.Slices
import Derived.Lib.SmallJoins
import Derived.Lib.LaidTab
namespace Go.Proofs.YtmjoodkiiekjcaaGreatDoor
set_option maxRecDepth 100000
section
section
section
open Go.RowKit
structure Hid (p:Prop):Prop where
 o:p
theorem hid {p:Prop} (h:p):Hid p:=⟨h⟩
def grow (w:World) (xs:Array Obj) (n:Nat):World:={ w with heap:=w.heap++xs,drawn:=n }
theorem XQv (w:World) (xs:Array Obj) (n k:Nat) (h:k<w.heap.size):(grow w xs n).heap[k]?=w.heap[k]?:=by
 show (w.heap++xs)[k]?=_
 rw [Array.getElem?_append_left h]
theorem QG6 (w:World) (xs:Array Obj) (n:Nat):(grow w xs n).heap.size=w.heap.size+xs.size:=by
 show (w.heap++xs).size=_;simp
theorem JyW (w:World) (xs ys:Array Obj) (n m:Nat):grow (grow w xs n) ys m=grow w (xs++ys) m:=by
 simp [grow,Array.append_assoc]
def Gr (w W:World):Prop:=∃ xs n,W=grow w xs n
theorem JC8 (w:World):grow w #[] w.drawn=w:=by cases w;simp [grow]
theorem Gr.refl (w:World):Gr w w:=⟨#[],w.drawn,(JC8 w).symm⟩
theorem Gr.trans {a b c:World} (h:Gr a b) (k:Gr b c):Gr a c:=by
 obtain ⟨xs,n,rfl⟩:=h;obtain ⟨ys,m,rfl⟩:=k;exact ⟨xs++ys,m,JyW a xs ys n m⟩
theorem Gr.drewN {w W:World} (h:Gr w W) (n:Nat):Gr w (W.drewN n):=h.trans ⟨#[],W.drawn+n,by simp [Go.Proofs.YtmjoodkiiekjcaaGreatDoor.grow,World.drewN]⟩
theorem Gr.drew {w W:World} (h:Gr w W):Gr w W.drew:=h.trans ⟨#[],W.drawn+1,by show _=({ W with heap:=W.heap++#[],drawn:=W.drawn+1 }:World);rw [Array.append_empty];rfl⟩
theorem Gr.alloc {w W:World} (h:Gr w W) (o:Obj):Gr w (W.alloc o):=h.trans ⟨#[o],W.drawn,by show _=({ W with heap:=W.heap++#[o],drawn:=W.drawn }:World);rw [Array.append_singleton];rfl⟩
theorem Gr.size {w W:World} (h:Gr w W):w.heap.size<=W.heap.size:=by obtain ⟨xs,n,rfl⟩:=h;rw [QG6];omega
theorem Gr.block {w W:World} (h:Gr w W) {k:Nat} (hk:k<w.heap.size):W.heap[k]?=w.heap[k]?:=by obtain ⟨xs,n,rfl⟩:=h;exact XQv w xs n k hk
theorem Gr.cell {w W:World} (h:Gr w W) {b:Nat} (hb:b<w.heap.size) (o:Nat):W.cell? ⟨b,o,none⟩=w.cell? ⟨b,o,none⟩:=World.cell?_of_block (w:=w) (h.block hb)
theorem Gr.frozen {w W:World} (h:Gr w W) {b:Nat} (hb:b<w.heap.size) (o:Nat):W.frozen? ⟨b,o,none⟩=w.frozen? ⟨b,o,none⟩:=World.frozen?_of_block (w:=w) (h.block hb)
structure XF4 (S:Nat->Prop) (w w':World):Prop where
 os:w'.os=w.os
 tape:w'.tape=w.tape
 output:w'.output=w.output
 size:w.heap.size<=w'.heap.size
 block:∀ k,k<w.heap.size->¬ S k->w'.heap[k]?=w.heap[k]?
theorem XF4.refl (S:Nat->Prop) (w:World):XF4 S w w:=⟨rfl,rfl,rfl,Nat.le_refl _,fun _ _ _=>rfl⟩
theorem Gr.touch {w W:World} (h:Gr w W) (S:Nat->Prop):XF4 S w W:=by
 refine ⟨?_,?_,?_,h.size,fun k hk _=>h.block hk⟩ <;> (obtain ⟨xs,n,rfl⟩:=h;rfl)
theorem XF4.mono {S T:Nat->Prop} {w w':World} (h:XF4 S w w') (hs:∀ k,k<w.heap.size->S k->T k):XF4 T w w':=
 ⟨h.os,h.tape,h.output,h.size,fun k hk hn=>h.block k hk (fun hS=>hn (hs k hk hS))⟩
theorem XF4.trans {S:Nat->Prop} {a b c:World} (h:XF4 S a b) (k:XF4 S b c):XF4 S a c:=
 ⟨k.os.trans h.os,k.tape.trans h.tape,k.output.trans h.output,Nat.le_trans h.size k.size,fun i hi hn=>(k.block i (Nat.lt_of_lt_of_le hi h.size) hn).trans (h.block i hi hn)⟩
theorem XF4.trans' {S T:Nat->Prop} {a b c:World} (h:XF4 S a b) (k:XF4 T b c) (hT:∀ i,i<a.heap.size->T i->S i):XF4 S a c:=
 ⟨k.os.trans h.os,k.tape.trans h.tape,k.output.trans h.output,Nat.le_trans h.size k.size,fun i hi hn=>(k.block i (Nat.lt_of_lt_of_le hi h.size) (fun ht=>hn (hT i hi ht))).trans (h.block i hi hn)⟩
theorem XF4.cell {S:Nat->Prop} {w w':World} (h:XF4 S w w') {b:Nat} (hb:b<w.heap.size) (hS:¬ S b) (o:Nat):w'.cell? ⟨b,o,none⟩=w.cell? ⟨b,o,none⟩:=World.cell?_of_block (w:=w) (h.block b hb hS)
theorem XF4.frozen {S:Nat->Prop} {w w':World} (h:XF4 S w w') {b:Nat} (hb:b<w.heap.size) (hS:¬ S b) (o:Nat):w'.frozen? ⟨b,o,none⟩=w.frozen? ⟨b,o,none⟩:=World.frozen?_of_block (w:=w) (h.block b hb hS)
theorem XF4.setCell {S:Nat->Prop} {w w':World} (h:XF4 S w w') {a:Addr} (ha:a.block<w.heap.size->S a.block) (v:Value):XF4 S w (w'.setCell a v):=by
 refine h.trans' (T:=fun k=>k=a.block) ⟨rfl,rfl,rfl,by simp [World.setCell],fun k _ hn=>Below.heap_setCell _ _ _ _ hn⟩ ?_;rintro i hi rfl;exact ha hi
theorem XF4.alloc {S:Nat->Prop} {w w':World} (h:XF4 S w w') (o:Obj):XF4 S w (w'.alloc o):=h.trans (((Gr.refl w').alloc o).touch S)
theorem XF4.drew {S:Nat->Prop} {w w':World} (h:XF4 S w w'):XF4 S w w'.drew:=h.trans (((Gr.refl w').drew).touch S)
theorem XF4.drewN {S:Nat->Prop} {w w':World} (h:XF4 S w w') (n:Nat):XF4 S w (w'.drewN n):=h.trans (((Gr.refl w').drewN n).touch S)
theorem XF4.below {S:Nat->Prop} {w w':World} (h:XF4 S w w') {B:Nat} (hB:B<=w.heap.size) (hS:∀ k,k<B->¬ S k):Below B w w':=
 ⟨h.os,h.tape,h.output,h.size,fun k hk=>h.block k (by omega) (hS k hk)⟩
theorem XF4.gr {w w':World} (h:XF4 (fun _=>False) w w'):Gr w w':=by
 refine ⟨w'.heap.extract w.heap.size w'.heap.size,w'.drawn,?_⟩
 have hh:w'.heap=w.heap++w'.heap.extract w.heap.size w'.heap.size:=by
  have hs:=h.size;apply Array.ext_getElem?;intro i;rcases Nat.lt_or_ge i w.heap.size with hi | hi
  ·rw [h.block i hi (fun h=>h),Array.getElem?_append_left hi]
  ·rw [Array.getElem?_append_right hi,Array.getElem?_extract];by_cases hj:i<w'.heap.size
   ·rw [if_pos (by omega)];congr 1;omega
   ·rw [if_neg (by omega),Array.getElem?_eq_none (by omega)]
 obtain ⟨h1,h2,h3,_,_⟩:=h;cases w;cases w';simp only [grow] at *
 subst h1 h2 h3;congr 1
def V4y (P:Program) (f:FuncId) (args:Array Value) (w:World) (v:Value):Prop:=Calls P f args w fun e w'=>e=.returned v/\Gr w w'
theorem Y9c (P:Program) (k:IntKind) (x y:Int) (w:World):(Builtin.min2 (.int k x) (.int k y)).run P w=.ok (.int k (min x y)) w:=by
 show Result.ok (Value.int k (if y<x then y else x)) w=_
 have:(if y<x then y else x)=min x y:=by split <;> omega
 rw [this]
theorem YQd (P:Program) (k:IntKind) (x y:Int) (w:World):(Builtin.max2 (.int k x) (.int k y)).run P w=.ok (.int k (max x y)) w:=by
 show Result.ok (Value.int k (if x<y then y else x)) w=_
 have:(if x<y then y else x)=max x y:=by split <;> omega
 rw [this]
end
end
section
section
open Go.RowKit
structure YF9 where
 xs:Array Obj
 n:Nat
 deriving Inhabited
theorem XAX {P:Program} {id:Nat} {Q:Exit->Act->World->Prop} {a:Act} {w:World} {l:List Oper} (hm:P.follows .mixedOrders=true) (hB:Region.lexB .any l.toArray=true)
  (h:wpQuiet P l.toArray (fun w'=>∃ p:YF9,w'=grow w p.xs p.n) (fun a'=>∀ w',(∃ p:YF9,w'=grow w p.xs p.n)->Q .normal a' w') l a):(Code.region id l.toArray true).wp P Q a w:=
 wp_region_quiet (C:=fun w'=>∃ p:YF9,w'=grow w p.xs p.n) hm hB ⟨⟨#[],w.drawn+1⟩,by obtain ⟨xs,n,h⟩:=(Gr.refl w).drew;show w.drew=({ w with heap:=w.heap++#[],drawn:=w.drawn+1 }:World);rw [Array.append_empty];rfl⟩ (by rw [List.toList_toArray];exact h)
theorem ZQf {w:World} {a:Addr} {v:Value} (h:w.cell? a=some v):a.block<w.heap.size:=by
 unfold World.cell? at h;rcases Nat.lt_or_ge a.block w.heap.size with h1 | h1
 ·exact h1
 ·rw [Array.getElem?_eq_none h1] at h;cases h
theorem grown (w:World) (xs:Array Obj) (n:Nat):Gr w (grow w xs n):=⟨xs,n,rfl⟩
theorem V4y.grown {P:Program} {f:FuncId} {args:Array Value} {w:World} {xs:Array Obj} {n:Nat} {v:Value} (h:V4y P f args (grow w xs n) v):
  Calls P f args (grow w xs n) fun e w''=>e=.returned v/\∃ p:YF9,w''=Go.Proofs.YtmjoodkiiekjcaaGreatDoor.grow w p.xs p.n:=
 h.mono fun _ _ ⟨he,ys,m,hw⟩=>⟨he,⟨xs++ys,m⟩,by rw [hw,JyW]⟩
theorem V4y.grown_same {P:Program} {f:FuncId} {args:Array Value} {w:World} {xs:Array Obj} {n:Nat} {v:Value} (h:Calls P f args (grow w xs n) fun e w'=>e=.returned v/\grow w xs n=w'):
  Calls P f args (grow w xs n) fun e w''=>e=.returned v/\∃ p:YF9,w''=Go.Proofs.YtmjoodkiiekjcaaGreatDoor.grow w p.xs p.n:=
 h.mono fun _ _ ⟨he,hw⟩=>⟨he,⟨xs,n⟩,hw.symm⟩
end
end
section
section
open Go.RowKit
section
variable {F:Fence} {n:Nat} {P:Program}
def ZAK {σ α:Type} (F:Fence) (n:Nat) (P:Program) (g:Nat) (lb:Array Value) (encs:α->Array Value) (Inv:σ->World->Prop) (gives:σ->α->Prop) (next:σ->α->σ->Prop) (fin:σ->Prop) (s0:σ) (w:World):Prop:=
 ∀ (l:Nat) (J:σ->World->Prop) (Jx:World->Prop) (W:World),Gr w W->(∀ s A B,J s A->Gr A B->J s B)->(∀ A B,Jx A->Gr A B->Jx B)->(∀ s A,J s A->Inv s A) →
  (∀ s x W1,J s W1->gives s x->YieldAt F (n-1) P l (encs x) W1 fun e W'=>(e=.returned (.bool true)/\∃ s',next s x s'/\J s' W')\/(e=.returned (.bool false)/\Jx W')) →
  J s0 W->CallsIn F n P g (#[.func (.yield l) #[] #[]]++lb) W fun e W'=>(∃ v,e=.returned v)/\((∃ s,fin s/\J s W')\/Jx W')
def YMR {σ α:Type} (B:Nat) (I:σ->World->Prop) (Ix:Code->World->Prop) (next:σ->α->σ->Prop) (s:σ) (x:α) (W:World):Exit->Act->World->Prop
 | .normal,_,W'=>XF4 (fun k=>k<B) W W'/\∃ s',next s x s'/\I s' W'
 | .ret,_,W'=>XF4 (fun k=>k<B) W W'/\Ix .ret W'
 | .exit id,_,W'=>XF4 (fun k=>k<B) W W'/\Ix (.exit id) W'
 | .goto t,_,W'=>XF4 (fun k=>k<B) W W'/\Ix (.goto t) W'
 | _,_,_=>False
theorem Xau (W:World) (l:Nat) (o:Obj) {B:Nat} (h:B<=l):XF4 (fun k=>B<=k) W (W.putObj l o):=
 ⟨rfl,rfl,rfl,by simp,fun k _ hn=>World.putObj_heap_other (fun e=>hn (by omega))⟩
theorem Zu0 {σ α:Type} {g:Operand} {ps:Array Tmp} {assign body:Code} {Q:Exit->Act->World->Prop} {a:Act} {w:World}
  (hro:F.round=none) (h1:1<=n) {gf:Nat} {lb:Array Value} (hg:a.eval g=.func (.func gf) #[] lb) (hFg:F.fn gf) (eg:∀ args w,(callFunc gf args).run P w=.ok (.enter gf args) w)
  {encs:α->Array Value} {Inv:σ->World->Prop} {gives:σ->α->Prop} {next:σ->α->σ->Prop} {fin:σ->Prop} {s0:σ} (hseq:ZAK F (n-1) P gf lb encs Inv gives next fin s0 w)
  (hps:∀ x,(encs x).size=ps.size)
  (I:σ->World->Prop) (Ix:Code->World->Prop) (hI:∀ s A B,I s A->XF4 (fun k=>w.heap.size<=k) A B->I s B) (hIx:∀ c A B,Ix c A->XF4 (fun k=>w.heap.size<=k) A B->Ix c B)
  (hInv:∀ s A,I s A->Inv s A) (h0:I s0 w)
  (hround:∀ (l:Nat) (s:σ) (x:α) (W:World),w.heap.size+2<=W.heap.size->I s W->gives s x →
   assign.wpIn (F.inRound l) (n-1-1) P (Exit.then (fun a' Wa=>Gr W Wa/\∀ W2,XF4 (fun k=>k=w.heap.size+1) Wa W2->I s W2->body.wpIn (F.inRound l) (n-1-1) P (YMR w.heap.size I Ix next s x W2) a' W2) (fun _ _ _=>False))
    { tmps:=(ps.zip (encs x)).foldl (fun t (p,v)=>t.setIfInBounds p v) a.tmps,defers:=[] } W)
  (hdone:∀ (D:Nat) (s:σ) (W:World),w.heap.size<=D->fin s->I s W->W.heap[D]?=some (.deferred (some []))->Q .normal { a with defers:={ target:=.collected D,args:=#[] } :: a.defers } W)
  (hstop:∀ (D:Nat) (c:Code) (W:World),w.heap.size<=D->Ix c W->W.heap[D]?=some (.deferred (some []))->c.wpIn F n P Q { a with defers:={ target:=.collected D,args:=#[] } :: a.defers } W):
  (Code.rangeFunc g ps assign body).wpIn F n P Q a w:=by
 refine wpIn_rangeFunc ?_;intro fn hfn;rw [hro];obtain ⟨rec,hrec⟩:∃ rec:LoopState->Option Code->Loop,rec=fun st pe=>{ state:=st,pending:=pe,fn,tmps:=a.tmps,params:=ps,assign,body,defers:=w.heap.size }:=⟨_,rfl⟩;obtain ⟨W1,hW1⟩:∃ W1,(w.alloc (.deferred (some []))).alloc (.loop (rec .ready none))=W1:=⟨_,rfl⟩
 have hL1:W1.heap[w.heap.size+1]?=some (.loop (rec .ready none)):=by
  rw [<-hW1];have:=World.alloc_heap_new (w.alloc (.deferred (some []))) (.loop (rec .ready none));rwa [World.size_alloc] at this
 have hK1:W1.heap[w.heap.size]?=some (.deferred (some [])):=by
  rw [<-hW1];exact (Below.heap_alloc _ _ _ (by simp)).trans (World.alloc_heap_new w _)
 have hg1:Gr w W1:=by rw [<-hW1];exact ((Gr.refl w).alloc _).alloc _
 have tt:∀ {A B:World},Gr A B->XF4 (fun k=>w.heap.size<=k) A B:=fun h=>h.touch _;have lt_of:∀ {A:World} {k:Nat} {o:Obj},A.heap[k]?=some o->k<A.heap.size:=fun h=>(Array.getElem?_eq_some_iff.1 h).1
 refine ⟨w.heap.size+1,[{ target:=.collected w.heap.size,args:=#[] }],W1,{ target:=.fn (.func gf) lb,args:=#[.func (.yield (w.heap.size+1)) #[] #[]] },W1,gf,
  #[.func (.yield (w.heap.size + 1)) #[] #[]] ++ lb, W1, ?_, ?_, ?_, ?_, fun _ => h1, ?_⟩
 ·rw [<-hW1,hrec];exact run_enterLoop_outer _ _ _ _ _
 ·simp only [resolve,hg];simp [go_sem]
 ·intro f' hf';simp [Target.leads] at hf';subst hf';exact hFg
 ·simp [invoke,go_sem,eg]
 ·refine (hseq (w.heap.size+1)
   (fun s W=>I s W/\W.heap[w.heap.size+1]?=some (.loop (rec .ready none))/\W.heap[w.heap.size]?=some (.deferred (some [])))
   (fun W=>∃ c,Ix c W/\W.heap[w.heap.size+1]?=some (.loop (rec .done (some c)))/\W.heap[w.heap.size]?=some (.deferred (some [])))
   W1 hg1
   (fun s A B hs hg'=>⟨hI s A B hs.1 (tt hg'),(hg'.block (lt_of hs.2.1)).trans hs.2.1,(hg'.block (lt_of hs.2.2)).trans hs.2.2⟩)
   (fun A B hs hg'=>by
    obtain ⟨c,hc,hl,hk⟩:=hs
    exact ⟨c,hIx c A B hc (tt hg'),(hg'.block (lt_of hl)).trans hl,(hg'.block (lt_of hk)).trans hk⟩)
   (fun s A hs=>hInv s A hs.1) ?_ ⟨hI _ _ _ h0 (tt hg1),hL1,hK1⟩).mono ?_
  ·rintro s x W ⟨hi,hl,hk⟩ hgv;have hlt:w.heap.size+1<W.heap.size:=lt_of hl;have hy:=run_yield (P:=P) (args:=encs x) hl (by rw [hrec];exact hps x);rw [hrec] at hy;refine ⟨fn,_,assign,body,hy,roundIn_of_wpIn hfn (wpIn_mono (hround _ s x W (by omega) hi hgv) ?_)⟩;rintro e a' Wa hp;cases e with
   | normal=>?_
   | _=>exact False.elim hp
   obtain ⟨hga,hbody⟩:=hp
   replace hl:=(hga.block hlt).trans hl
   replace hk:=(hga.block (by omega)).trans hk
   replace hlt:=lt_of hl
   replace hi:=hI _ _ _ hi (tt hga)
   clear hy hga;revert hbody;generalize W=W0;intro hbody;obtain ⟨W,rfl⟩:∃ W,W=Wa:=⟨_,rfl⟩;refine ⟨_,run_beginRound hl (by rw [hrec]),?_⟩;have hl2:(W.putObj (w.heap.size+1) (.loop { rec .ready none with state:=.busy })).heap[w.heap.size+1]?=some (.loop { rec .ready none with state:=.busy }):=World.putObj_heap_same hlt;have hk2:(W.putObj (w.heap.size+1) (.loop { rec .ready none with state:=.busy })).heap[w.heap.size]?=some (.deferred (some [])):=(World.putObj_heap_other (by omega)).trans hk;refine wpIn_mono (hbody _ ⟨rfl,rfl,rfl,by simp,fun k _ hn=>World.putObj_heap_other hn⟩ (hI _ _ _ hi (Xau W _ _ (by omega)))) ?_
   have fin:∀ (jump:Option Code) (W3:World),XF4 (fun k=>k<w.heap.size) (W.putObj (w.heap.size+1) (.loop { rec .ready none with state:=.busy })) W3 →
     (Instr.endRound (w.heap.size+1) jump).run P W3=.ok (.bool jump.isNone) (W3.putObj (w.heap.size+1) (.loop (rec (if jump.isNone then .ready else .done) jump))) ∧
     (W3.putObj (w.heap.size+1) (.loop (rec (if jump.isNone then .ready else .done) jump))).heap[w.heap.size+1]?=some (.loop (rec (if jump.isNone then .ready else .done) jump)) ∧
     (W3.putObj (w.heap.size+1) (.loop (rec (if jump.isNone then .ready else .done) jump))).heap[w.heap.size]?=some (.deferred (some [])):=fun jump W3 hk3=>by
    have hl3:=(hk3.block _ (lt_of hl2) (by omega)).trans hl2;have:=run_endRound (P:=P) jump hl3;rw [hrec] at this ⊢;exact ⟨this,World.putObj_heap_same (lt_of hl3),(World.putObj_heap_other (by omega)).trans ((hk3.block _ (lt_of hk2) (by omega)).trans hk2)⟩
   rintro e a3 W3 hp;cases e with
   | normal=>
    obtain ⟨hk3,s',hn3,hi3⟩:=hp;obtain ⟨hr,hl4,hk4⟩:=fin none W3 hk3;exact ⟨_,_,hr,.inl ⟨rfl,s',hn3,hI _ _ _ hi3 (Xau W3 _ _ (by omega)),hl4,hk4⟩⟩
   | ret=>
    obtain ⟨hk3,hi3⟩:=hp;obtain ⟨hr,hl4,hk4⟩:=fin (some .ret) W3 hk3;exact ⟨_,_,hr,.inr ⟨rfl,.ret,hIx _ _ _ hi3 (Xau W3 _ _ (by omega)),hl4,hk4⟩⟩
   | exit id=>
    obtain ⟨hk3,hi3⟩:=hp;obtain ⟨hr,hl4,hk4⟩:=fin (some (.exit id)) W3 hk3;exact ⟨_,_,hr,.inr ⟨rfl,.exit id,hIx _ _ _ hi3 (Xau W3 _ _ (by omega)),hl4,hk4⟩⟩
   | goto t=>
    obtain ⟨hk3,hi3⟩:=hp;obtain ⟨hr,hl4,hk4⟩:=fin (some (.goto t)) W3 hk3;exact ⟨_,_,hr,.inr ⟨rfl,.goto t,hIx _ _ _ hi3 (Xau W3 _ _ (by omega)),hl4,hk4⟩⟩
   | panic ch=>exact hp.elim
   | outgrown=>exact hp.elim
  ·rintro e W2 ⟨⟨v,rfl⟩,(⟨s,hS,hi,hl,hk⟩ | ⟨c,hi,hl,hk⟩)⟩
   ·exact ⟨none,_,by have:=run_endLoop (P:=P) hl (by rw [hrec];simp);rw [hrec] at this;exact this,hdone _ s _ (Nat.le_refl _) hS (hI _ _ _ hi (Xau W2 _ _ (by omega))) ((World.putObj_heap_other (by omega)).trans hk)⟩
   ·exact ⟨some c,_,by have:=run_endLoop (P:=P) hl (by rw [hrec];simp);rw [hrec] at this;exact this,hstop _ c _ (Nat.le_refl _) (hIx _ _ _ hi (Xau W2 _ _ (by omega))) ((World.putObj_heap_other (by omega)).trans hk)⟩
end
end
end
section
section
open Go.RowKit
section
variable {F:Fence} {n:Nat} {P:Program}
def Vwu {σ α:Type} (F:Fence) (n:Nat) (P:Program) (g:Nat) (lb:Array Value) (encs:α->Array Value) (Inv:σ->World->Prop) (gives:σ->α->Prop) (next:σ->α->σ->Prop) (fin:σ->Prop) (s0:σ) (w:World):Prop:=
 ∀ (l:Nat) (J:σ->World->Prop) (Jx:World->Prop) (W:World),Gr w W->(∀ s A B,J s A->XF4 (fun k=>W.heap.size<=k) A B->J s B)->(∀ A B,Jx A->XF4 (fun k=>W.heap.size<=k) A B->Jx B)->(∀ s A,J s A->Inv s A) →
  (∀ s x W1,J s W1->W.heap.size<=W1.heap.size->gives s x->YieldAt F (n-1) P l (encs x) W1 fun e W'=>((e=.returned (.bool true)/\∃ s',next s x s'/\J s' W')\/(e=.returned (.bool false)/\Jx W'))/\XF4 (fun k=>k<W.heap.size) W1 W') →
  J s0 W->CallsIn F n P g (#[.func (.yield l) #[] #[]]++lb) W fun e W'=>(∃ v,e=.returned v)/\((∃ s,fin s/\J s W')\/Jx W')
theorem Vx3 (W:World) (l:Nat) (o:Obj):XF4 (fun k=>k=l) W (W.putObj l o):=
 ⟨rfl,rfl,rfl,by simp,fun _ _ hn=>World.putObj_heap_other hn⟩
theorem ZAK.toT {σ α:Type} {g:Nat} {lb:Array Value} {encs:α->Array Value} {Inv:σ->World->Prop} {gives:σ->α->Prop} {next:σ->α->σ->Prop} {fin:σ->Prop} {s0:σ} {w:World} (h:ZAK F n P g lb encs Inv gives next fin s0 w):Vwu F n P g lb encs Inv gives next fin s0 w:=by
 intro l J Jx W hg hJ hJx hI hY h0;refine h l (fun s A=>J s A/\W.heap.size<=A.heap.size) Jx W hg (fun s A B hs hAB=>⟨hJ s A B hs.1 (hAB.touch _),Nat.le_trans hs.2 hAB.size⟩) (fun A B hs hAB=>hJx A B hs (hAB.touch _)) (fun s A hs=>hI s A hs.1) ?_ ⟨h0,Nat.le_refl _⟩ |>.mono ?_
 ·rintro s x W1 ⟨hs,hsz⟩ hx;refine (hY s x W1 hs hsz hx).mono ?_;rintro e W' ⟨⟨he,s',hn,hJ'⟩ | ⟨he,hx'⟩,ht⟩
  ·exact .inl ⟨he,s',hn,hJ',Nat.le_trans hsz ht.size⟩
  ·exact .inr ⟨he,hx'⟩
 ·rintro e W' ⟨hv,⟨s,hs,hJ',_⟩ | hx⟩
  ·exact ⟨hv,.inl ⟨s,hs,hJ'⟩⟩
  ·exact ⟨hv,.inr hx⟩
theorem JQ9 {σ α:Type} {g:Operand} {ps:Array Tmp} {assign body:Code} {Q:Exit->Act->World->Prop} {a:Act} {w:World}
  (hro:F.round=none) (h1:1<=n) {gf:Nat} {lb:Array Value} (hg:a.eval g=.func (.func gf) #[] lb) (hFg:F.fn gf) (eg:∀ args w,(callFunc gf args).run P w=.ok (.enter gf args) w)
  {encs:α->Array Value} {Inv:σ->World->Prop} {gives:σ->α->Prop} {next:σ->α->σ->Prop} {fin:σ->Prop} {s0:σ} (hseq:Vwu F (n-1) P gf lb encs Inv gives next fin s0 w)
  (hps:∀ x,(encs x).size=ps.size)
  (I:σ->World->Prop) (Ix:Code->World->Prop) (hI:∀ s A B,I s A->XF4 (fun k=>w.heap.size<=k) A B->I s B) (hIx:∀ c A B,Ix c A->XF4 (fun k=>w.heap.size<=k) A B->Ix c B)
  (hInv:∀ s A,I s A->Inv s A) (h0:I s0 w)
  (hround:∀ (l:Nat) (s:σ) (x:α) (W:World),w.heap.size+2<=W.heap.size->I s W->gives s x →
   assign.wpIn (F.inRound l) (n-1-1) P (Exit.then (fun a' Wa=>Gr W Wa/\∀ W2,XF4 (fun k=>k=w.heap.size+1) Wa W2->I s W2->body.wpIn (F.inRound l) (n-1-1) P (YMR w.heap.size I Ix next s x W2) a' W2) (fun _ _ _=>False))
    { tmps:=(ps.zip (encs x)).foldl (fun t (p,v)=>t.setIfInBounds p v) a.tmps,defers:=[] } W)
  (hdone:∀ (D:Nat) (s:σ) (W:World),w.heap.size<=D->fin s->I s W->W.heap[D]?=some (.deferred (some []))->Q .normal { a with defers:={ target:=.collected D,args:=#[] } :: a.defers } W)
  (hstop:∀ (D:Nat) (c:Code) (W:World),w.heap.size<=D->Ix c W->W.heap[D]?=some (.deferred (some []))->c.wpIn F n P Q { a with defers:={ target:=.collected D,args:=#[] } :: a.defers } W):
  (Code.rangeFunc g ps assign body).wpIn F n P Q a w:=by
 refine wpIn_rangeFunc ?_;intro fn hfn;rw [hro];obtain ⟨rec,hrec⟩:∃ rec:LoopState->Option Code->Loop,rec=fun st pe=>{ state:=st,pending:=pe,fn,tmps:=a.tmps,params:=ps,assign,body,defers:=w.heap.size }:=⟨_,rfl⟩;obtain ⟨W1,hW1⟩:∃ W1,(w.alloc (.deferred (some []))).alloc (.loop (rec .ready none))=W1:=⟨_,rfl⟩
 have hL1:W1.heap[w.heap.size+1]?=some (.loop (rec .ready none)):=by
  rw [<-hW1];have:=World.alloc_heap_new (w.alloc (.deferred (some []))) (.loop (rec .ready none));rwa [World.size_alloc] at this
 have hK1:W1.heap[w.heap.size]?=some (.deferred (some [])):=by
  rw [<-hW1];exact (Below.heap_alloc _ _ _ (by simp)).trans (World.alloc_heap_new w _)
 have hg1:Gr w W1:=by rw [<-hW1];exact ((Gr.refl w).alloc _).alloc _
 have tt:∀ {A B:World},Gr A B->XF4 (fun k=>w.heap.size<=k) A B:=fun h=>h.touch _;have lt_of:∀ {A:World} {k:Nat} {o:Obj},A.heap[k]?=some o->k<A.heap.size:=fun h=>(Array.getElem?_eq_some_iff.1 h).1
 refine ⟨w.heap.size+1,[{ target:=.collected w.heap.size,args:=#[] }],W1,{ target:=.fn (.func gf) lb,args:=#[.func (.yield (w.heap.size+1)) #[] #[]] },W1,gf,
  #[.func (.yield (w.heap.size + 1)) #[] #[]] ++ lb, W1, ?_, ?_, ?_, ?_, fun _ => h1, ?_⟩
 ·rw [<-hW1,hrec];exact run_enterLoop_outer _ _ _ _ _
 ·simp only [resolve,hg];simp [go_sem]
 ·intro f' hf';simp [Target.leads] at hf';subst hf';exact hFg
 ·simp [invoke,go_sem,eg]
 ·have hs1:W1.heap.size=w.heap.size+2:=by rw [<-hW1];simp
  refine (hseq (w.heap.size+1)
   (fun s W=>I s W/\W.heap[w.heap.size+1]?=some (.loop (rec .ready none))/\W.heap[w.heap.size]?=some (.deferred (some [])))
   (fun W=>∃ c,Ix c W/\W.heap[w.heap.size+1]?=some (.loop (rec .done (some c)))/\W.heap[w.heap.size]?=some (.deferred (some [])))
   W1 hg1
   (fun s A B hs ht=>⟨hI s A B hs.1 (ht.mono (fun k _ h=>by omega)),(ht.block _ (lt_of hs.2.1) (by omega)).trans hs.2.1,(ht.block _ (lt_of hs.2.2) (by omega)).trans hs.2.2⟩)
   (fun A B hs ht=>by
    obtain ⟨c,hc,hl,hk⟩:=hs
    exact ⟨c,hIx c A B hc (ht.mono (fun k _ h=>by omega)),(ht.block _ (lt_of hl) (by omega)).trans hl,(ht.block _ (lt_of hk) (by omega)).trans hk⟩)
   (fun s A hs=>hInv s A hs.1) ?_ ⟨hI _ _ _ h0 (tt hg1),hL1,hK1⟩).mono ?_
  ·rintro s x W ⟨hi,hl,hk⟩-hgv;have hlt:w.heap.size+1<W.heap.size:=lt_of hl;have hy:=run_yield (P:=P) (args:=encs x) hl (by rw [hrec];exact hps x);rw [hrec] at hy;refine ⟨fn,_,assign,body,hy,roundIn_of_wpIn hfn (wpIn_mono (hround _ s x W (by omega) hi hgv) ?_)⟩;rintro e a' Wa hp;cases e with
   | normal=>?_
   | _=>exact False.elim hp
   obtain ⟨hga,hbody⟩:=hp
   replace hl:=(hga.block hlt).trans hl
   replace hk:=(hga.block (by omega)).trans hk
   replace hlt:=lt_of hl
   replace hi:=hI _ _ _ hi (tt hga)
   clear hy;revert hbody hga;generalize W=W0;intro hga hbody;obtain ⟨W,rfl⟩:∃ W,W=Wa:=⟨_,rfl⟩;refine ⟨_,run_beginRound hl (by rw [hrec]),?_⟩;have hl2:(W.putObj (w.heap.size+1) (.loop { rec .ready none with state:=.busy })).heap[w.heap.size+1]?=some (.loop { rec .ready none with state:=.busy }):=World.putObj_heap_same hlt;have hk2:(W.putObj (w.heap.size+1) (.loop { rec .ready none with state:=.busy })).heap[w.heap.size]?=some (.deferred (some [])):=(World.putObj_heap_other (by omega)).trans hk;refine wpIn_mono (hbody _ ⟨rfl,rfl,rfl,by simp,fun k _ hn=>World.putObj_heap_other hn⟩ (hI _ _ _ hi (Xau W _ _ (by omega)))) ?_
   have fin:∀ (jump:Option Code) (W3:World),XF4 (fun k=>k<w.heap.size) (W.putObj (w.heap.size+1) (.loop { rec .ready none with state:=.busy })) W3 →
     (Instr.endRound (w.heap.size+1) jump).run P W3=.ok (.bool jump.isNone) (W3.putObj (w.heap.size+1) (.loop (rec (if jump.isNone then .ready else .done) jump))) ∧
     (W3.putObj (w.heap.size+1) (.loop (rec (if jump.isNone then .ready else .done) jump))).heap[w.heap.size+1]?=some (.loop (rec (if jump.isNone then .ready else .done) jump)) ∧
     (W3.putObj (w.heap.size+1) (.loop (rec (if jump.isNone then .ready else .done) jump))).heap[w.heap.size]?=some (.deferred (some [])):=fun jump W3 hk3=>by
    have hl3:=(hk3.block _ (lt_of hl2) (by omega)).trans hl2;have:=run_endRound (P:=P) jump hl3;rw [hrec] at this ⊢;exact ⟨this,World.putObj_heap_same (lt_of hl3),(World.putObj_heap_other (by omega)).trans ((hk3.block _ (lt_of hk2) (by omega)).trans hk2)⟩
   have tch:∀ (o:Obj) (W3:World),XF4 (fun k=>k<w.heap.size) (W.putObj (w.heap.size+1) (.loop { rec .ready none with state:=.busy })) W3->XF4 (fun k=>k<W1.heap.size) W0 (W3.putObj (w.heap.size+1) o):=fun o W3 h3=>
    (((hga.touch _).trans ((Vx3 W (w.heap.size+1) _).mono (fun k _ h=>by omega))).trans (h3.mono (fun k _ h=>by omega))).trans ((Vx3 W3 (w.heap.size+1) o).mono (fun k _ h=>by omega))
   rintro e a3 W3 hp;cases e with
   | normal=>
    obtain ⟨hk3,s',hn3,hi3⟩:=hp;obtain ⟨hr,hl4,hk4⟩:=fin none W3 hk3;exact ⟨_,_,hr,.inl ⟨rfl,s',hn3,hI _ _ _ hi3 (Xau W3 _ _ (by omega)),hl4,hk4⟩,tch _ _ hk3⟩
   | ret=>
    obtain ⟨hk3,hi3⟩:=hp;obtain ⟨hr,hl4,hk4⟩:=fin (some .ret) W3 hk3;exact ⟨_,_,hr,.inr ⟨rfl,.ret,hIx _ _ _ hi3 (Xau W3 _ _ (by omega)),hl4,hk4⟩,tch _ _ hk3⟩
   | exit id=>
    obtain ⟨hk3,hi3⟩:=hp;obtain ⟨hr,hl4,hk4⟩:=fin (some (.exit id)) W3 hk3;exact ⟨_,_,hr,.inr ⟨rfl,.exit id,hIx _ _ _ hi3 (Xau W3 _ _ (by omega)),hl4,hk4⟩,tch _ _ hk3⟩
   | goto t=>
    obtain ⟨hk3,hi3⟩:=hp;obtain ⟨hr,hl4,hk4⟩:=fin (some (.goto t)) W3 hk3;exact ⟨_,_,hr,.inr ⟨rfl,.goto t,hIx _ _ _ hi3 (Xau W3 _ _ (by omega)),hl4,hk4⟩,tch _ _ hk3⟩
   | panic ch=>exact hp.elim
   | outgrown=>exact hp.elim
  ·rintro e W2 ⟨⟨v,rfl⟩,(⟨s,hS,hi,hl,hk⟩ | ⟨c,hi,hl,hk⟩)⟩
   ·exact ⟨none,_,by have:=run_endLoop (P:=P) hl (by rw [hrec];simp);rw [hrec] at this;exact this,hdone _ s _ (Nat.le_refl _) hS (hI _ _ _ hi (Xau W2 _ _ (by omega))) ((World.putObj_heap_other (by omega)).trans hk)⟩
   ·exact ⟨some c,_,by have:=run_endLoop (P:=P) hl (by rw [hrec];simp);rw [hrec] at this;exact this,hstop _ c _ (Nat.le_refl _) (hIx _ _ _ hi (Xau W2 _ _ (by omega))) ((World.putObj_heap_other (by omega)).trans hk)⟩
end
end
end
section
section
open Go.RowKit
section
variable {P:Program} {ops:Array Oper} {Q:Exit->Act->World->Prop} {md:Region.Mode} {S:World->Prop}
def Vnh (P:Program) (md:Region.Mode) (ops:Array Oper) (Q:Exit->Act->World->Prop) (S:World->Prop) (z:Nat):Nat->Array Bool->Act->World->Prop
 | 0,listed,a,w=>Region.ready md ops listed=[]/\Q .normal a w
 | f+1,listed,a,w=>
  (Region.ready md ops listed=[]->Q .normal a w) ∧
  ∀ i∈Region.ready md ops listed,wpOp P ops Q i (fun a' w'=>(i=z\/S w')/\Vnh P md ops Q S z f (listed.setIfInBounds i true) a' w') a w
theorem Zmi {z:Nat}:∀ (f:Nat) (listed:Array Bool) (a:Act) (w:World),Vnh P md ops Q S z f listed a w->wpAny P md ops Q f listed a w
 | 0,_,_,_,h=>h
 | f+1,_,_,_,h=>⟨h.1,fun i hi=>wpOp_mono (fun a' w' h'=>Zmi f _ a' w' h'.2) (h.2 i hi)⟩
def ZVQ (md:Region.Mode) (ops:Array Oper) (listed:Array Bool):Prop:=
 ∀ j oj,ops[j]?=some oj->listed.getD j false=true->∀ e∈oj.after,Region.binds md e=true->listed.getD e.on false=true
theorem ZVQ.none (md:Region.Mode) (ops:Array Oper):ZVQ md ops (Array.replicate ops.size false):=fun j oj _ hl=>by
 simp only [Array.getD_eq_getD_getElem?,Array.getElem?_replicate] at hl
 split at hl <;> simp at hl
theorem ZVQ.set {listed:Array Bool} {i:Nat} (h:ZVQ md ops listed) (hi:i∈Region.ready md ops listed):ZVQ md ops (listed.setIfInBounds i true):=by
 obtain ⟨_,oi,hoi,hall⟩:=mem_ready.1 hi;intro j oj hj hl e he hb;by_cases hij:i=j
 ·subst hij;obtain rfl:oj=oi:=Option.some.inj (hj.symm.trans hoi);exact getD_set_true (hall e he hb)
 ·rw [getD_set_ne false hij] at hl;exact getD_set_true (h j oj hj hl e he hb)
def anc (md:Region.Mode) (ops:Array Oper):Nat->Nat->Nat->Bool
 | 0,_,_=>false
 | f+1,j,i=>match ops[j]? with
  | none=>false
  | some o=>o.after.any fun e=>Region.binds md e&&(e.on==i||anc md ops f e.on i)
theorem JZc {listed:Array Bool} (h:ZVQ md ops listed):∀ (f j i:Nat) (o:Oper),ops[j]?=some o->(∀ e∈o.after,Region.binds md e=true->listed.getD e.on false=true)->anc md ops f j i=true->listed.getD i false=true
 | 0,_,_,_,_,_,ha=>by cases ha
 | f+1,j,i,o,ho,hall,ha=>by
  simp only [anc,ho] at ha;obtain ⟨e,he,hb⟩:=Array.any_eq_true'.1 ha;simp only [Bool.and_eq_true,Bool.or_eq_true,beq_iff_eq] at hb;have hl:=hall e he hb.1;rcases hb.2 with h1 | h1
  ·rw [<-h1];exact hl
  ·cases hoe:ops[e.on]? with
   | none=>cases f <;> simp [anc,hoe] at h1
   | some oe=>exact JZc h f e.on i oe hoe (h e.on oe hoe hl) h1
def Xzl (md:Region.Mode) (ops:Array Oper) (z:Nat):Bool:=decide (ops.size<=z)||(List.range ops.size).all fun i=>i==z||anc md ops ops.size z i
theorem Q9R {listed:Array Bool} {z i:Nat} (hz:Xzl md ops z=true) (h:ZVQ md ops listed) (hr:z∈Region.ready md ops listed) (hi:i<ops.size) (hne:i≠z):listed.getD i false=true:=by
 obtain ⟨_,oz,hoz,hall⟩:=mem_ready.1 hr;simp only [Xzl,Bool.or_eq_true,decide_eq_true_eq,List.all_eq_true,List.mem_range,beq_iff_eq] at hz;rcases hz with hz | hz
 ·rw [Array.getElem?_eq_none hz] at hoz;cases hoz
 ·exact JZc h _ z i oz hoz hall ((hz i hi).resolve_left hne)
theorem X2k {listed:Array Bool} {i:Nat} (h1:listed.getD i true=false) (h2:listed.getD i false=true):False:=by
 rcases Nat.lt_or_ge i listed.size with h | h
 ·simp [h] at h1 h2;rw [h1] at h2;cases h2
 ·simp [Array.getElem?_eq_none h] at h1
theorem JDV {z i:Nat} {oi:Oper} {v:Value} (hi:ops[i]?=some oi) (hsel:∀ (j:Nat) (o:Oper) cs b,ops[j]?=some o->o.op≠.select cs b)
  (hQ:∀ c a w,Q (.panic c) (a.put oi.dst v) w->Q (.panic c) a w) (hz:Xzl md ops z=true):
  ∀ (f:Nat) (listed:Array Bool) (a:Act) (w:World),ZVQ md ops listed →
   (∀ j oj,ops[j]?=some oj->j≠i->listed.getD j true=false->(∀ e∈oj.after,Region.binds md e=true->e.on≠i)->oi.apart ops oj=true) →
   i∈Region.ready md ops listed->YieldsIf P ops S oi v a->S w →
   Vnh P md ops Q S z f (listed.setIfInBounds i true) (a.put oi.dst v) w->Vnh P md ops Q S z (f+1) listed a w:=by
 intro f
 induction f with
 | zero=>
  intro listed a w _ _ hr hy hS H;refine ⟨fun h=>(by rw [h] at hr;cases hr),fun j hj=>?_⟩;by_cases hji:j=i
  ·subst hji;exact hy.wpOp hi hS ⟨.inr hS,H⟩
  ·have:=ready_mono hj hji;rw [H.1] at this;cases this
 | succ f ih=>
  intro listed a w hcl hfree hr hy hS H;refine ⟨fun h=>(by rw [h] at hr;cases hr),fun j hj=>?_⟩;by_cases hji:j=i
  ·subst hji;exact hy.wpOp hi hS ⟨.inr hS,H⟩
  ·have h1:=H.2 j (ready_mono hj hji);obtain ⟨hjun,oj,hoj,hall⟩:=mem_ready.1 hj;have hun:=(mem_ready.1 hr).1;have hilt:i<ops.size:=(Array.getElem?_eq_some_iff.1 hi).1
   have hjz:j≠z:=fun e=>by
    subst e;exact X2k hun (Q9R hz hcl hj hilt (Ne.symm hji))
   have hnot:∀ e∈oj.after,Region.binds md e=true->e.on≠i:=fun e he hb heq=>X2k hun (heq ▸ hall e he hb);have h2:=wpOp_putIf hoj (hfree j oj hoj hji hjun hnot) (fun cs b=>hsel i oi cs b hi) (fun cs b=>hsel j oj cs b hoj) hQ hy h1
   have hfree':∀ k ok,ops[k]?=some ok->k≠i->(listed.setIfInBounds j true).getD k true=false →
     (∀ e∈ok.after,Region.binds md e=true->e.on≠i)->oi.apart ops ok=true:=fun k ok hk hki hun hno=>by
    refine hfree k ok hk hki ?_ hno;by_cases hjk:j=k
    ·subst hjk;exact hjun
    ·rw [getD_set_ne true hjk] at hun;exact hun
   refine wpOp_mono (fun a' w' h3=>?_) h2;obtain ⟨h3,h4,h5⟩:=h3;have hS':S w':=h4.resolve_left hjz;refine ⟨h4,ih (listed.setIfInBounds j true) a' w' (hcl.set hj) hfree' (ready_mono hr (Ne.symm hji)) h3 hS' ?_⟩;rw [Array.setIfInBounds_comm _ _ hji];exact h5
def QK6 (o:Oper):Bool:=
 match o.op with
 | .move _ | .assign _ | .pick .. | .build .. | .load .. | .nilCheck _ | .binOp .. | .unOp .. | .convert .. | .sliceToArrayPointer .. | .makeInterface .. | .makeFunc .. | .slice .. | .fieldAddr .. | .field .. | .indexAddr .. | .index .. | .lookup .. | .typeAssert .. | .extract ..=>true
 | .call { callee:=.builtin .len,.. } | .call { callee:=.builtin .cap,.. } | .call { callee:=.builtin .min,.. } | .call { callee:=.builtin .max,.. }=>true
 | _=>false
theorem JUT {s:Sem Value} {w w':World} {n:Next} (h:(do pure (Next.value (<-s)):Sem Next).run P w=.ok n w'):∃ v,n=.value v:=by
 rw [Sem.run_bind] at h;cases hs:s.run P w with
 | ok v w1=>rw [hs] at h;simp only [Result.andThen_ok,Sem.run_pure] at h;cases h;exact ⟨v,rfl⟩
 | halt x w1=>rw [hs] at h;simp only [Result.andThen] at h;cases h
theorem ZLh {w w':World} {n:Next} (h:(runtimePanic .nilDeref:Sem Next).run P w=.ok n w'):False:=by
 simp [runtimePanic,goPanic,go_sem] at h
theorem Y9U {o:Oper} {ρ:Operand->Value} {w w':World} {n:Next} (hq:QK6 o=true) (h:(execOp ρ o).run P w=.ok n w'):∃ v,n=.value v:=by
 obtain ⟨dst,op,type,pos,after,guard⟩:=o;cases op
 case move x=>simp only [execOp,Sem.run_pure] at h;cases h;exact ⟨_,rfl⟩
 case assign x=>simp only [execOp,Sem.run_pure] at h;cases h;exact ⟨_,rfl⟩
 case pick c a b=>exact JUT (s:=do pure (if <-asBool (ρ c) then ρ a else ρ b)) (by simpa [execOp,Sem.run_bind] using h)
 case nilCheck x=>
  simp only [execOp] at h
  split at h
  ·exact (ZLh h).elim
  ·exact (ZLh h).elim
  ·exact (ZLh h).elim
  ·split at h
   ·exact (ZLh h).elim
   ·rw [Sem.run_bind] at h;cases h1:(program:Sem Program).run P w with
    | halt x w1=>rw [h1] at h;simp only [Result.andThen] at h;cases h
    | ok p w1=>
     rw [h1] at h;simp only [Result.andThen_ok] at h;rw [Sem.run_bind] at h;cases h2:(nilAhead (p.types.size+Made.depth) _ _ _).run P w1 with
     | halt x w2=>rw [h2] at h;simp only [Result.andThen] at h;cases h
     | ok r w2=>
      rw [h2] at h;simp only [Result.andThen_ok] at h
      split at h
      ·rw [Sem.run_bind] at h;simp [unsupported,go_sem] at h
      ·simp only [Sem.run_pure] at h;cases h;exact ⟨_,rfl⟩
   ·simp only [Sem.run_pure] at h;cases h;exact ⟨_,rfl⟩
  ·simp only [Sem.run_pure] at h;cases h;exact ⟨_,rfl⟩
 case call c=>
  obtain ⟨callee,args,ts⟩:=c;cases callee
  case builtin b=>
   cases b <;> simp [QK6] at hq <;> exact JUT h
  all_goals simp [QK6] at hq
 all_goals first
  | (simp [QK6] at hq;done)
  | exact JUT h
def XZy (l:List Oper):List Nat->List Oper
 | []=>[]
 | k :: ks=>match l[k]? with
  | some o=>o :: XZy l ks
  | none=>XZy l ks
def Jrg (md:Region.Mode) (ops:Array Oper) (z:Nat):List (Bool × Nat)->Array Bool->Bool
 | [],listed=>(Region.ready md ops listed).isEmpty
 | (true,k) :: r,listed=>decide (Region.ready md ops listed=[k])&&(k !=z||r.isEmpty)&&Jrg md ops z r (listed.setIfInBounds k true)
 | (false,k) :: r,listed=>(Region.ready md ops listed).contains k&&Region.free md ops listed k&&((ops[k]?).any QK6)&&Jrg md ops z r (listed.setIfInBounds k true)
def XA5:List (List Nat × Nat)->List Nat->List (Bool × Nat)
 | [],fin=>fin.map (fun k=>(false,k))
 | (qs,k) :: r,fin=>qs.map (fun k=>(false,k))++(true,k) :: XA5 r fin
def ZxC (P:Program) (l:List Oper) (S:World->Prop) (z:Nat) (Q:Exit->Act->World->Prop):List (List Nat × Nat)->List Nat->Act->World->Prop
 | [],fin,a,w=>wpQuiet P l.toArray S (fun a'=>Q .normal a' w) (XZy l fin) a
 | (qs,k) :: r,fin,a,w=>wpQuiet P l.toArray S (fun a'=>wpList P l.toArray (Exit.then (fun a2 w2=>(k=z\/S w2)/\ZxC P l S z Q r fin a2 w2) Q) (XZy l [k]) a' w) (XZy l qs) a
theorem XJH {l:List Oper} {k:Nat} {o:Oper} (h:l.toArray[k]?=some o) (ks:List Nat):XZy l (k :: ks)=o :: XZy l ks:=by
 have h':l[k]?=some o:=by simpa using h
 simp [XZy,h']
end
section
variable {P:Program} {l:List Oper} {Q:Exit->Act->World->Prop} {md:Region.Mode} {S:World->Prop} {z:Nat}
theorem XIs {o:Oper} {a:Act} {v:Value} {ops:Array Oper} (hq:QK6 o=true) (hw:Region.wanted o (yielded ops a.tmps)=true) (h:∀ w,S w->o.quietAt P a S w v):YieldsIf P ops S o v a:=by
 refine .inl ⟨hw,fun w hS=>?_⟩;have h1:=h w hS;unfold Oper.quietAt at h1;cases hr:(execOp a.eval o).run P w with
 | halt x w'=>rw [hr] at h1;exact h1.elim
 | ok n w'=>
  obtain ⟨u,rfl⟩:=Y9U hq hr;rw [hr] at h1;obtain ⟨rfl,rfl⟩:=h1;rfl
theorem QNc (hsel:Region.noSelect l.toArray=true) (hQ:∀ c a b w,Q (.panic c) b w->Q (.panic c) a w) (hz:Xzl md l.toArray z=true) {w:World} (hS:S w) {K:Act->Prop} {R:List (Bool × Nat)} {f:Nat}
  (hK:∀ listed a,Jrg md l.toArray z R listed=true->ZVQ md l.toArray listed->K a->Vnh P md l.toArray Q S z f listed a w):
  ∀ (qs:List Nat) (listed:Array Bool) (a:Act),Jrg md l.toArray z (qs.map (fun k=>(false,k))++R) listed=true->ZVQ md l.toArray listed->wpQuiet P l.toArray S K (XZy l qs) a →
   Vnh P md l.toArray Q S z (qs.length+f) listed a w
 | [],listed,a,hB,hc,h=>by simpa using hK listed a hB hc h
 | k :: qs,listed,a,hB,hc,h=>by
  simp only [List.map_cons,List.cons_append,Jrg,Bool.and_eq_true] at hB;obtain ⟨⟨⟨hr,hf⟩,hq⟩,hB'⟩:=hB;cases ho:l.toArray[k]? with
  | none=>rw [ho] at hq;cases hq
  | some o=>
   rw [ho] at hq;have hq:QK6 o=true:=hq;have hr':k∈Region.ready md l.toArray listed:=by simpa using hr
   rw [XJH ho] at h;simp only [wpQuiet] at h
   have hy:∃ v,YieldsIf P l.toArray S o v a/\wpQuiet P l.toArray S K (XZy l qs) (a.put o.dst v):=by
    split at h
    ·rename_i hw;obtain ⟨v,h1,h2⟩:=h;exact ⟨v,XIs hq hw h1,h2⟩
    ·rename_i hw;exact ⟨undef,.inr ⟨by simpa using hw,rfl⟩,h⟩
   obtain ⟨v,hy,hK'⟩:=hy;have hlen:(k :: qs).length+f=(qs.length+f)+1:=by simp;omega
   rw [hlen];exact JDV ho (Region.noSelect_spec hsel) (fun c a w h=>hQ c a _ w h) hz _ listed a w hc (Region.free_spec ho hf) hr' hy hS (QNc hsel hQ hz hS hK qs _ _ hB' (hc.set hr') hK')
theorem X8H {ops:Array Oper} {k:Nat} {N K:Act->World->Prop} {a:Act} {w:World} {o:Oper} (ho:ops[k]?=some o) (hN:∀ a w,N a w->K a w)
  (h:wpList P ops (Exit.then N Q) [o] a w):wpOp P ops Q k K a w:=by
 unfold wpOp;simp only [ho];simp only [wpList,Exit.then] at h
 split
 ·rename_i hw;rw [if_pos hw] at h;rcases h with h | ⟨h1,h2⟩
  ·refine .inl ?_;unfold Oper.wp at *
   generalize (execOp a.eval o).run P w=r at *
   cases r with
   | ok n w'=>
    cases n <;> simp only [Oper.upon] at h ⊢
    case value u=>exact hN _ _ h
    case skip=>exact hN _ _ h
    case defer d=>exact hN _ _ h
    case enter f args=>
     refine Calls.mono h fun e w'' he=>?_;cases e with
     | returned u=>exact hN _ _ he
     | panicked c=>exact he
     | outgrown=>exact he
    case row row args=>exact Rows.mono h fun u w'' he=>hN _ _ he
   | halt x w'=>cases x <;> simp only [Oper.upon] at h ⊢;exact h
  ·exact .inr ⟨h1,h2⟩
 ·rename_i hw;rw [if_neg hw] at h;exact hN _ _ h
theorem YPT (hsel:Region.noSelect l.toArray=true) (hQ:∀ c a b w,Q (.panic c) b w->Q (.panic c) a w) (hz:Xzl md l.toArray z=true):
  ∀ (segs:List (List Nat × Nat)) (fin:List Nat) (listed:Array Bool) (a:Act) (w:World),Jrg md l.toArray z (XA5 segs fin) listed=true->ZVQ md l.toArray listed->(S w\/XA5 segs fin=[])->ZxC P l S z Q segs fin a w →
   Vnh P md l.toArray Q S z (XA5 segs fin).length listed a w
 | [],fin,listed,a,w,hB,hc,hS,h=>by
  rcases hS with hS | hS
  ·have:=QNc (R:=[]) (f:=0) (K:=fun a'=>Q .normal a' w) hsel hQ hz hS (fun listed a hB _ h=>⟨by simpa [Jrg] using hB,h⟩) fin listed a (by simpa [XA5] using hB) hc h;simpa [XA5] using this
  ·have hf:fin=[]:=by simpa [XA5] using hS
   subst hf;exact ⟨by simpa [XA5,Jrg] using hB,h⟩
 | (qs,k) :: r,fin,listed,a,w,hB,hc,hS,h=>by
  have hS:S w:=hS.resolve_right (by simp [XA5]);have hlen:(XA5 ((qs,k) :: r) fin).length=qs.length+((XA5 r fin).length+1):=by simp [XA5]
  rw [hlen];refine QNc hsel hQ hz hS (fun listed a hB hc h=>?_) qs listed a (by simpa [XA5] using hB) hc h;simp only [Jrg,Bool.and_eq_true,decide_eq_true_eq] at hB;obtain ⟨⟨hr,hkz⟩,hB'⟩:=hB;have hkr:k∈Region.ready md l.toArray listed:=by rw [hr];simp
  refine ⟨fun h0=>(by rw [hr] at h0;cases h0),fun i hi=>?_⟩;rw [hr] at hi;obtain rfl:i=k:=by simpa using hi
  obtain ⟨_,o,ho,_⟩:=mem_ready.1 hkr;rw [XJH ho] at h;refine X8H ho (fun a2 w2 h2=>⟨h2.1,YPT hsel hQ hz r fin _ a2 w2 hB' (hc.set hkr) ?_ h2.2⟩) h;rcases h2.1 with h3 | h3
  ·right;subst h3;simpa using hkz
  ·exact .inl h3
theorem ZgW {id:Nat} {a:Act} {w:World} (S:World->Prop) (z:Nat) (segs:List (List Nat × Nat)) (fin:List Nat) (hm:P.follows .mixedOrders=true)
  (hB:(Region.noSelect l.toArray&&Xzl .any l.toArray z&&Jrg .any l.toArray z (XA5 segs fin) (Array.replicate l.toArray.size false)&&(XA5 segs fin).length==l.toArray.size)=true) (hS:S w.drew)
  (h:ZxC P l S z (NoPanic Q) segs fin a w.drew):(Code.region id l.toArray true).wp P Q a w:=by
 simp only [Bool.and_eq_true,beq_iff_eq] at hB;obtain ⟨⟨⟨hsel,hz⟩,hB⟩,hlen⟩:=hB;refine wp_region_noPanic (wp_region_any hm ?_);have:=YPT (P:=P) (Q:=NoPanic Q) (md:=.any) hsel (fun c a b w h=>h) hz segs fin _ a w.drew hB (ZVQ.none .any l.toArray) (.inl hS) h;rw [hlen] at this;exact Zmi _ _ _ _ this
theorem XGW {qs:List Nat} {k:Nat} {r:List (List Nat × Nat)} {fin:List Nat} {a:Act} {w:World}
  (h:wpQuiet P l.toArray S (fun a'=>wpList P l.toArray (Exit.then (fun a2 w2=>(k=z\/S w2)/\ZxC P l S z Q r fin a2 w2) Q) (XZy l [k]) a' w) (XZy l qs) a):ZxC P l S z Q ((qs,k) :: r) fin a w:=h
theorem Z9U {fin:List Nat} {a:Act} {w:World} (h:wpQuiet P l.toArray S (fun a'=>Q .normal a' w) (XZy l fin) a):ZxC P l S z Q [] fin a w:=h
structure ZJV (S:World->Prop) where
 w:World
 h:S w
theorem ZJV.get {S T:World->Prop} (h:S=T) (p:ZJV S):T p.w:=h ▸ p.h
theorem ZJV.of {S:World->Prop} {w:World} (h:S w):∃ p:ZJV S,w=p.w:=⟨⟨w,h⟩,rfl⟩
theorem Vv2 {id:Nat} {a:Act} {w:World} (S:World->Prop) (z:Nat) (segs:List (List Nat × Nat)) (fin:List Nat) (hm:P.follows .mixedOrders=true)
  (hB:(Region.noSelect l.toArray&&Xzl .any l.toArray z&&Jrg .any l.toArray z (XA5 segs fin) (Array.replicate l.toArray.size false)&&(XA5 segs fin).length==l.toArray.size)=true) (hS:S w.drew)
  (h:ZxC P l (fun w'=>∃ p:ZJV S,w'=p.w) z (NoPanic Q) segs fin a w.drew):(Code.region id l.toArray true).wp P Q a w:=
 ZgW (fun w'=>∃ p:ZJV S,w'=p.w) z segs fin hm hB (ZJV.of hS) h
end
end
end
section
section
open Go.RowKit
section
variable {F:Fence} {n:Nat} {P:Program} {ops:Array Oper} {Q:Exit->Act->World->Prop} {md:Region.Mode} {S:World->Prop}
def Vxn (F:Fence) (n:Nat) (P:Program) (md:Region.Mode) (ops:Array Oper) (Q:Exit->Act->World->Prop) (S:World->Prop) (z:Nat):Nat->Array Bool->Act->World->Prop
 | 0,listed,a,w=>Region.ready md ops listed=[]/\Q .normal a w
 | f+1,listed,a,w=>
  (Region.ready md ops listed=[]->Q .normal a w) ∧
  ∀ i∈Region.ready md ops listed,wpOpIn F n P ops Q i (fun a' w'=>(i=z\/S w')/\Vxn F n P md ops Q S z f (listed.setIfInBounds i true) a' w') a w
theorem J9t {z:Nat}:∀ (f:Nat) (listed:Array Bool) (a:Act) (w:World),Vxn F n P md ops Q S z f listed a w->wpAnyIn F n P md ops Q f listed a w
 | 0,_,_,_,h=>h
 | f+1,_,_,_,h=>⟨h.1,fun i hi=>wpOpIn_mono (fun a' w' h'=>J9t f _ a' w' h'.2) (h.2 i hi)⟩
def XH2 (ops:Array Oper):Bool:=ops.all fun o=>match o.op with | .defer _=>false | _=>true
theorem VJL (h:XH2 ops=true) {j:Nat} {o:Oper} (ho:ops[j]?=some o) (c:Call):o.op≠.defer c:=by
 intro heq;have:=Array.all_eq_true_iff_forall_mem.1 h o (Array.mem_of_getElem? ho);simp [heq] at this
theorem XQe {i:Nat} {o:Oper} {v:Value} {a:Act} (hF:∀ f,F.fn f) (hi:ops[i]?=some o) (hd:∀ c,o.op≠.defer c) (hy:YieldsIf P ops S o v a)
  {K:Act->World->Prop} {w:World} (hS:S w) (h:K (a.put o.dst v) w):wpOpIn F n P ops Q i K a w:=by
 unfold wpOpIn;simp only [hi];rcases hy with ⟨hw,hv⟩ | ⟨hw,rfl⟩
 ·simp only [hw,if_true,Oper.wpIn,Oper.semAt_eq F.round a.eval o hd,hv w hS,Oper.uponIn];exact ⟨fun f _=>hF f,h⟩
 ·simp only [hw,Bool.false_eq_true,if_false];exact ⟨fun f _=>hF f,h⟩
theorem Y6B {j:Nat} {oi oj:Oper} {v:Value} (hF:∀ f,F.fn f) (hj:ops[j]?=some oj) (hap:oi.apart ops oj=true)
  (hsi:∀ cs b,oi.op≠.select cs b) (hsj:∀ cs b,oj.op≠.select cs b) (hd:∀ c,oj.op≠.defer c)
  (hQ:∀ c a w,Q (.panic c) (a.put oi.dst v) w->Q (.panic c) a w) {K:Act->World->Prop} {a:Act} {w:World}
  (hy:YieldsIf P ops S oi v a) (h:wpOpIn F n P ops Q j K (a.put oi.dst v) w):
  wpOpIn F n P ops Q j (fun a' w'=>YieldsIf P ops S oi v a'/\K (a'.put oi.dst v) w') a w:=by
 obtain ⟨h1,h2,h3⟩:=Oper.apart_spec hap
 have keep:∀ (a:Act),YieldsIf P ops S oi v a->∀ u,YieldsIf P ops S oi v (a.put oj.dst u):=fun a hy u=>
  hy.of_same (execOp_put oi hsi a oj.dst u h3) (wanted_put oi a oj.dst u h3)
 unfold wpOpIn at *
 simp only [hj] at *
 rw [wanted_put oj a oi.dst v h1] at h
 split
 ·rename_i hw;simp only [hw,if_true] at h;unfold Oper.wpIn at *
  refine ⟨fun f _=>hF f,?_⟩;have h:=h.2;rw [Oper.semAt_eq F.round _ oj hd,execOp_put oj hsj a oi.dst v h1] at h;rw [Oper.semAt_eq F.round _ oj hd];generalize (execOp a.eval oj).run P w=r at *
  cases r with
  | ok x w'=>
   cases x <;> simp only [Oper.uponIn] at h ⊢
   case value u=>exact ⟨keep a hy u,by rw [<-Act.put_comm a v u h2];exact h⟩
   case skip=>exact ⟨keep a hy _,by rw [<-Act.put_comm a v undef h2];exact h⟩
   case defer d=>
    have keepD:YieldsIf P ops S oi v { a with defers:=d :: a.defers }:=hy.of_same rfl rfl;refine ⟨keep _ keepD _,?_⟩;rw [<-Act.put_comm _ v undef h2,<-Act.put_defers];exact h
   case enter f args=>
    refine ⟨h.1,CallsIn.mono h.2 fun e w'' he=>?_⟩;cases e with
    | returned u=>exact ⟨keep a hy u,by rw [<-Act.put_comm a v u h2];exact he⟩
    | panicked c=>exact hQ _ _ _ he
    | outgrown=>exact he
   case row row args=>exact ⟨h.1,RowsIn.mono h.2 fun u w'' he=>⟨keep a hy u,by rw [<-Act.put_comm a v u h2];exact he⟩⟩
   case round l f tmps assign body=>
    refine ⟨h.1,RoundIn.mono h.2 fun e w'' he=>?_⟩;cases e with
    | returned u=>exact ⟨keep a hy u,by rw [<-Act.put_comm a v u h2];exact he⟩
    | panicked c=>exact hQ _ _ _ he
    | outgrown=>exact he
  | halt x w'=>
   cases x <;> simp only [Oper.uponIn] at h ⊢
   case panic u=>exact hQ _ _ _ h
 ·rename_i hw;simp only [hw] at h;exact ⟨fun f _=>hF f,keep a hy _,by rw [<-Act.put_comm a v undef h2];exact h.2⟩
theorem Jio {z i:Nat} {oi:Oper} {v:Value} (hF:∀ f,F.fn f) (hnd:XH2 ops=true) (hi:ops[i]?=some oi) (hsel:∀ (j:Nat) (o:Oper) cs b,ops[j]?=some o->o.op≠.select cs b)
  (hQ:∀ c a w,Q (.panic c) (a.put oi.dst v) w->Q (.panic c) a w) (hz:Xzl md ops z=true):
  ∀ (f:Nat) (listed:Array Bool) (a:Act) (w:World),ZVQ md ops listed →
   (∀ j oj,ops[j]?=some oj->j≠i->listed.getD j true=false->(∀ e∈oj.after,Region.binds md e=true->e.on≠i)->oi.apart ops oj=true) →
   i∈Region.ready md ops listed->YieldsIf P ops S oi v a->S w →
   Vxn F n P md ops Q S z f (listed.setIfInBounds i true) (a.put oi.dst v) w->Vxn F n P md ops Q S z (f+1) listed a w:=by
 intro f
 induction f with
 | zero=>
  intro listed a w _ _ hr hy hS H;refine ⟨fun h=>(by rw [h] at hr;cases hr),fun j hj=>?_⟩;by_cases hji:j=i
  ·subst hji;exact XQe hF hi (VJL hnd hi) hy hS ⟨.inr hS,H⟩
  ·have:=ready_mono hj hji;rw [H.1] at this;cases this
 | succ f ih=>
  intro listed a w hcl hfree hr hy hS H;refine ⟨fun h=>(by rw [h] at hr;cases hr),fun j hj=>?_⟩;by_cases hji:j=i
  ·subst hji;exact XQe hF hi (VJL hnd hi) hy hS ⟨.inr hS,H⟩
  ·have h1:=H.2 j (ready_mono hj hji);obtain ⟨hjun,oj,hoj,hall⟩:=mem_ready.1 hj;have hun:=(mem_ready.1 hr).1;have hilt:i<ops.size:=(Array.getElem?_eq_some_iff.1 hi).1
   have hjz:j≠z:=fun e=>by
    subst e;exact X2k hun (Q9R hz hcl hj hilt (Ne.symm hji))
   have hnot:∀ e∈oj.after,Region.binds md e=true->e.on≠i:=fun e he hb heq=>X2k hun (heq ▸ hall e he hb);have h2:=Y6B hF hoj (hfree j oj hoj hji hjun hnot) (fun cs b=>hsel i oi cs b hi) (fun cs b=>hsel j oj cs b hoj) (VJL hnd hoj) hQ hy h1
   have hfree':∀ k ok,ops[k]?=some ok->k≠i->(listed.setIfInBounds j true).getD k true=false →
     (∀ e∈ok.after,Region.binds md e=true->e.on≠i)->oi.apart ops ok=true:=fun k ok hk hki hun hno=>by
    refine hfree k ok hk hki ?_ hno;by_cases hjk:j=k
    ·subst hjk;exact hjun
    ·rw [getD_set_ne true hjk] at hun;exact hun
   refine wpOpIn_mono (fun a' w' h3=>?_) h2;obtain ⟨h3,h4,h5⟩:=h3;have hS':S w':=h4.resolve_left hjz;refine ⟨h4,ih (listed.setIfInBounds j true) a' w' (hcl.set hj) hfree' (ready_mono hr (Ne.symm hji)) h3 hS' ?_⟩;rw [Array.setIfInBounds_comm _ _ hji];exact h5
def JqC (F:Fence) (n:Nat) (P:Program) (l:List Oper) (S:World->Prop) (z:Nat) (Q:Exit->Act->World->Prop):List (List Nat × Nat)->List Nat->Act->World->Prop
 | [],fin,a,w=>wpQuiet P l.toArray S (fun a'=>Q .normal a' w) (XZy l fin) a
 | (qs,k) :: r,fin,a,w=>wpQuiet P l.toArray S (fun a'=>wpListIn F n P l.toArray (Exit.then (fun a2 w2=>(k=z\/S w2)/\JqC F n P l S z Q r fin a2 w2) Q) (XZy l [k]) a' w) (XZy l qs) a
end
section
variable {F:Fence} {n:Nat} {P:Program} {l:List Oper} {Q:Exit->Act->World->Prop} {md:Region.Mode} {S:World->Prop} {z:Nat}
theorem Z5Q (hF:∀ f,F.fn f) (hnd:XH2 l.toArray=true) (hsel:Region.noSelect l.toArray=true) (hQ:∀ c a b w,Q (.panic c) b w->Q (.panic c) a w) (hz:Xzl md l.toArray z=true) {w:World} (hS:S w) {K:Act->Prop} {R:List (Bool × Nat)} {f:Nat}
  (hK:∀ listed a,Jrg md l.toArray z R listed=true->ZVQ md l.toArray listed->K a->Vxn F n P md l.toArray Q S z f listed a w):
  ∀ (qs:List Nat) (listed:Array Bool) (a:Act),Jrg md l.toArray z (qs.map (fun k=>(false,k))++R) listed=true->ZVQ md l.toArray listed->wpQuiet P l.toArray S K (XZy l qs) a →
   Vxn F n P md l.toArray Q S z (qs.length+f) listed a w
 | [],listed,a,hB,hc,h=>by simpa using hK listed a hB hc h
 | k :: qs,listed,a,hB,hc,h=>by
  simp only [List.map_cons,List.cons_append,Jrg,Bool.and_eq_true] at hB;obtain ⟨⟨⟨hr,hf⟩,hq⟩,hB'⟩:=hB;cases ho:l.toArray[k]? with
  | none=>rw [ho] at hq;cases hq
  | some o=>
   rw [ho] at hq;have hq:QK6 o=true:=hq;have hr':k∈Region.ready md l.toArray listed:=by simpa using hr
   rw [XJH ho] at h;simp only [wpQuiet] at h
   have hy:∃ v,YieldsIf P l.toArray S o v a/\wpQuiet P l.toArray S K (XZy l qs) (a.put o.dst v):=by
    split at h
    ·rename_i hw;obtain ⟨v,h1,h2⟩:=h;exact ⟨v,XIs hq hw h1,h2⟩
    ·rename_i hw;exact ⟨undef,.inr ⟨by simpa using hw,rfl⟩,h⟩
   obtain ⟨v,hy,hK'⟩:=hy;have hlen:(k :: qs).length+f=(qs.length+f)+1:=by simp;omega
   rw [hlen];exact Jio hF hnd ho (Region.noSelect_spec hsel) (fun c a w h=>hQ c a _ w h) hz _ listed a w hc (Region.free_spec ho hf) hr' hy hS (Z5Q hF hnd hsel hQ hz hS hK qs _ _ hB' (hc.set hr') hK')
theorem ZRK {ops:Array Oper} {k:Nat} {N K:Act->World->Prop} {a:Act} {w:World} {o:Oper} (ho:ops[k]?=some o) (hN:∀ a w,N a w->K a w)
  (h:wpListIn F n P ops (Exit.then N Q) [o] a w):wpOpIn F n P ops Q k K a w:=by
 unfold wpOpIn;simp only [ho];simp only [wpListIn,Exit.then] at h
 split
 ·rename_i hw;rw [if_pos hw] at h;unfold Oper.wpIn at *
  refine ⟨h.1,?_⟩;have h:=h.2;generalize (o.semAt F.round a.eval).run P w=r at *
  cases r with
  | ok n w'=>
   cases n <;> simp only [Oper.uponIn] at h ⊢
   case value u=>exact hN _ _ h
   case skip=>exact hN _ _ h
   case defer d=>exact hN _ _ h
   case enter f args=>
    refine ⟨h.1,CallsIn.mono h.2 fun e w'' he=>?_⟩;cases e with
    | returned u=>exact hN _ _ he
    | panicked c=>exact he
    | outgrown=>exact he
   case row row args=>exact ⟨h.1,RowsIn.mono h.2 fun u w'' he=>hN _ _ he⟩
   case round l f tmps assign body=>
    refine ⟨h.1,RoundIn.mono h.2 fun e w'' he=>?_⟩;cases e with
    | returned u=>exact hN _ _ he
    | panicked c=>exact he
    | outgrown=>exact he
  | halt x w'=>cases x <;> simp only [Oper.uponIn] at h ⊢;exact h
 ·rename_i hw;rw [if_neg hw] at h;exact ⟨h.1,hN _ _ h.2⟩
theorem Qj2 (hF:∀ f,F.fn f) (hnd:XH2 l.toArray=true) (hsel:Region.noSelect l.toArray=true) (hQ:∀ c a b w,Q (.panic c) b w->Q (.panic c) a w) (hz:Xzl md l.toArray z=true):
  ∀ (segs:List (List Nat × Nat)) (fin:List Nat) (listed:Array Bool) (a:Act) (w:World),Jrg md l.toArray z (XA5 segs fin) listed=true->ZVQ md l.toArray listed->(S w\/XA5 segs fin=[])->JqC F n P l S z Q segs fin a w →
   Vxn F n P md l.toArray Q S z (XA5 segs fin).length listed a w
 | [],fin,listed,a,w,hB,hc,hS,h=>by
  rcases hS with hS | hS
  ·have:=Z5Q (n:=n) (R:=[]) (f:=0) (K:=fun a'=>Q .normal a' w) hF hnd hsel hQ hz hS (fun listed a hB _ h=>⟨by simpa [Jrg] using hB,h⟩) fin listed a (by simpa [XA5] using hB) hc h;simpa [XA5] using this
  ·have hf:fin=[]:=by simpa [XA5] using hS
   subst hf;exact ⟨by simpa [XA5,Jrg] using hB,h⟩
 | (qs,k) :: r,fin,listed,a,w,hB,hc,hS,h=>by
  have hS:S w:=hS.resolve_right (by simp [XA5]);have hlen:(XA5 ((qs,k) :: r) fin).length=qs.length+((XA5 r fin).length+1):=by simp [XA5]
  rw [hlen];refine Z5Q hF hnd hsel hQ hz hS (fun listed a hB hc h=>?_) qs listed a (by simpa [XA5] using hB) hc h;simp only [Jrg,Bool.and_eq_true,decide_eq_true_eq] at hB;obtain ⟨⟨hr,hkz⟩,hB'⟩:=hB;have hkr:k∈Region.ready md l.toArray listed:=by rw [hr];simp
  refine ⟨fun h0=>(by rw [hr] at h0;cases h0),fun i hi=>?_⟩;rw [hr] at hi;obtain rfl:i=k:=by simpa using hi
  obtain ⟨_,o,ho,_⟩:=mem_ready.1 hkr;rw [XJH ho] at h;refine ZRK ho (fun a2 w2 h2=>⟨h2.1,Qj2 hF hnd hsel hQ hz r fin _ a2 w2 hB' (hc.set hkr) ?_ h2.2⟩) h;rcases h2.1 with h3 | h3
  ·right;subst h3;simpa using hkz
  ·exact .inl h3
theorem V0Y {id:Nat} {a:Act} {w:World} (S:World->Prop) (z:Nat) (segs:List (List Nat × Nat)) (fin:List Nat) (hF:∀ f,F.fn f) (hm:P.follows .mixedOrders=true)
  (hB:(XH2 l.toArray&&Region.noSelect l.toArray&&Xzl .any l.toArray z&&Jrg .any l.toArray z (XA5 segs fin) (Array.replicate l.toArray.size false)&&(XA5 segs fin).length==l.toArray.size)=true) (hS:S w.drew)
  (h:JqC F n P l (fun w'=>∃ p:ZJV S,w'=p.w) z (NoPanic Q) segs fin a w.drew):(Code.region id l.toArray true).wpIn F n P Q a w:=by
 simp only [Bool.and_eq_true,beq_iff_eq] at hB;obtain ⟨⟨⟨⟨hnd,hsel⟩,hz⟩,hB⟩,hlen⟩:=hB;refine wpIn_mono (wpIn_region_any hm ?_) NoPanic.imp;have:=Qj2 (F:=F) (n:=n) (P:=P) (Q:=NoPanic Q) (md:=.any) hF hnd hsel (fun c a b w h=>h) hz segs fin _ a w.drew hB (ZVQ.none .any l.toArray) (.inl (ZJV.of hS)) h;rw [hlen] at this;exact J9t _ _ _ _ this
theorem QgQ {qs:List Nat} {k:Nat} {r:List (List Nat × Nat)} {fin:List Nat} {a:Act} {w:World}
  (h:wpQuiet P l.toArray S (fun a'=>wpListIn F n P l.toArray (Exit.then (fun a2 w2=>(k=z\/S w2)/\JqC F n P l S z Q r fin a2 w2) Q) (XZy l [k]) a' w) (XZy l qs) a):JqC F n P l S z Q ((qs,k) :: r) fin a w:=h
theorem X0q {fin:List Nat} {a:Act} {w:World} (h:wpQuiet P l.toArray S (fun a'=>Q .normal a' w) (XZy l fin) a):JqC F n P l S z Q [] fin a w:=h
theorem JBz (f:FuncId):Fence.wide.fn f:=trivial
end
end
end
section
section
open Go.RowKit
theorem ZIq {w w':World} {base E size:Nat} {v:Value} {n:Nat} {xs:List Value} (h:w.ownsRow base E size v n xs) (hb:∀ g,v.ownBlock=some g->w'.heap[g]?=w.heap[g]?):w'.ownsRow base E size v n xs:=by
 obtain ⟨h1,h2 | ⟨g,cap,cur,e1,e2,e3,e4,e5,e6,e7⟩⟩:=h
 ·exact ⟨h1,.inl h2⟩
 ·exact ⟨h1,.inr ⟨g,cap,cur,e1,e2,by rw [hb g (by rw [e1];rfl)];exact e3,e4,e5,e6,e7⟩⟩
theorem Vvr {w:World} {base E size:Nat} {v:Value} {n:Nat} {xs:List Value} (h:w.ownsRow base E size v n xs) {g:Nat} (hg:v.ownBlock=some g):base<=g/\g<w.heap.size:=by
 obtain ⟨h1,⟨rfl,_⟩ | ⟨g',cap,cur,e1,e2,e3,e4,e5,e6,e7⟩⟩:=h
 ·cases hg
 ·rw [e1] at hg;obtain rfl:g'=g:=Option.some.inj hg;refine ⟨e2,?_⟩;rcases Nat.lt_or_ge g' w.heap.size with h | h
  ·exact h
  ·rw [Array.getElem?_eq_none h] at e3;cases e3
theorem Zs2 {S:Nat->Prop} {w w':World} {base E size:Nat} {v:Value} {n:Nat} {xs:List Value} (h:w.ownsRow base E size v n xs) (t:XF4 S w w') (hS:∀ g,v.ownBlock=some g->¬ S g):w'.ownsRow base E size v n xs:=
 ZIq h (fun g hg=>t.block g (Vvr h hg).2 (hS g hg))
theorem Y9I {w w':World} {base E size:Nat} {v:Value} {n:Nat} {xs:List Value} (h:w.ownsRow base E size v n xs) (t:Gr w w'):w'.ownsRow base E size v n xs:=
 Zs2 h (t.touch (fun _=>False)) (fun _ _ h=>h)
theorem Vm9 (w:World) (base E size:Nat):w.ownsRow base E size (.slice none 0 0) 0 []:=⟨by simp,.inl ⟨rfl,rfl⟩⟩
theorem ZBn {w:World} {base E size:Nat} {g n c:Nat} {xs:List Value} (h:w.ownsRow base E size (.slice (some ⟨g,0,none⟩) n c) n xs) {j:Nat} {u:Value} (hj:xs[j]?=some u):
  w.cell? ⟨g,j,none⟩=some u:=by
 obtain ⟨h1,⟨h,_⟩ | ⟨g',cap,cur,e1,e2,e3,e4,e5,e6,e7⟩⟩:=h
 ·cases h
 ·simp only [Value.slice.injEq,Option.some.injEq,Addr.mk.injEq,and_true,true_and] at e1;obtain ⟨rfl,rfl⟩:=e1;unfold World.cell?;simp only [e3]
  have hlt:j<xs.length:=by
   rcases Nat.lt_or_ge j xs.length with h | h
   ·exact h
   ·rw [List.getElem?_eq_none h] at hj;cases hj
  have:cur[j]?=xs[j]?:=by rw [<-e7,List.getElem?_take,if_pos (by omega),Array.getElem?_toList]
  rw [if_neg (by simp),this,hj]
theorem QxS {w:World} {base E size:Nat} {g n c:Nat} {xs:List Value} (h:w.ownsRow base E size (.slice (some ⟨g,0,none⟩) n c) n xs) (j:Nat):w.frozen? ⟨g,j,none⟩=false:=by
 obtain ⟨h1,⟨h,_⟩ | ⟨g',cap,cur,e1,e2,e3,e4,e5,e6,e7⟩⟩:=h
 ·cases h
 ·simp only [Value.slice.injEq,Option.some.injEq,Addr.mk.injEq,and_true,true_and] at e1;obtain ⟨rfl,rfl⟩:=e1;unfold World.frozen?;simp only [e3];simp
theorem YTP {w:World} {base E size:Nat} {v:Value} {n:Nat} {xs:List Value} (h:w.ownsRow base E size v n xs) (hn:n≠0):∃ g c,v=.slice (some ⟨g,0,none⟩) n c/\base<=g/\n<=c/\c<=maxLen/\g<w.heap.size:=by
 have h':=h;obtain ⟨_,⟨_,h⟩ | ⟨g,c,cur,e1,e2,e3,e4,e5,_⟩⟩:=h
 ·exact absurd h hn
 ·exact ⟨g,c,e1,e2,e4,e5,(Vvr h' (by rw [e1];rfl)).2⟩
theorem VxQ {w w':World} {row:Option Nat} (h:w.grownBy w' row) (S:Nat->Prop) (hS:∀ k,row=some k->k<w.heap.size->S k):XF4 S w w':=
 ⟨h.os,h.tape,h.output,h.size,fun k hk hn=>h.block k hk (fun e=>hn (hS k e.symm hk))⟩
end
end
end
section
section
namespace Word
def XaE (n:Int):Int:=min (max n 0) 64
theorem JZS (n:Int):0<=XaE n/\XaE n<=64:=by unfold XaE;omega
def VOs (lo hi:Nat):Nat:=if hi<=lo then 0 else 2 ^ hi-2 ^ lo
theorem J4c (lo hi:Nat) (h:hi<=64):VOs lo hi<2 ^ 64:=by
 unfold VOs;split
 ·decide
 ·have:=Nat.pow_le_pow_right (n:=2) (by decide) h;have:=Nat.two_pow_pos lo;omega
theorem ZmB (lo hi:Nat) (h:lo<hi):VOs lo hi=2 ^ lo*(2 ^ (hi-lo)-1):=by
 unfold VOs;rw [if_neg (by omega),Nat.mul_sub,<-Nat.pow_add,Nat.mul_one,Nat.add_sub_cancel' (by omega)]
theorem Vvq (lo hi i:Nat):(VOs lo hi).testBit i=decide (lo<=i/\i<hi):=by
 by_cases h:lo<hi
 ·rw [ZmB lo hi h,Nat.testBit_two_pow_mul,Nat.testBit_two_pow_sub_one];by_cases h1:lo<=i <;> by_cases h2:i<hi <;> simp [h1,h2] <;> omega
 ·unfold VOs;rw [if_pos (by omega)];simp;omega
def XEJ (a b:Int):Nat:=VOs (XaE a).toNat (XaE b).toNat
theorem YPt (a b:Int):XEJ a b<2 ^ 64:=J4c _ _ (by have:=JZS b;omega)
theorem QvP (a b:Int) (i:Nat):(XEJ a b).testBit i=decide (a<=i/\(i:Int)<b/\i<64):=by
 unfold XEJ;rw [Vvq];apply decide_eq_decide.2;unfold XaE;omega
theorem ZbW (a b:Int) (h:XaE a<XaE b):
  (18446744073709551615/2 ^ (64-XaE b+XaE a).toNat*2 ^ (XaE a).toNat:Int)=(XEJ a b:Nat):=by
 have ha:=JZS a;have hb:=JZS b;unfold XEJ;generalize XaE a=A at *
 generalize XaE b=B at *
 obtain ⟨x,rfl⟩:∃ x:Nat,A=x:=⟨A.toNat,by omega⟩;obtain ⟨y,rfl⟩:∃ y:Nat,B=y:=⟨B.toNat,by omega⟩;have h1:(64-(y:Int)+x).toNat=64-(y-x):=by omega
 rw [h1,Int.toNat_natCast,Int.toNat_natCast,ZmB x y (by omega)]
 have hp:18446744073709551615/2 ^ (64-(y-x))=2 ^ (y-x)-1:=by
  have e1:(18446744073709551615:Nat)=2 ^ (64-(y-x))*(2 ^ (y-x)-1)+(2 ^ (64-(y-x))-1):=by
   rw [Nat.mul_sub,<-Nat.pow_add,Nat.mul_one,show 64-(y-x)+(y-x)=64 by omega];have:2 ^ (64-(y-x))<=2 ^ 64:=Nat.pow_le_pow_right (by decide) (by omega);have:=Nat.two_pow_pos (64-(y-x));have e:(2:Nat) ^ 64=18446744073709551616:=by decide
   omega
  rw [e1];have hpos:=Nat.two_pow_pos (64-(y-x));rw [Nat.mul_add_div hpos,Nat.div_eq_of_lt (by omega),Nat.add_zero]
 have:((18446744073709551615/2 ^ (64-(y-x))*2 ^ x:Nat):Int)=((2 ^ x*(2 ^ (y-x)-1):Nat):Int):=by rw [hp,Nat.mul_comm]
 rw [<-this];simp
def cnt (f:Nat->Bool) (n:Nat):Nat:=(List.range n).countP f
theorem YAO (f:Nat->Bool):cnt f 0=0:=rfl
theorem Z10 (f:Nat->Bool) (n:Nat):cnt f (n+1)=cnt f n+(f n).toNat:=by
 unfold cnt;rw [List.range_succ,List.countP_append];cases h:f n <;> simp [h]
theorem XmU {f g:Nat->Bool} {n:Nat} (h:∀ i,i<n->f i=g i):cnt f n=cnt g n:=by
 induction n with
 | zero=>rfl
 | succ n ih=>rw [Z10,Z10,ih (fun i hi=>h i (by omega)),h n (by omega)]
theorem Qzo (f:Nat->Bool) (m n:Nat):cnt f (m+n)=cnt f m+cnt (fun i=>f (m+i)) n:=by
 induction n with
 | zero=>simp [YAO]
 | succ n ih=>rw [<-Nat.add_assoc,Z10,Z10,ih];omega
theorem QMh (f:Nat->Bool) (n:Nat):cnt f n<=n:=by
 unfold cnt;have:=List.countP_le_length (p:=f) (l:=List.range n);simpa using this
theorem ZoC (f:Nat->Bool) {m n:Nat} (h:m<=n):cnt f m<=cnt f n:=by
 obtain ⟨k,rfl⟩:∃ k,n=m+k:=⟨n-m,by omega⟩;rw [Qzo];omega
theorem Z6o {f:Nat->Bool} {n:Nat} (h:∀ i,i<n->f i=false):cnt f n=0:=by
 induction n with
 | zero=>rfl
 | succ n ih=>rw [Z10,ih (fun i hi=>h i (by omega)),h n (by omega)];rfl
theorem VMy {f:Nat->Bool} {n:Nat} (h:cnt f n=0):∀ i,i<n->f i=false:=by
 induction n with
 | zero=>intro i hi;omega
 | succ n ih=>
  rw [Z10] at h;intro i hi;by_cases e:i=n
  ·subst e;cases hf:f i with
   | false=>rfl
   | true=>rw [hf] at h;simp at h
  ·exact ih (by omega) i (by omega)
theorem Jjp {f g:Nat->Bool} (h:∀ i,(f i&&g i)=false) (n:Nat):cnt (fun i=>f i||g i) n=cnt f n+cnt g n:=by
 induction n with
 | zero=>rfl
 | succ n ih=>
  rw [Z10,Z10,Z10,ih];have:=h n;cases hf:f n <;> cases hg:g n <;> simp_all <;> omega
def pc (x:Nat):Nat:=cnt x.testBit 64
theorem Qn1 (x:Nat):pc x<=64:=QMh _ _
def rep (m:Nat):Nat->Nat
 | 0=>0
 | k+1=>m+256*rep m k
theorem Yoe (b m y n:Nat) (hb:b<256) (hm:m<256):(b+256*y) &&& (m+256*n)=(b &&& m)+256*(y &&& n):=by
 apply Nat.eq_of_testBit_eq;intro i
 have e:∀ c z:Nat,c<256->(c+256*z).testBit i=if i<8 then c.testBit i else z.testBit (i-8):=by
  intro c z hc;have:=Nat.testBit_two_pow_mul_add z (i:=8) (b:=c) (by simpa using hc) i;rw [show c+256*z=2 ^ 8*z+c by omega];exact this
 have hlt:b &&& m<256:=Nat.lt_of_le_of_lt Nat.and_le_left hb;rw [Nat.testBit_and,e b y hb,e m n hm,e _ _ hlt]
 split <;> rw [Nat.testBit_and]
def s1 (k x:Nat):Nat:=((x/2) &&& rep 0x55 k)+(x &&& rep 0x55 k)
def s2 (k x:Nat):Nat:=((x/4) &&& rep 0x33 k)+(x &&& rep 0x33 k)
def s3 (k x:Nat):Nat:=(x/16+x) &&& rep 0x0f k
def b1 (b:Nat):Nat:=((b/2) &&& 0x55)+(b &&& 0x55)
def b2 (b:Nat):Nat:=((b/4) &&& 0x33)+(b &&& 0x33)
def b3 (b:Nat):Nat:=(b/16+b) &&& 0x0f
theorem JHM (k b y:Nat) (hb:b<256):s1 (k+1) (b+256*y)=b1 b+256*s1 k y:=by
 unfold s1 b1;rw [show rep 0x55 (k+1)=0x55+256*rep 0x55 k from rfl];have e:(b+256*y)/2=(b/2+128*(y%2))+256*(y/2):=by omega
 have h2:y%2<2:=by omega
 rw [e,Yoe _ _ _ _ (by omega) (by decide),Yoe _ _ _ _ hb (by decide)]
 have:((b/2+128*(y%2)) &&& 0x55)=(b/2) &&& 0x55:=by
  generalize y%2=c at h2;have hall:∀ b,b<256->∀ c,c<2->((b/2+128*c) &&& 0x55)=(b/2) &&& 0x55:=by decide +kernel
  exact hall b hb c h2
 rw [this];omega
theorem Zt5 (k b y:Nat) (hb:b<256):s2 (k+1) (b+256*y)=b2 b+256*s2 k y:=by
 unfold s2 b2;rw [show rep 0x33 (k+1)=0x33+256*rep 0x33 k from rfl];have e:(b+256*y)/4=(b/4+64*(y%4))+256*(y/4):=by omega
 have h2:y%4<4:=by omega
 rw [e,Yoe _ _ _ _ (by omega) (by decide),Yoe _ _ _ _ hb (by decide)]
 have:((b/4+64*(y%4)) &&& 0x33)=(b/4) &&& 0x33:=by
  generalize y%4=c at h2;have hall:∀ b,b<256->∀ c,c<4->((b/4+64*c) &&& 0x33)=(b/4) &&& 0x33:=by decide +kernel
  exact hall b hb c h2
 rw [this];omega
theorem ZYF (k b y:Nat) (hb:b<=0x44) (h16:b%16<=4) (hy:y%16<=4):s3 (k+1) (b+256*y)=b3 b+256*s3 k y:=by
 unfold s3 b3;rw [show rep 0x0f (k+1)=0x0f+256*rep 0x0f k from rfl];have e:(b+256*y)/16+(b+256*y)=(b/16+16*(y%16)+b)+256*(y/16+y):=by omega
 rw [e,Yoe _ _ _ _ (by omega) (by decide)]
 have:((b/16+16*(y%16)+b) &&& 0x0f)=(b/16+b) &&& 0x0f:=by
  generalize y%16=c at hy;have hall:∀ b,b<69->∀ c,c<5->((b/16+16*c+b) &&& 0x0f)=(b/16+b) &&& 0x0f:=by decide +kernel
  exact hall b (by omega) c (by omega)
 rw [this]
def t (k x:Nat):Nat:=s3 k (s2 k (s1 k x))
theorem QZP:∀ b,b<256->b1 b<256/\b2 (b1 b)<=0x44/\b2 (b1 b)%16<=4/\b3 (b2 (b1 b))=(List.range 8).countP b.testBit:=by decide +kernel
theorem ZTi (k y:Nat):s2 k (s1 k y)%16<=4:=by
 cases k with
 | zero=>simp [s2,rep]
 | succ k=>
  have e:y=y%256+256*(y/256):=by omega
  have hb:y%256<256:=by omega
  obtain ⟨h1,h2,h3,_⟩:=QZP _ hb;rw [e,JHM k _ _ hb,Zt5 k _ _ h1];omega
theorem VAv (k b y:Nat) (hb:b<256):t (k+1) (b+256*y)=(List.range 8).countP b.testBit+256*t k y:=by
 obtain ⟨h1,h2,h3,h4⟩:=QZP b hb;unfold t;rw [JHM k b y hb,Zt5 k _ _ h1,ZYF k _ _ h2 h3 (ZTi k y),h4]
def XZq:Nat->Nat->Nat
 | 0,_=>0
 | k+1,x=>(List.range 8).countP (x%256).testBit+256*XZq k (x/256)
theorem YO3 (k:Nat):∀ x,t k x=XZq k x:=by
 induction k with
 | zero=>intro x;simp [t,s3,rep,XZq]
 | succ k ih=>
  intro x;have e:x=x%256+256*(x/256):=by omega
  rw [e,VAv k _ _ (by omega),ih,XZq];congr 3 <;> omega
theorem Jjs (k:Nat):∀ x,cnt x.testBit (8*(k+1))=(List.range 8).countP (x%256).testBit+cnt (x/256).testBit (8*k):=by
 intro x;rw [show 8*(k+1)=8+8*k by omega,Qzo];congr 1
 ·apply XmU;intro i hi;have:=Nat.testBit_mod_two_pow x 8 i;simp only [show (2:Nat) ^ 8=256 from rfl] at this;rw [this];simp [hi]
 ·apply XmU;intro i _;have:=Nat.testBit_div_two_pow (x:=x) (n:=8) (i:=i);simp only [show (2:Nat) ^ 8=256 from rfl] at this;rw [this,Nat.add_comm]
theorem Y4E (b:Nat):(List.range 8).countP b.testBit<=8:=by
 have:=List.countP_le_length (p:=b.testBit) (l:=List.range 8);simpa using this
theorem Yjs (lo q m:Nat) (h:lo<m):(lo+m*q)/m=q:=by
 rw [Nat.add_mul_div_left _ _ (by omega),Nat.div_eq_of_lt h];omega
theorem Yfd (y c0 c1 c2 c3 c4 c5 c6 c7:Nat)
  (hy:y=c0+256*(c1+256*(c2+256*(c3+256*(c4+256*(c5+256*(c6+256*(c7+256*0))))))))
  (a0:c0<=8) (a1:c1<=8) (a2:c2<=8) (a3:c3<=8) (a4:c4<=8) (a5:c5<=8) (a6:c6<=8) (a7:c7<=8):
  let z1:=(y+y/256)%18446744073709551616
  let z2:=(z1+z1/65536)%18446744073709551616
  let z3:=(z2+z2/4294967296)%18446744073709551616
  z3%128=c0+(c1+(c2+(c3+(c4+(c5+(c6+(c7+0))))))):=by
 have e1:y/256=c1+256*(c2+256*(c3+256*(c4+256*(c5+256*(c6+256*c7))))):=by
  rw [hy,Yjs _ _ _ (by omega)];omega
 have m1:(y+y/256)%18446744073709551616=(c0+c1)+256*(c1+c2)+65536*((c2+c3)+256*(c3+c4)+65536*((c4+c5)+256*(c5+c6)+65536*((c6+c7)+256*c7))):=by
  rw [e1,Nat.mod_eq_of_lt (by omega)];omega
 simp only [m1];clear m1 e1 hy y
 have d2:((c0+c1)+256*(c1+c2)+65536*((c2+c3)+256*(c3+c4)+65536*((c4+c5)+256*(c5+c6)+65536*((c6+c7)+256*c7))))/65536=(c2+c3)+256*(c3+c4)+65536*((c4+c5)+256*(c5+c6)+65536*((c6+c7)+256*c7)):=
  Yjs _ _ _ (by omega)
 rw [d2]
 have m2:((c0+c1)+256*(c1+c2)+65536*((c2+c3)+256*(c3+c4)+65536*((c4+c5)+256*(c5+c6)+65536*((c6+c7)+256*c7)))+((c2+c3)+256*(c3+c4)+65536*((c4+c5)+256*(c5+c6)+65536*((c6+c7)+256*c7))))%18446744073709551616 =
   ((c0+c1+c2+c3)+256*(c1+c2+c3+c4)+65536*(c2+c3+c4+c5)+16777216*(c3+c4+c5+c6))+4294967296*((c4+c5+c6+c7)+256*(c5+c6+c7)+65536*(c6+c7)+16777216*c7):=by
  rw [Nat.mod_eq_of_lt (by omega)];omega
 rw [m2];clear m2 d2;rw [Yjs _ _ 4294967296 (by omega)];have hm:∀ X:Nat,X<18446744073709551616->X%18446744073709551616%128=X%128:=fun X h=>by rw [Nat.mod_eq_of_lt h]
 rw [hm _ (by omega)];omega
theorem YtC (y:Nat) (x:Nat) (hy:y=t 8 x):
  let z1:=(y+y/256)%18446744073709551616
  let z2:=(z1+z1/65536)%18446744073709551616
  let z3:=(z2+z2/4294967296)%18446744073709551616
  z3%128=pc x:=by
 rw [YO3] at hy;have hp:pc x=cnt x.testBit (8*8):=rfl;rw [hp];rw [Jjs 7,Jjs 6,Jjs 5,Jjs 4,Jjs 3,Jjs 2,Jjs 1,Jjs 0];rw [XZq,XZq,XZq,XZq,XZq,XZq,XZq,XZq,XZq] at hy;simp only [Nat.mul_zero,YAO] at *
 have h:=Y4E;have a0:=h (x%256);have a1:=h (x/256%256);have a2:=h (x/256/256%256);have a3:=h (x/256/256/256%256);have a4:=h (x/256/256/256/256%256);have a5:=h (x/256/256/256/256/256%256);have a6:=h (x/256/256/256/256/256/256%256);have a7:=h (x/256/256/256/256/256/256/256%256);revert hy a0 a1 a2 a3 a4 a5 a6 a7;generalize (List.range 8).countP (x%256).testBit=c0;generalize (List.range 8).countP (x/256%256).testBit=c1;generalize (List.range 8).countP (x/256/256%256).testBit=c2;generalize (List.range 8).countP (x/256/256/256%256).testBit=c3;generalize (List.range 8).countP (x/256/256/256/256%256).testBit=c4;generalize (List.range 8).countP (x/256/256/256/256/256%256).testBit=c5;generalize (List.range 8).countP (x/256/256/256/256/256/256%256).testBit=c6;generalize (List.range 8).countP (x/256/256/256/256/256/256/256%256).testBit=c7;intro hy a0 a1 a2 a3 a4 a5 a6 a7;exact Yfd y c0 c1 c2 c3 c4 c5 c6 c7 hy a0 a1 a2 a3 a4 a5 a6 a7
end Word
end
section
namespace Word
def first (f:Nat->Bool):Nat->Nat
 | 0=>0
 | n+1=>if first f n<n then first f n else if f n then n else n+1
theorem Xgi (f:Nat->Bool) (n:Nat):first f n<=n:=by
 induction n with
 | zero=>simp [first]
 | succ n ih=>unfold first;split <;> (try split) <;> omega
theorem ZGm (f:Nat->Bool) (n:Nat):∀ i,i<first f n->f i=false:=by
 induction n with
 | zero=>intro i hi;simp [first] at hi
 | succ n ih=>
  intro i hi;unfold first at hi
  have hl:=Xgi f n
  split at hi
  ·exact ih i hi
  ·have e:first f n=n:=by omega
   split at hi
   ·exact ih i (by omega)
   ·rename_i hf;by_cases h:i<n
    ·exact ih i (by omega)
    ·obtain rfl:i=n:=by omega
     simpa using hf
theorem JyT (f:Nat->Bool) (n:Nat) (h:first f n<n):f (first f n)=true:=by
 induction n with
 | zero=>omega
 | succ n ih=>
  unfold first at h ⊢
  split
  ·rename_i hl;exact ih hl
  ·split
   ·assumption
   ·rename_i h1 h2;rw [if_neg h1,if_neg h2] at h;omega
theorem XFN {f:Nat->Bool} {n k:Nat} (hk:k<=n) (hn:∀ i,i<k->f i=false) (ha:k<n->f k=true):first f n=k:=by
 have h1:=Xgi f n;have h2:=ZGm f n;have h3:=JyT f n;rcases Nat.lt_trichotomy (first f n) k with h | h | h
 ·have:=hn _ h;rw [h3 (by omega)] at this;cases this
 ·exact h
 ·have:=h2 _ h;rw [ha (by omega)] at this;cases this
theorem Jyj {f g:Nat->Bool} {n:Nat} (h:∀ i,i<n->f i=g i):first f n=first g n:=
 XFN (Xgi g n) (fun i hi=>by rw [h i (by have:=Xgi g n;omega)];exact ZGm g n i hi) (fun hl=>by rw [h _ hl];exact JyT g n hl)
def last (f:Nat->Bool):Nat->Int
 | 0=>-1
 | n+1=>if f n then n else last f n
theorem QAO (f:Nat->Bool) (n:Nat):-1<=last f n/\last f n<n:=by
 induction n with
 | zero=>simp [last]
 | succ n ih=>unfold last;split <;> omega
theorem X6C (f:Nat->Bool) (n:Nat):∀ i:Nat,last f n<i->i<n->f i=false:=by
 induction n with
 | zero=>intro i _ hi;omega
 | succ n ih=>
  intro i h hi;unfold last at h
  split at h
  ·omega
  ·rename_i hf;by_cases e:i<n
   ·exact ih i h e
   ·obtain rfl:i=n:=by omega
    simpa using hf
theorem Y1s (f:Nat->Bool) (n:Nat) (h:0<=last f n):f (last f n).toNat=true:=by
 induction n with
 | zero=>simp [last] at h
 | succ n ih=>
  unfold last at h ⊢
  split
  ·simpa using ‹f n=true›
  ·rename_i hf;rw [if_neg hf] at h;exact ih h
theorem VPe {f:Nat->Bool} {n:Nat} {k:Int} (hk:-1<=k) (hkn:k<n) (hn:∀ i:Nat,k<i->i<n->f i=false) (ha:0<=k->f k.toNat=true):last f n=k:=by
 have h1:=QAO f n;have h2:=X6C f n;have h3:=Y1s f n;by_cases e:last f n=k
 ·exact e
 ·by_cases h:last f n<k
  ·have:=h2 k.toNat (by omega) (by omega);rw [ha (by omega)] at this;cases this
  ·have:=hn (last f n).toNat (by omega) (by omega);rw [h3 (by omega)] at this;cases this
theorem V3e {f g:Nat->Bool} {n:Nat} (h:∀ i,i<n->f i=g i):last f n=last g n:=by
 induction n with
 | zero=>rfl
 | succ n ih=>unfold last;rw [h n (by omega),ih (fun i hi=>h i (by omega))]
def tz (x:Nat):Nat:=first x.testBit 64
theorem YYy:tz 0=64:=by decide +kernel
theorem ZtG (x:Nat):tz x<=64:=Xgi _ _
theorem Yif {x:Nat} (hx:x<2 ^ 64) (h:∀ i,i<64->x.testBit i=false):x=0:=by
 apply Nat.eq_of_testBit_eq;intro i;by_cases hi:i<64
 ·rw [h i hi];simp
 ·rw [Nat.testBit_lt_two_pow (Nat.lt_of_lt_of_le hx (Nat.pow_le_pow_right (by decide) (by omega)))];simp
theorem XIB {x:Nat} (hx:x<2 ^ 64) (h0:x≠0):tz x<64:=by
 have:=ZtG x;rcases Nat.lt_or_ge (tz x) 64 with h | h
 ·exact h
 ·exact absurd (Yif hx (fun i hi=>ZGm _ 64 i (by unfold tz at h;omega))) h0
theorem V3V (a b k:Nat):(2 ^ k*a) &&& (2 ^ k*b)=2 ^ k*(a &&& b):=by
 apply Nat.eq_of_testBit_eq;intro i;rw [Nat.testBit_and,Nat.testBit_two_pow_mul,Nat.testBit_two_pow_mul,Nat.testBit_two_pow_mul,Nat.testBit_and];by_cases h:k<=i <;> simp [h]
theorem JoZ (k n m:Nat) (h:2 ^ k*(2*m+1)<2 ^ n):(2 ^ k*(2*m+1)) &&& (2 ^ n-2 ^ k*(2*m+1))=2 ^ k:=by
 have hp:=Nat.two_pow_pos k
 have hkn:k<n:=by
  rcases Nat.lt_or_ge k n with h1 | h1
  ·exact h1
  ·have:=Nat.pow_le_pow_right (n:=2) (by decide) h1;have:2 ^ k*1<=2 ^ k*(2*m+1):=Nat.mul_le_mul_left _ (by omega);omega
 have hm:2*m+1<2 ^ (n-k):=by
  have e:2 ^ n=2 ^ k*2 ^ (n-k):=by rw [<-Nat.pow_add];congr 1;omega
  rw [e] at h;exact Nat.lt_of_mul_lt_mul_left h
 have e1:2 ^ n-2 ^ k*(2*m+1)=2 ^ k*(2 ^ (n-k)-(2*m+1)):=by
  rw [Nat.mul_sub,<-Nat.pow_add];congr 2;omega
 rw [e1,V3V];have e2:2 ^ (n-k)=2*2 ^ (n-k-1):=by rw [<-Nat.pow_succ'];congr 1;omega
 have e3:2 ^ (n-k)-(2*m+1)=2*(2 ^ (n-k-1)-(m+1))+1:=by omega
 rw [e3]
 have:(2*m+1) &&& (2*(2 ^ (n-k-1)-(m+1))+1)=1:=by
  apply Nat.eq_of_testBit_eq;intro i;cases i with
  | zero=>simp [Nat.testBit_zero]
  | succ i=>
   rw [Nat.testBit_and,Nat.testBit_succ,Nat.testBit_succ,Nat.testBit_succ];rw [show (2*m+1)/2=m by omega,show (2*(2 ^ (n-k-1)-(m+1))+1)/2=2 ^ (n-k-1)-(m+1) by omega];rw [Nat.testBit_two_pow_sub_succ (by omega)];cases h:m.testBit i <;> simp
 rw [this,Nat.mul_one]
theorem Yv1 {x:Nat} (hx:x<2 ^ 64) (h0:x≠0):∃ m,x=2 ^ tz x*(2*m+1):=by
 have hl:=XIB hx h0;have h1:=ZGm x.testBit 64;have h2:=JyT x.testBit 64 (by unfold tz at hl;exact hl);change ∀ i,i<tz x->_ at h1;change x.testBit (tz x)=true at h2;generalize tz x=k at *
 have hd:x%2 ^ k=0:=by
  apply Nat.eq_of_testBit_eq;intro i;rw [Nat.testBit_mod_two_pow];by_cases hi:i<k
  ·simp [h1 i hi]
  ·simp [hi]
 have hq:(x/2 ^ k)%2=1:=by
  rw [Nat.testBit_eq_decide_div_mod_eq] at h2;simpa using h2
 refine ⟨x/2 ^ k/2,?_⟩;have:=Nat.div_add_mod x (2 ^ k);rw [hd,Nat.add_zero] at this;have e:2*(x/2 ^ k/2)+1=x/2 ^ k:=by omega
 rw [e];exact this.symm
theorem Vtj {x:Nat} (hx:x<2 ^ 64) (h0:x≠0):x &&& (2 ^ 64-x)=2 ^ tz x:=by
 obtain ⟨m,hm⟩:=Yv1 hx h0;have:=JoZ (tz x) 64 m (by rw [<-hm];exact hx)
 rwa [<-hm] at this
def tab:List Nat:=[0,1,56,2,57,49,28,3,61,58,42,50,38,29,17,4,62,47,59,36,45,43,51,22,53,39,33,30,24,18,12,5,63,55,48,27,60,41,37,16,46,35,44,21,52,32,23,11,54,26,40,15,34,20,31,10,25,14,19,9,13,8,7,6]
theorem YYA:∀ k,k<64->2 ^ k*285870213051353865%18446744073709551616/288230376151711744<64/\tab.getD (2 ^ k*285870213051353865%18446744073709551616/288230376151711744) 0=k:=by decide +kernel
def XaI (x:Nat):Nat:=(x &&& (18446744073709551616-x))*285870213051353865%18446744073709551616/288230376151711744
theorem VnA {x:Nat} (hx:x<18446744073709551616) (h0:x≠0):XaI x<64/\tab.getD (XaI x) 0=tz x:=by
 unfold XaI;have:=Vtj (show x<2 ^ 64 from hx) h0;rw [show (2:Nat) ^ 64=18446744073709551616 from rfl] at this;rw [this];exact YYA _ (XIB hx h0)
def len (x:Nat):Int:=last x.testBit 64+1
theorem Y6K (x:Nat):0<=len x/\len x<=64:=by unfold len;have:=QAO x.testBit 64;omega
theorem Jm1 {x j:Nat} (hx:x<2 ^ 64) (h:2 ^ j<=x):len x=j+len (x/2 ^ j):=by
 have hq:1<=x/2 ^ j:=(Nat.le_div_iff_mul_le (Nat.two_pow_pos j)).2 (by omega);have hq2:x/2 ^ j<2 ^ 64:=Nat.lt_of_le_of_lt (Nat.div_le_self _ _) hx
 have tb:∀ i,(x/2 ^ j).testBit i=x.testBit (i+j):=fun i=>by
  rw [Nat.testBit_div_two_pow]
 have b:=QAO (x/2 ^ j).testBit 64;have nn:=X6C (x/2 ^ j).testBit 64;have at_:=Y1s (x/2 ^ j).testBit 64
 have h0:0<=last (x/2 ^ j).testBit 64:=by
  rcases Int.lt_or_le (last (x/2 ^ j).testBit 64) 0 with h | h
  ·have:=Yif hq2 (fun i hi=>nn i (by omega) hi);omega
  ·exact h
 have hat:=at_ h0;unfold len;generalize last (x/2 ^ j).testBit 64=L at *
 have high:∀ i,64<=i->x.testBit i=false:=fun i hi=>Nat.testBit_lt_two_pow (Nat.lt_of_lt_of_le hx (Nat.pow_le_pow_right (by decide) hi));rw [tb] at hat
 have hlt:L.toNat+j<64:=by
  rcases Nat.lt_or_ge (L.toNat+j) 64 with h | h
  ·exact h
  ·rw [high _ h] at hat;cases hat
 have:last x.testBit 64=L+j:=by
  refine VPe (by omega) (by omega) (fun i hi hi2=>?_) (fun _=>?_)
  ·have:=nn (i-j) (by omega) (by omega);rw [tb] at this
   rwa [show i-j+j=i by omega] at this
  ·rwa [show (L+(j:Int)).toNat=L.toNat+j by omega]
 rw [this];omega
def Xjs (f:Nat->Bool) (n k:Nat):Nat:=first (fun i=>f i&&cnt f i==k) n
theorem Yj6 {f:Nat->Bool} {i j:Nat} (hij:i<j) (hi:f i=true):cnt f i<cnt f j:=by
 have:=ZoC f (show i+1<=j from hij);rw [Z10,hi] at this;simp at this;omega
theorem ZiF {f:Nat->Bool} {n k i:Nat} (hi:i<n) (hf:f i=true) (hc:cnt f i=k):Xjs f n k=i:=by
 refine XFN (by omega) (fun j hj=>?_) (fun _=>by simp [hf,hc]);cases hfj:f j with
 | false=>simp
 | true=>have:=Yj6 hj hfj;simp;omega
theorem YoZ {f:Nat->Bool} {n k:Nat} (h:k<cnt f n):∃ i,i<n/\f i=true/\cnt f i=k:=by
 induction n with
 | zero=>simp [YAO] at h
 | succ n ih=>
  by_cases h2:k<cnt f n
  ·obtain ⟨i,a,b,c⟩:=ih h2;exact ⟨i,by omega,b,c⟩
  ·rw [Z10] at h;cases hf:f n with
   | false=>rw [hf] at h;simp at h;omega
   | true=>rw [hf] at h;simp at h;exact ⟨n,by omega,hf,by omega⟩
theorem X9n {f:Nat->Bool} {n k:Nat} (h:k<cnt f n):Xjs f n k<n/\f (Xjs f n k)=true/\cnt f (Xjs f n k)=k:=by
 obtain ⟨i,a,b,c⟩:=YoZ h;rw [ZiF a b c];exact ⟨a,b,c⟩
theorem Vit {f:Nat->Bool} {n k:Nat} (h:cnt f n<=k):Xjs f n k=n:=by
 refine XFN (by omega) (fun j hj=>?_) (fun h=>by omega);cases hfj:f j with
 | false=>simp
 | true=>have:=Yj6 hj hfj;simp;omega
theorem Qfr:XEJ 0 64=18446744073709551615:=by decide +kernel
theorem XiT (x:Nat) (hx:x<18446744073709551616):x &&& XEJ 0 64=x:=by
 rw [Qfr];exact Nat.and_two_pow_sub_one_of_lt_two_pow (n:=64) hx
end Word
end
section
namespace Word
def ZqC (f:Nat->Bool):Nat->Nat
 | 0=>0
 | n+1=>ZqC f n+(f n).toNat*2 ^ n
theorem Z1q (f:Nat->Bool) (n:Nat):ZqC f n<2 ^ n:=by
 induction n with
 | zero=>simp [ZqC]
 | succ n ih=>unfold ZqC;rw [Nat.pow_succ];cases f n <;> simp <;> omega
theorem Jaa (f:Nat->Bool) (n i:Nat):(ZqC f n).testBit i=(decide (i<n)&&f i):=by
 induction n with
 | zero=>simp [ZqC]
 | succ n ih=>
  unfold ZqC;have hl:=Z1q f n;have e:ZqC f n+(f n).toNat*2 ^ n=2 ^ n*(f n).toNat+ZqC f n:=by rw [Nat.mul_comm];omega
  rw [e,Nat.testBit_two_pow_mul_add _ hl]
  split
  ·rename_i h;rw [ih];simp [h];omega
  ·rename_i h;by_cases hi:i=n
   ·subst hi;cases h2:f i <;> simp
   ·have h3:¬ i<n+1:=by omega
    simp only [h3,decide_false,Bool.false_and];have h4:i-n≠0:=by omega
    cases f n
    ·simp
    ·simp only [Bool.toNat_true];rw [Nat.testBit_lt_two_pow];exact Nat.one_lt_two_pow h4
def nw (l:List Bool):Nat:=(l.length+63)/64
def Zgh (l:List Bool) (i:Nat):Nat:=ZqC (fun j=>l.getD (64*i+j) false) 64
theorem Vhd (l:List Bool) (i:Nat):Zgh l i<18446744073709551616:=Z1q _ 64
theorem QgF (l:List Bool) (i j:Nat):(Zgh l i).testBit j=(decide (j<64)&&l.getD (64*i+j) false):=Jaa _ _ _
theorem Zfx {x y:Nat} (hx:x<18446744073709551616) (hy:y<18446744073709551616) (h:∀ j,j<64->x.testBit j=y.testBit j):x=y:=by
 apply Nat.eq_of_testBit_eq;intro i;by_cases hi:i<64
 ·exact h i hi
 ·have hp:2 ^ 64<=2 ^ i:=Nat.pow_le_pow_right (by decide) (by omega);rw [Nat.testBit_lt_two_pow (Nat.lt_of_lt_of_le hx hp),Nat.testBit_lt_two_pow (Nat.lt_of_lt_of_le hy hp)]
theorem VEf {l:List Bool} {i x:Nat} (hx:x<18446744073709551616) (h:∀ j,j<64->x.testBit j=l.getD (64*i+j) false):x=Zgh l i:=
 Zfx hx (Vhd l i) (fun j hj=>by rw [h j hj,QgF];simp [hj])
theorem Vjn {l m:List Bool} {i:Nat} (h:∀ j,j<64->l.getD (64*i+j) false=m.getD (64*i+j) false):Zgh l i=Zgh m i:=
 VEf (Vhd l i) (fun j hj=>by rw [QgF,<-h j hj];simp [hj])
def Xxg (a b:Nat):Nat:=a &&& (18446744073709551615-b%18446744073709551616)
theorem YVd (a b:Nat) (ha:a<18446744073709551616):Xxg a b<18446744073709551616:=Nat.lt_of_le_of_lt Nat.and_le_left ha
theorem QSR (a b j:Nat) (hj:j<64):(Xxg a b).testBit j=(a.testBit j&&!b.testBit j):=by
 unfold Xxg;rw [Nat.testBit_and];have h:b%18446744073709551616<2 ^ 64:=Nat.mod_lt _ (by decide);have:=Nat.testBit_two_pow_sub_succ h j;rw [show 2 ^ 64-(b%18446744073709551616+1)=18446744073709551615-b%18446744073709551616 by omega] at this;rw [this,show (18446744073709551616:Nat)=2 ^ 64 from rfl,Nat.testBit_mod_two_pow];simp [hj]
theorem VOD {a b:Nat} (ha:a<18446744073709551616) (hb:b<18446744073709551616):a ||| b<18446744073709551616:=Nat.or_lt_two_pow (n:=64) ha hb
theorem XRU (l:List Bool) (k i:Nat) (x:Bool) (hk:k<l.length):(l.set k x).getD i false=if i=k then x else l.getD i false:=by
 simp only [List.getD_eq_getElem?_getD,List.getElem?_set];by_cases h:k=i
 ·subst h;simp [hk]
 ·rw [if_neg h,if_neg (by omega)]
theorem YiX (k j:Nat):(2 ^ k).testBit j=decide (k=j):=by
 rw [Nat.testBit_two_pow]
theorem Qvn (k:Nat):2 ^ (k%64)<18446744073709551616:=Nat.pow_lt_pow_right (by decide) (show k%64<64 by omega)
theorem JLE (l:List Bool) (k:Nat) (hk:k<l.length):Zgh (l.set k true) (k/64)=Zgh l (k/64) ||| 2 ^ (k%64):=by
 refine (VEf (VOD (Vhd _ _) (Qvn k)) (fun j hj=>?_)).symm;rw [Nat.testBit_or,QgF,YiX,XRU l k _ _ hk];by_cases h:64*(k/64)+j=k
 ·rw [if_pos h,decide_eq_true (show k%64=j by omega)];simp
 ·rw [if_neg h,decide_eq_false (show ¬ k%64=j by omega)];simp [hj]
theorem Ywt (l:List Bool) (k i:Nat) (x:Bool) (hk:k<l.length) (hi:i≠k/64):Zgh (l.set k x) i=Zgh l i:=
 Vjn (fun j hj=>by rw [XRU l k _ _ hk,if_neg (by omega)])
theorem Qmp (l:List Bool) (k:Nat) (x:Bool):nw (l.set k x)=nw l:=by unfold nw;simp
def at_ (l:List Bool) (i:Nat):Bool:=l.getD i false
theorem XaX {l:List Bool} {i:Nat} (h:at_ l i=true):i<l.length:=by
 unfold at_ at h;rcases Nat.lt_or_ge i l.length with h1 | h1
 ·exact h1
 ·rw [List.getD_eq_getElem?_getD,List.getElem?_eq_none h1] at h;simp at h
def Xkh (l:List Bool) (a b:Int) (i:Nat):Bool:=at_ l i&&decide (a<=i/\(i:Int)<b)
def QnT (l:List Bool) (a b:Int):Nat:=cnt (Xkh l a b) l.length
def XCN (l:List Bool) (a b:Int) (x:Bool):List Bool:=l.mapIdx fun i y=>if a<=i/\(i:Int)<b then x else y
theorem J8M (l:List Bool) (a b:Int) (x:Bool):(XCN l a b x).length=l.length:=by unfold XCN;simp
theorem QTG (l:List Bool) (a b:Int) (x:Bool) (i:Nat) (hi:i<l.length):at_ (XCN l a b x) i=if a<=i/\(i:Int)<b then x else at_ l i:=by
 unfold at_ XCN;simp [List.getD_eq_getElem?_getD,hi]
theorem JWT {l:List Bool} {i:Nat} (h:l.length<=i):at_ l i=false:=by
 unfold at_;rw [List.getD_eq_getElem?_getD,List.getElem?_eq_none h];rfl
theorem J2X {l m:List Bool} (hn:l.length=m.length) (h:∀ i,i<l.length->at_ l i=at_ m i):l=m:=by
 apply List.ext_getElem hn;intro i h1 h2;have:=h i h1;unfold at_ at this;simpa [List.getD_eq_getElem?_getD,h1,h2] using this
def ZJd (l:List Bool) (a b:Int) (x:Bool):Nat:=cnt (fun i=>decide (a<=i/\(i:Int)<b)&&(at_ l i !=x)) l.length
def ZnF (l:List Bool) (a:Int):Nat:=first (fun i=>at_ l i&&decide (a<=i)) l.length
def JJU (l:List Bool) (b:Int):Int:=last (fun i=>at_ l i&&decide ((i:Int)<b)) l.length
def X5b (l:List Bool) (k:Nat):Nat:=Xjs (at_ l) l.length k
end Word
end
section
namespace Word
theorem VFw (l:List Bool) (k j:Nat) (hj:j<64):(Zgh l k).testBit j=at_ l (64*k+j):=by
 rw [QgF];simp [hj,at_]
theorem ZEC (l:List Bool) (k fr j:Nat) (hj:j<64):(Zgh l k &&& XEJ fr 64).testBit j=(at_ l (64*k+j)&&decide (fr<=j)):=by
 rw [Nat.testBit_and,QvP,VFw l k j hj];congr 1;apply decide_eq_decide.2;omega
theorem V3W (l:List Bool) (k j:Nat) (b:Int) (hj:j<64):(Zgh l k &&& XEJ 0 b).testBit j=(at_ l (64*k+j)&&decide ((j:Int)<b)):=by
 rw [Nat.testBit_and,QvP,VFw l k j hj];congr 1;apply decide_eq_decide.2;omega
def JXz (l:List Bool) (a m:Nat):Prop:=∀ i,a<=i->i<m->at_ l i=false
theorem X3L (l:List Bool) (a:Nat):JXz l a (64*(a/64)+a%64):=fun i h1 h2=>by omega
theorem YeH {l:List Bool} {a k fr:Nat} (h:JXz l a (64*k+fr)) (ha:a<=64*k+fr) (ht:tz (Zgh l k &&& XEJ fr 64)<64):
  ZnF l a=64*k+tz (Zgh l k &&& XEJ fr 64)/\ZnF l a<l.length:=by
 have h1:=JyT _ 64 ht;have h2:=ZGm (Zgh l k &&& XEJ fr 64).testBit 64;change (Zgh l k &&& XEJ fr 64).testBit (tz _)=true at h1;change ∀ i,i<tz _->_ at h2;generalize tz (Zgh l k &&& XEJ fr 64)=t at *
 rw [ZEC l k fr t ht] at h1;simp only [Bool.and_eq_true,decide_eq_true_eq] at h1;have hl:=XaX h1.1
 have e:ZnF l a=64*k+t:=by
  refine XFN (by omega) (fun i hi=>?_) (fun _=>by simp [h1.1];omega);by_cases hai:a<=i
  ·by_cases hf:i<64*k+fr
   ·rw [h i hai hf];simp
   ·have:=h2 (i-64*k) (by omega);rw [ZEC l k fr _ (by omega),show 64*k+(i-64*k)=i by omega,decide_eq_true (show fr<=i-64*k by omega),Bool.and_true] at this;rw [this];simp
  ·have:¬ ((a:Int)<=i):=by omega
   simp [this]
 exact ⟨e,by omega⟩
theorem ZMX {l:List Bool} {a k fr:Nat} (h:JXz l a (64*k+fr)) (hfr:fr<=64) (ht:¬ tz (Zgh l k &&& XEJ fr 64)<64):JXz l a (64*(k+1)+0):=by
 intro i h1 h2;by_cases hf:i<64*k+fr
 ·exact h i h1 hf
 ·have hn:=ZGm (Zgh l k &&& XEJ fr 64).testBit 64 (i-64*k) (by have:=ZtG (Zgh l k &&& XEJ fr 64);unfold tz at *;omega);rw [ZEC l k fr _ (by omega),show 64*k+(i-64*k)=i by omega,decide_eq_true (show fr<=i-64*k by omega),Bool.and_true] at hn;exact hn
theorem JRu {l:List Bool} {a k fr:Nat} (h:JXz l a (64*k+fr)) (hk:nw l<=k):ZnF l a=l.length:=by
 refine XFN (by omega) (fun i hi=>?_) (fun h=>by omega);by_cases hai:a<=i
 ·rw [h i hai (by unfold nw at hk;omega)];simp
 ·have:¬ ((a:Int)<=i):=by omega
  simp [this]
theorem ZMZ (l:List Bool) (a:Int):ZnF l a=ZnF l (a.toNat:Int):=
 Jyj (fun i _=>by congr 1;apply decide_eq_decide.2;omega)
theorem Z5e {l:List Bool} {a:Int} (h:(l.length:Int)<=a):ZnF l a=l.length:=
 XFN (by omega) (fun i hi=>by rw [decide_eq_false (show ¬ a<=(i:Int) by omega)];simp) (fun h=>by omega)
def JHm (n k:Nat):Int:=if k<n then k else 0
theorem Jpj {n k:Nat} (h:k<n):JHm n k=k:=if_pos h
theorem JEJ {n k:Nat} (h:¬ k<n):JHm n k=0:=if_neg h
def ZoR (l:List Bool) (b m:Int):Prop:=∀ i:Nat,m<=i->(i:Int)<b->at_ l i=false
theorem Vu4 {l:List Bool} {b:Int} {k:Nat} (h:ZoR l b (64*k+64)) (ht:0<=len (Zgh l k &&& XEJ 0 (b-64*k))-1):
  JJU l b=64*k+(len (Zgh l k &&& XEJ 0 (b-64*k))-1):=by
 unfold len at *
 have h0:=QAO (Zgh l k &&& XEJ 0 (b-64*k)).testBit 64;have h1:=Y1s (Zgh l k &&& XEJ 0 (b-64*k)).testBit 64 (by omega);have h2:=X6C (Zgh l k &&& XEJ 0 (b-64*k)).testBit 64;generalize last (Zgh l k &&& XEJ 0 (b-64*k)).testBit 64=t at *
 obtain ⟨t,rfl⟩:∃ n:Nat,t=n:=⟨t.toNat,by omega⟩;rw [Int.toNat_natCast] at h1;rw [V3W l k t _ (by omega)] at h1;simp only [Bool.and_eq_true,decide_eq_true_eq] at h1;have hl:=XaX h1.1
 have e:JJU l b=((64*k+t:Nat):Int):=by
  refine VPe (by omega) (by omega) (fun i hi hi2=>?_) (fun _=>?_)
  ·by_cases hib:(i:Int)<b
   ·by_cases hf:64*k+64<=i
    ·rw [h i (by omega) hib];simp
    ·have:=h2 (i-64*k) (by omega) (by omega);rw [V3W l k _ _ (by omega),show 64*k+(i-64*k)=i by omega,decide_eq_true (show ((i-64*k:Nat):Int)<b-64*k by omega),Bool.and_true] at this;rw [this];simp
   ·simp [hib]
  ·rw [Int.toNat_natCast,h1.1];simp;omega
 rw [e];omega
theorem JlV {l:List Bool} {b:Int} {k:Nat} (h:ZoR l b (64*k+64)) (ht:¬ 0<=len (Zgh l k &&& XEJ 0 (b-64*k))-1):ZoR l b (64*k):=by
 intro i h1 h2;by_cases hf:64*k+64<=i
 ·exact h i (by omega) h2
 ·unfold len at ht;have:=X6C (Zgh l k &&& XEJ 0 (b-64*k)).testBit 64 (i-64*k) (by omega) (by omega);rw [V3W l k _ _ (by omega),show 64*k+(i-64*k)=i by omega,decide_eq_true (show ((i-64*k:Nat):Int)<b-64*k by omega),Bool.and_true] at this;exact this
theorem JS8 {l:List Bool} {b m:Int} (h:ZoR l b m) (hm:m<=0):JJU l b = -1:=by
 refine VPe (by omega) (by omega) (fun i _ _=>?_) (fun h=>by omega);by_cases hib:(i:Int)<b
 ·rw [h i (by omega) hib];simp
 ·simp [hib]
theorem Q9t {l:List Bool} {b:Int} (h:b<=0):JJU l b = -1:=JS8 (m:=0) (fun i _ h2=>by omega) (by omega)
theorem ZAa (l:List Bool) (b:Int):JJU l b=JJU l (min b l.length):=
 V3e (fun i hi=>by congr 1;apply decide_eq_decide.2;omega)
def Jvh (k:Int):Int:=if 0<=k then k else 0
end Word
end
section
namespace Word
theorem ZC7 {f:Nat->Bool} {m n:Nat} (h:m<=n) (hf:∀ i,m<=i->i<n->f i=false):cnt f n=cnt f m:=by
 obtain ⟨k,rfl⟩:∃ k,n=m+k:=⟨n-m,by omega⟩;rw [Qzo,Z6o (f:=fun i=>f (m+i)) (fun i hi=>hf _ (by omega) (by omega))];omega
def ZIf (g:Nat->Bool) (a b:Int) (n:Nat):Nat:=cnt (fun i=>decide (a<=i/\(i:Int)<b)&&g i) n
theorem JR4 (g:Nat->Bool) {a b:Int} (n:Nat) (h:b<=a):ZIf g a b n=0:=
 Z6o (fun i _=>by rw [decide_eq_false (by omega)];rfl)
theorem ZVB {g h:Nat->Bool} {a b a' b':Int} {n:Nat} (H:∀ i:Nat,i<n->(decide (a<=i/\(i:Int)<b)&&g i)=(decide (a'<=i/\(i:Int)<b')&&h i)):ZIf g a b n=ZIf h a' b' n:=XmU H
theorem X8G {g:Nat->Bool} {lo hi:Int} {k n y:Nat} (hk:(64*k:Int)<hi) (hn:hi<=n)
  (hy:∀ j,j<64->y.testBit j=(decide (lo<=(64*k+j:Nat)/\((64*k+j:Nat):Int)<hi)&&g (64*k+j))):
  ZIf g lo (min hi (64*k)) n+pc y=ZIf g lo (min hi (64*(k+1:Nat))) n:=by
 unfold ZIf;obtain ⟨r,rfl⟩:∃ r,n=64*k+r:=⟨n-64*k,by omega⟩;rw [Qzo,Qzo _ (64*k) r]
 have e1:cnt (fun i=>decide (lo<=(i:Nat)/\((i:Nat):Int)<min hi (64*k))&&g i) (64*k)=cnt (fun i=>decide (lo<=(i:Nat)/\((i:Nat):Int)<min hi (64*(k+1:Nat)))&&g i) (64*k):=
  XmU (fun i hi'=>by congr 1;apply decide_eq_decide.2;omega)
 have e2:cnt (fun i=>decide (lo<=(64*k+i:Nat)/\((64*k+i:Nat):Int)<min hi (64*k))&&g (64*k+i)) r=0:=
  Z6o (fun i _=>by rw [decide_eq_false (by omega)];rfl)
 have e3:cnt (fun i=>decide (lo<=(64*k+i:Nat)/\((64*k+i:Nat):Int)<min hi (64*(k+1:Nat)))&&g (64*k+i)) r=pc y:=by
  unfold pc;rcases Nat.lt_or_ge r 64 with h | h
  ·rw [ZC7 (f:=y.testBit) (show r<=64 by omega) (fun i h1 h2=>by rw [hy i h2,decide_eq_false (by omega)];rfl)];exact XmU (fun i hi'=>by rw [hy i (by omega)];congr 1;apply decide_eq_decide.2;omega)
  ·rw [ZC7 h (fun i h1 h2=>by rw [decide_eq_false (by omega)];rfl)];exact XmU (fun i hi'=>by rw [hy i (by omega)];congr 1;apply decide_eq_decide.2;omega)
 rw [e1,e2,e3];omega
theorem Y7X (l:List Bool) (a b:Int):QnT l a b=ZIf (at_ l) a b l.length:=XmU (fun i _=>by unfold Xkh;rw [Bool.and_comm])
theorem YbQ (l:List Bool) (a b:Int) (x:Bool):ZJd l a b x=ZIf (fun i=>at_ l i !=x) a b l.length:=rfl
theorem QvE {l:List Bool} {a b:Int} (x:Bool) (h:b<=a):XCN l a b x=l:=
 J2X (J8M ..) (fun i hi=>by rw [QTG _ _ _ _ _ (by rwa [J8M] at hi),if_neg (by omega)])
theorem XD7 (l:List Bool) (f t:Int) (x:Bool):XCN l (max f 0) (min t l.length) x=XCN l f t x:=
 J2X (by rw [J8M,J8M]) (fun i hi=>by
  rw [J8M] at hi;rw [QTG _ _ _ _ _ hi,QTG _ _ _ _ _ hi];by_cases h:f<=i/\(i:Int)<t
  ·rw [if_pos h,if_pos (by omega)]
  ·rw [if_neg h,if_neg (by omega)])
theorem Xl3 (g:Nat->Bool) (f t:Int) (n:Nat):ZIf g (max f 0) (min t n) n=ZIf g f t n:=
 ZVB (fun i hi=>by congr 1;apply decide_eq_decide.2;omega)
theorem XuD (lo hi:Int) (k j:Nat) (hj:j<64):(XEJ (lo-64*k) (hi-64*k)).testBit j=decide (lo<=(64*k+j:Nat)/\((64*k+j:Nat):Int)<hi):=by
 rw [QvP];apply decide_eq_decide.2;omega
theorem Jbc (l:List Bool) (lo hi:Int) (x:Bool) (i:Nat) (hh:hi<=l.length):at_ (XCN l lo hi x) i=if lo<=i/\(i:Int)<hi then x else at_ l i:=by
 by_cases h:i<l.length
 ·exact QTG _ _ _ _ _ h
 ·rw [JWT (by rw [J8M];omega),if_neg (by omega),JWT (by omega)]
theorem QG7 {l:List Bool} {lo hi:Int} {k:Nat} (hk:(64*k:Int)<hi) (hh:hi<=l.length) (x:Bool) (j:Nat) (hj:j<64):(Zgh (XCN l lo (min hi (64*k)) x) k).testBit j=at_ l (64*k+j):=by
 rw [VFw _ _ _ hj,Jbc _ _ _ _ _ (by omega),if_neg (by omega)]
theorem XEq {l:List Bool} {lo hi:Int} {k:Nat} (hh:hi<=l.length) (x:Bool) (j:Nat) (hj:j<64):(Zgh (XCN l lo (min hi (64*(k+1:Nat))) x) k).testBit j=if lo<=(64*k+j:Nat)/\((64*k+j:Nat):Int)<hi then x else at_ l (64*k+j):=by
 rw [VFw _ _ _ hj,Jbc _ _ _ _ _ (by omega)];by_cases h:lo<=(64*k+j:Nat)/\((64*k+j:Nat):Int)<hi
 ·rw [if_pos h,if_pos (by omega)]
 ·rw [if_neg h,if_neg (by omega)]
theorem VeX {l:List Bool} {lo hi:Int} {k:Nat} (hk:(64*k:Int)<hi) (hh:hi<=l.length):Zgh (XCN l lo (min hi (64*k)) true) k ||| XEJ (lo-64*k) (hi-64*k)=Zgh (XCN l lo (min hi (64*(k+1:Nat))) true) k:=by
 refine Zfx (VOD (Vhd _ _) (YPt _ _)) (Vhd _ _) (fun j hj=>?_);rw [Nat.testBit_or,QG7 hk hh true j hj,XuD lo hi k j hj,XEq hh true j hj];by_cases h:lo<=(64*k+j:Nat)/\((64*k+j:Nat):Int)<hi
 ·rw [if_pos h,decide_eq_true h];simp
 ·rw [if_neg h,decide_eq_false h];simp
theorem QlU {l:List Bool} {lo hi:Int} {k:Nat} (hk:(64*k:Int)<hi) (hh:hi<=l.length):Xxg (Zgh (XCN l lo (min hi (64*k)) false) k) (XEJ (lo-64*k) (hi-64*k))=Zgh (XCN l lo (min hi (64*(k+1:Nat))) false) k:=by
 refine Zfx (YVd _ _ (Vhd _ _)) (Vhd _ _) (fun j hj=>?_);rw [QSR _ _ _ hj,QG7 hk hh false j hj,XuD lo hi k j hj,XEq hh false j hj];by_cases h:lo<=(64*k+j:Nat)/\((64*k+j:Nat):Int)<hi
 ·rw [if_pos h,decide_eq_true h];simp
 ·rw [if_neg h,decide_eq_false h];simp
theorem X3E {l:List Bool} {lo hi:Int} {k:Nat} (hk:(64*k:Int)<hi) (hh:hi<=l.length) (x:Bool) {i:Nat} (hi':i≠k):Zgh (XCN l lo (min hi (64*k)) x) i=Zgh (XCN l lo (min hi (64*(k+1:Nat))) x) i:=by
 refine Zfx (Vhd _ _) (Vhd _ _) (fun j hj=>?_);rw [VFw _ _ _ hj,VFw _ _ _ hj,Jbc _ _ _ _ _ (by omega),Jbc _ _ _ _ _ (by omega)];by_cases h:lo<=(64*i+j:Nat)/\((64*i+j:Nat):Int)<min hi (64*k)
 ·rw [if_pos h,if_pos (by omega)]
 ·rw [if_neg h,if_neg (by omega)]
theorem XOq {l:List Bool} {lo hi:Int} {k:Nat} (hk:(64*k:Int)<hi) (hh:hi<=l.length):ZJd l lo (min hi (64*k)) true+pc (Xxg (XEJ (lo-64*k) (hi-64*k)) (Zgh (XCN l lo (min hi (64*k)) true) k))=ZJd l lo (min hi (64*(k+1:Nat))) true:=
 X8G hk hh (fun j hj=>by rw [QSR _ _ _ hj,XuD lo hi k j hj,QG7 hk hh true j hj];cases at_ l (64*k+j) <;> simp)
theorem YDx {l:List Bool} {lo hi:Int} {k:Nat} (hk:(64*k:Int)<hi) (hh:hi<=l.length):ZJd l lo (min hi (64*k)) false+pc (XEJ (lo-64*k) (hi-64*k) &&& Zgh (XCN l lo (min hi (64*k)) false) k)=ZJd l lo (min hi (64*(k+1:Nat))) false:=
 X8G hk hh (fun j hj=>by rw [Nat.testBit_and,XuD lo hi k j hj,QG7 hk hh false j hj];cases at_ l (64*k+j) <;> simp)
theorem YpL {l:List Bool} {lo hi:Int} {k:Nat} (hk:(64*k:Int)<hi) (hh:hi<=l.length):ZIf (at_ l) lo (min hi (64*k)) l.length+pc (XEJ (lo-64*k) (hi-64*k) &&& Zgh l k)=ZIf (at_ l) lo (min hi (64*(k+1:Nat))) l.length:=
 X8G hk hh (fun j hj=>by rw [Nat.testBit_and,XuD lo hi k j hj,VFw l k j hj])
theorem Qa9 (g:Nat->Bool) (a b:Int) (n:Nat):ZIf g a b n<=n:=QMh _ _
theorem XP8 (l:List Bool) (a b:Int) (x:Bool):nw (XCN l a b x)=nw l:=by unfold nw;rw [J8M]
end Word
end
end
section
section
section
open Go.RowKit Word
theorem ZzN {k:IntKind} {a b:Int} (h:a=b):Ending.returned (.int k a)=.returned (.int k b):=by rw [h]
theorem Zbf {a b:Bool} (h:a=b):Ending.returned (.bool a)=.returned (.bool b):=by rw [h]
theorem Jp7 (a b:Nat) (ha:a<18446744073709551616) (hb:b<18446744073709551616):bits .and .u64 (a:Int) (b:Int)=((a &&& b:Nat):Int):=bits_and_u64_nat a b ha hb
theorem XN7 (x:Nat) (hx:x<18446744073709551616):IntKind.u64.wrap (x:Int)=(x:Int):=IntWalk.u64_in _ (by omega)
theorem Xgm (x:Nat):IntKind.u64.wrap (x:Int)=((x%18446744073709551616:Nat):Int):=by rw [IntKind.wrap_u64];omega
set_option maxHeartbeats 400000 in
theorem YLE (n:Int) (w:World):
  Calls Tryz.prog 295 #[.int .i64 n] w fun e w'=>e=.returned (.int .i64 (XaE n))/\w=w':=by
 go_enter Tryz.func295,Tryz.ntmps295;go_wp2
 all_goals (go_ret;exact ⟨ZzN (by unfold XaE;omega),rfl⟩)
set_option maxHeartbeats 400000 in
theorem JOY (a b:Int) (w:World):
  Calls Tryz.prog 274 #[.int .i64 a,.int .i64 b] w fun e w'=>e=.returned (.int .u64 (XEJ a b:Nat))/\w=w':=by
 have ha:=JZS a;have hb:=JZS b;go_enter Tryz.func274,Tryz.ntmps274;go_wp2_with (go_at_call 295;refine (YLE _ _).mono ?_;rintro e w' ⟨rfl,rfl⟩)
 ·go_ret;have h:XaE b<=XaE a:=by assumption
  refine ⟨ZzN ?_,rfl⟩;have:XEJ a b=0:=by unfold XEJ VOs;rw [if_pos (by omega)]
  rw [this];rfl
 ·go_ret;have h:XaE a<XaE b:=by assumption
  refine ⟨ZzN ?_,rfl⟩;rw [ZbW a b h];exact XN7 _ (YPt a b)
theorem X6o (x:Nat):s1 8 x<18446744073709551616:=by
 unfold s1;have h1:(x/2) &&& rep 85 8<=rep 85 8:=Nat.and_le_right;have h2:x &&& rep 85 8<=rep 85 8:=Nat.and_le_right;have e:rep 85 8=6148914691236517205:=by decide +kernel
 omega
theorem ZAG (x:Nat):s2 8 x<18446744073709551616/2:=by
 unfold s2;have h1:(x/4) &&& rep 51 8<=rep 51 8:=Nat.and_le_right;have h2:x &&& rep 51 8<=rep 51 8:=Nat.and_le_right;have e:rep 51 8=3689348814741910323:=by decide +kernel
 omega
theorem Xhk (x:Nat):s3 8 x<18446744073709551616/2:=by
 unfold s3;have h2:(x/16+x) &&& rep 15 8<=rep 15 8:=Nat.and_le_right;have e:rep 15 8=1085102592571150095:=by decide +kernel
 omega
theorem oc1 (x:Nat) (hx:x<18446744073709551616):
  IntKind.u64.wrap (bits .and .u64 ((x:Int)/2) 6148914691236517205+bits .and .u64 (x:Int) 6148914691236517205)=((s1 8 x:Nat):Int):=by
 have a1:=Jp7 (x/2) 6148914691236517205 (by omega) (by decide);have a2:=Jp7 x 6148914691236517205 hx (by decide);rw [show ((x:Int)/2)=((x/2:Nat):Int) by omega,show (6148914691236517205:Int)=((6148914691236517205:Nat):Int) from rfl,a1,a2];have e:rep 85 8=6148914691236517205:=by decide +kernel
 rw [<-Int.natCast_add,<-e];exact XN7 _ (X6o x)
theorem oc2 (x:Nat) (hx:x<18446744073709551616):
  IntKind.u64.wrap (bits .and .u64 ((x:Int)/4) 3689348814741910323+bits .and .u64 (x:Int) 3689348814741910323)=((s2 8 x:Nat):Int):=by
 have a1:=Jp7 (x/4) 3689348814741910323 (by omega) (by decide);have a2:=Jp7 x 3689348814741910323 hx (by decide);rw [show ((x:Int)/4)=((x/4:Nat):Int) by omega,show (3689348814741910323:Int)=((3689348814741910323:Nat):Int) from rfl,a1,a2];have e:rep 51 8=3689348814741910323:=by decide +kernel
 rw [<-Int.natCast_add,<-e];exact XN7 _ (by have:=ZAG x;unfold s2 at this;omega)
theorem oc3 (x:Nat) (hx:x<18446744073709551616/2):
  bits .and .u64 (IntKind.u64.wrap ((x:Int)/16+(x:Int))) 1085102592571150095=((s3 8 x:Nat):Int):=by
 have a1:=Jp7 (x/16+x) 1085102592571150095 (by omega) (by decide);rw [show ((x:Int)/16+(x:Int))=((x/16+x:Nat):Int) by omega,XN7 _ (by omega),show (1085102592571150095:Int)=((1085102592571150095:Nat):Int) from rfl,a1];have e:rep 15 8=1085102592571150095:=by decide +kernel
 unfold s3;rw [e]
theorem oc4 (x d:Nat) (D:Int) (hD:D=(d:Int)):IntKind.u64.wrap ((x:Int)+(x:Int)/D)=(((x+x/d)%18446744073709551616:Nat):Int):=by
 rw [hD,<-Int.natCast_ediv,<-Int.natCast_add,Xgm]
theorem oc5 (x:Nat) (hx:x<18446744073709551616):bits .and .i64 (wrap64 (x:Int)) 127=((x%128:Nat):Int):=by
 rw [<-IntWalk.i64_left]
 have h2:(BitVec.ofInt 64 (IntKind.i64.wrap (x:Int))).toNat=x:=by
  rw [IntKind.wrap_i64,BitVec.toNat_ofInt];simp;omega
 have h3:(BitVec.ofInt 64 (127:Int)).toNat=127:=by decide
 show IntKind.i64.wrap ((BitVec.ofInt 64 (IntKind.i64.wrap (x:Int)) &&& BitVec.ofInt 64 127).toNat:Int)=_
 rw [BitVec.toNat_and,h2,h3];have:x &&& 127=x%128:=Nat.and_two_pow_sub_one_eq_mod x 7;rw [this];exact IntWalk.i64_in _ (by omega)
set_option maxHeartbeats 800000 in
theorem JDA (x:Nat) (hx:x<18446744073709551616) (w:World):
  Calls Tryz.prog 275 #[.int .u64 (x:Nat)] w fun e w'=>e=.returned (.int .i64 (pc x:Nat))/\w=w':=by
 have HF:=YtC _ x rfl;obtain ⟨y1,h1⟩:∃ y,y=s1 8 x:=⟨_,rfl⟩;obtain ⟨y2,h2⟩:∃ y,y=s2 8 y1:=⟨_,rfl⟩;obtain ⟨y3,h3⟩:∃ y,y=s3 8 y2:=⟨_,rfl⟩;have ht:t 8 x=y3:=by rw [h3,h2,h1];rfl
 rw [ht] at HF;have K1:=hid (h1 ▸ oc1 x hx);have K2:=hid (h2 ▸ oc2 y1 (h1 ▸ X6o x));have K3:=hid (h3 ▸ oc3 y2 (h2 ▸ ZAG y1));obtain ⟨z1,g1⟩:∃ z,z=(y3+y3/256)%18446744073709551616:=⟨_,rfl⟩;obtain ⟨z2,g2⟩:∃ z,z=(z1+z1/65536)%18446744073709551616:=⟨_,rfl⟩;obtain ⟨z3,g3⟩:∃ z,z=(z2+z2/4294967296)%18446744073709551616:=⟨_,rfl⟩;simp only [<-g1,<-g2,<-g3] at HF;have K4:=hid (g1 ▸ oc4 y3 256 256 (by omega));have K5:=hid (g2 ▸ oc4 z1 65536 65536 (by omega));have K6:=hid (g3 ▸ oc4 z2 4294967296 4294967296 (by omega));have K7:=hid (oc5 z3 (by omega));clear h1 h2 h3 ht g1 g2 g3 hx;have HF':=hid HF;clear HF;go_enter Tryz.func275,Tryz.ntmps275;go_upto_region 2 with (fail);rw [K1.o];go_upto_region 3 with (fail);rw [K2.o];go_upto_region 4 with (fail);rw [K3.o];go_upto_region 5 with (fail);rw [K4.o];go_upto_region 6 with (fail);rw [K5.o];go_upto_region 7 with (fail);rw [K6.o];go_wp2;go_ret;refine ⟨ZzN ?_,rfl⟩;rw [<-HF'.o,<-K7.o]
def VRW (w:World):Prop:=∀ i,i<64->w.cell? ⟨1,i,none⟩=some (.int .u8 (tab.getD i 0:Nat))
theorem VvC (x:Nat) (h0:x≠0) (hx:x<18446744073709551616):IntKind.u64.wrap (-(x:Int))=((18446744073709551616-x:Nat):Int):=by
 rw [IntKind.wrap_u64];omega
set_option maxHeartbeats 800000 in
theorem JZD (x:Nat) (hx:x<18446744073709551616) (w:World) (ht:x≠0->VRW w):
  Calls Tryz.prog 297 #[.int .u64 (x:Nat)] w fun e w'=>e=.returned (.int .i64 (tz x:Nat))/\w=w':=by
 by_cases h0:x=0
 ·subst h0;clear ht hx;go_enter Tryz.func297,Tryz.ntmps297;go_wp2;go_ret;exact ⟨ZzN (by rw [YYy];rfl),rfl⟩
 ·have hT:=ht h0;obtain ⟨i1,i2⟩:=VnA hx h0;have hc:=hT _ i1;rw [i2] at hc;have hle:=ZtG x;have hb0:¬ ((x:Int)=0):=by omega
  obtain ⟨nx,hnx⟩:∃ n,n=18446744073709551616-x:=⟨_,rfl⟩;obtain ⟨m,hm⟩:∃ n,n=x &&& nx:=⟨_,rfl⟩;obtain ⟨q,hq⟩:∃ n,n=m*285870213051353865%18446744073709551616:=⟨_,rfl⟩;obtain ⟨ix,hix⟩:∃ n,n=q/288230376151711744:=⟨_,rfl⟩;have e:XaI x=ix:=by unfold XaI;rw [hix,hq,hm,hnx]
  have h7:IntKind.u64.wrap (-(x:Int))=(nx:Int):=by rw [hnx];exact VvC x h0 hx
  have h8:bits .and .u64 (x:Int) (nx:Int)=(m:Int):=by rw [hm];exact Jp7 x nx hx (by omega)
  have h9:IntKind.u64.wrap ((m:Int)*285870213051353865)=(q:Int):=by
   rw [hq,show (m:Int)*285870213051353865=((m*285870213051353865:Nat):Int) by omega,Xgm]
  have h10:(q:Int)/288230376151711744=(ix:Int):=by omega
  rw [e] at hc i1;generalize tz x=k at *
  clear hx ht hT hnx hm hq hix e h0 i2;go_enter Tryz.func297,Tryz.ntmps297;go_wp2;go_ret;exact ⟨rfl,rfl⟩
theorem Xm9 (s:ByteArray) (v:Nat) (h:v<s.size) (hs:s.data.toList.map (fun c=>(c.toNat:Int))=(List.range 256).map (fun i=>len i)):((s[v]'h).toNat:Int)=len v:=by
 have h1:(s.data.toList.map (fun c=>(c.toNat:Int)))[v]?=some ((s[v]'h).toNat:Int):=by
  rw [List.getElem?_map,List.getElem?_eq_getElem (show v<s.data.toList.length from h)];rfl
 have hl:s.data.toList.length=256:=by have:=congrArg List.length hs;simpa using this
 have hv:v<256:=by rw [<-hl];exact h
 rw [hs,List.getElem?_map,List.getElem?_range hv] at h1;simpa using h1.symm
def XkC (x y:Nat) (n:Int) (k:Nat):Prop:=y<2 ^ k/\len x=n+len y/\0<=n/\n+k<=64
theorem VGE {x y:Nat} {n:Int} {k j:Nat} (h:XkC x y n k) (hk:k<=64) (hy:2 ^ j<=y) (hj2:k=2*j):XkC x (y/2 ^ j) (n+j) j:=by
 obtain ⟨h1,h2,h3,h4⟩:=h;refine ⟨?_,?_,?_,?_⟩
 ·refine (Nat.div_lt_iff_lt_mul (Nat.two_pow_pos j)).2 (Nat.lt_of_lt_of_le h1 ?_);rw [<-Nat.pow_add];exact Nat.pow_le_pow_right (by decide) (by omega)
 ·rw [h2,Jm1 (Nat.lt_of_lt_of_le h1 (Nat.pow_le_pow_right (by decide) hk)) hy];omega
 ·omega
 ·omega
theorem Vv0 {x y:Nat} {n:Int} {k j:Nat} (h:XkC x y n k) (hj:j<=k) (hy:¬ 2 ^ j<=y):XkC x y n j:=by
 obtain ⟨h1,h2,h3,h4⟩:=h;exact ⟨by omega,h2,h3,by omega⟩
set_option maxHeartbeats 800000 in
theorem Z4f (x:Nat) (hx:x<18446744073709551616) (w:World):
  Calls Tryz.prog 272 #[.int .u64 (x:Nat)] w fun e w'=>e=.returned (.int .i64 (len x))/\w=w':=by
 have hx':XkC x x 0 64:=⟨hx,by omega,by omega,by omega⟩;clear hx;go_enter Tryz.func272,Tryz.ntmps272;go_upto_if 4 with (fail);go_cut [0,2] from 3 (fun a b w'=>w'=w/\∃ (y:Nat) (n:Int),XkC x y n 32/\a=.int .u64 y/\b=.int .i64 n)
 case first=>
  rcases Nat.lt_or_ge x (2 ^ 32) with h | h
  ·have L:=Vv0 hx' (show 32<=64 by decide) (by omega);have hd:decide ((4294967296:Int)<=(x:Int))=false:=by simp;omega
   clear h hx';rw [hd];go_wp2
   go_meet
   case rel=>exact ⟨rfl,x,0,L,rfl,rfl⟩
  ·have L:=VGE (j:=32) hx' (by decide) h (by rfl);have hd:decide ((4294967296:Int)<=(x:Int))=true:=by simp;omega
   clear h hx';rw [hd];go_wp2
   go_meet
   case rel=>exact ⟨rfl,_,_,L,by simp,by simp⟩
 case rest=>
  obtain ⟨rfl,y,n,hy,rfl,rfl⟩:=hcut;go_upto_if 8 with (fail);go_cut [0,2] from 3 (fun a b w'=>w'=wc/\∃ (y:Nat) (n:Int),XkC x y n 16/\a=.int .u64 y/\b=.int .i64 n)
  case first=>
   rcases Nat.lt_or_ge y (2 ^ 16) with h | h
   ·have L:=Vv0 hy (show 16<=32 by decide) (by omega);have hd:decide ((65536:Int)<=(y:Int))=false:=by simp;omega
    clear h hy;rw [hd];go_wp2
    go_meet
    case rel=>exact ⟨rfl,_,_,L,rfl,rfl⟩
   ·have L:=VGE (j:=16) hy (by decide) h (by rfl);have hd:decide ((65536:Int)<=(y:Int))=true:=by simp;omega
    have hb:=hy.2.2;clear h hy;rw [hd];go_wp2
    go_meet
    case rel=>exact ⟨rfl,_,_,L,by simp,by simp⟩
  case rest=>
   obtain ⟨rfl,z,n2,hz,rfl,rfl⟩:=hcut;go_upto_if 14 with (fail);go_cut [0,2] from 3 (fun a b w'=>w'=wc/\∃ (y:Nat) (n:Int),XkC x y n 8/\a=.int .u64 y/\b=.int .i64 n)
   case first=>
    rcases Nat.lt_or_ge z (2 ^ 8) with h | h
    ·have L:=Vv0 hz (show 8<=16 by decide) (by omega);have hd:decide ((256:Int)<=(z:Int))=false:=by simp;omega
     clear h hz;rw [hd];go_wp2
     go_meet
     case rel=>exact ⟨rfl,_,_,L,rfl,rfl⟩
    ·have L:=VGE (j:=8) hz (by decide) h (by rfl);have hd:decide ((256:Int)<=(z:Int))=true:=by simp;omega
     have hb:=hz.2.2;clear h hz;rw [hd];go_wp2
     go_meet
     case rel=>exact ⟨rfl,_,_,L,by simp,by simp⟩
   case rest=>
    obtain ⟨rfl,v,n3,hv,rfl,rfl⟩:=hcut;have hb:=hv.2.2;have hv1:(v:Int)<256:=by have:=hv.1;omega
    go_wp2;go_ret;refine ⟨ZzN ?_,rfl⟩;rw [Xm9 _ v _ (by decide +kernel)];have b:=Y6K v;rw [IntWalk.wrap64_in (len v) (by omega),IntWalk.wrap64_in _ (by omega)];have:=hv.2.1;omega
theorem X9g (x y:Nat) (hx:x<18446744073709551616):x &&& y<18446744073709551616:=Nat.lt_of_le_of_lt Nat.and_le_left hx
set_option maxHeartbeats 400000 in
theorem Jj6 (x:Nat) (hx:x<18446744073709551616) (a b:Int) (w:World):
  Calls Tryz.prog 237 #[.int .u64 (x:Nat),.int .i64 a,.int .i64 b] w fun e w'=>e=.returned (.int .i64 (pc (x &&& XEJ a b):Nat))/\w=w':=by
 have K:=hid (Jp7 x (XEJ a b) hx (YPt a b));have hm:=hid (X9g x (XEJ a b) hx);clear hx;go_enter Tryz.func237,Tryz.ntmps237
 go_wp2_with (first
  | (go_at_call 274;refine (JOY _ _ _).mono ?_;rintro e w' ⟨rfl,rfl⟩;have K':=K.o)
  | (go_at_call 275;clear K';refine (JDA _ hm.o _).mono ?_;rintro e w' ⟨rfl,rfl⟩))
 go_ret;exact ⟨rfl,rfl⟩
set_option maxHeartbeats 400000 in
theorem QaB (x:Nat) (hx:x<18446744073709551616) (a:Int) (w:World) (ht:VRW w):
  Calls Tryz.prog 283 #[.int .u64 (x:Nat),.int .i64 a] w fun e w'=>e=.returned (.int .i64 (tz (x &&& XEJ a 64):Nat))/\w=w':=by
 have K:=hid (Jp7 x (XEJ a 64) hx (YPt a 64));have hm:=hid (X9g x (XEJ a 64) hx);have ht':=hid ht;clear hx ht;go_enter Tryz.func283,Tryz.ntmps283
 go_wp2_with (first
  | (go_at_call 274;refine (JOY _ _ _).mono ?_;rintro e w' ⟨rfl,rfl⟩;have K':=K.o)
  | (go_at_call 297;clear K';refine (JZD _ hm.o _ (fun _=>ht'.o)).mono ?_;rintro e w' ⟨rfl,rfl⟩))
 go_ret;exact ⟨rfl,rfl⟩
set_option maxHeartbeats 400000 in
theorem Ydz (x:Nat) (hx:x<18446744073709551616) (b:Int) (w:World):
  Calls Tryz.prog 296 #[.int .u64 (x:Nat),.int .i64 b] w fun e w'=>e=.returned (.int .i64 (len (x &&& XEJ 0 b)-1))/\w=w':=by
 have K:=hid (Jp7 x (XEJ 0 b) hx (YPt 0 b));have hm:=hid (X9g x (XEJ 0 b) hx);have hl:=Y6K (x &&& XEJ 0 b);clear hx;go_enter Tryz.func296,Tryz.ntmps296
 go_wp2_with (first
  | (go_at_call 274;refine (JOY _ _ _).mono ?_;rintro e w' ⟨rfl,rfl⟩;have K':=K.o)
  | (go_at_call 272;clear K';refine (Z4f _ hm.o _).mono ?_;rintro e w' ⟨rfl,rfl⟩))
 go_ret;exact ⟨rfl,rfl⟩
end
end
section
section
open Go.RowKit Word
def XuW (n:Int):Bool:=decide (0<n)&&(bits .and .i64 n (n-1)==0)
set_option maxHeartbeats 800000 in
theorem VWY (n:Int) (hn:n<=9223372036854775807) (w:World):Calls Tryz.prog 152 #[.int .i64 n] w fun e w'=>e=.returned (.bool (XuW n))/\w=w':=by
 by_cases h:0<n
 ·have d1:decide (0<n)=true:=by simp [h]
  have e1:XuW n=(bits .and .i64 n (n-1)==0):=by unfold XuW;rw [d1];rfl
  rw [e1];generalize hb:bits .and .i64 n (n-1)=z;have HB:=hid hb;go_enter Tryz.func152,Tryz.ntmps152;go_wp2;go_ret;exact ⟨rfl,rfl⟩
 ·have d1:decide (0<n)=false:=by simp;omega
  have e1:XuW n=false:=by unfold XuW;rw [d1];rfl
  rw [e1];go_enter Tryz.func152,Tryz.ntmps152;go_wp2;go_ret;exact ⟨rfl,rfl⟩
def Y1d (n:Int):Bool:=[1,2,4,8,16,32,64,128,256,512,1024].contains n
theorem Vp3:∀ m:Fin 1025,XuW (m.1:Int)=Y1d (m.1:Int):=by decide +kernel
theorem Quq {n:Int} (h:Y1d n=true):1<=n/\n<=1024:=by
 simp [Y1d] at h;omega
theorem XYi (n:Int):Y1d n=(XuW n&&decide (n<=1024)):=by
 by_cases h:0<=n/\n<=1024
 ·obtain ⟨m,rfl⟩:∃ m:Nat,n=m:=⟨n.toNat,by omega⟩;have:=Vp3 ⟨m,by omega⟩;simp only at this;rw [this,decide_eq_true h.2,Bool.and_true]
 ·cases hb:Y1d n with
  | true=>have:=Quq hb;omega
  | false=>
   by_cases h2:n<=1024
   ·unfold XuW;rw [decide_eq_false (by omega)];rfl
   ·rw [decide_eq_false h2,Bool.and_false]
end
end
section
section
open Go.ChangeShapes Go.WideShapes Go.ChangeAt Go.RowKit Word
theorem own:ownKnob Tryz.prog.godebug=none:=by kernel_rfl
theorem Vh3:Tryz.prog.globalNamed "math/bits.deBruijn64tab"=some 1:=by kernel_rfl
theorem ZrU:(Tryz.prog.globals[1]?).map (·.type)=some 357:=by kernel_rfl
theorem YIX:Tryz.prog.cellsOf 357=64:=by kernel_rfl
theorem QpH:Tryz.prog.cellsOf 5=1:=by kernel_rfl
theorem Z6L:laidOutB Tryz.prog=true:=by kernel_rfl
theorem Zgl {W:World} (h:laidMetH Tryz.prog [("math/bits.deBruijn64tab",Rows.laid_math_bits_deBruijn64tab)] W):VRW W:=by
 have ht:Lib.TabIs Tryz.prog W "math/bits.deBruijn64tab" .u8 (tab.map fun x:Nat=>(x:Int)):=Lib.tabIs_of_head (rest:=[]) Vh3 ZrU Tryz.underlying357 Tryz.underlying5 QpH YIX h;intro i hi;have hi':i<tab.length:=hi;rw [ht.cell Vh3 i (by rw [List.length_map];exact hi')];congr 2;simp [List.getD_eq_getElem?_getD,hi']
noncomputable def laidWorld (os:Os):World:=
 { World.holding Tryz.prog os ⟨#[],#[],[]⟩ with heap:=(World.holding Tryz.prog os ⟨#[],#[],[]⟩).heap.modify 1 fun
   | .cells _ t frozen=>.cells (tab.map fun x:Nat=>Value.int .u8 (x:Int)).toArray t frozen
   | o=>o }
section
variable {H:Type} {enc:TypeId × Value->H} {P:Program} {W W':World}
theorem YpW (hl:laidOutB P=true):∀ {ts:List TypeId} {vs:List Value} {ds:List (DataW H)} {ps:List MemPlace},(∀ t∈ts,P.readableRec t=true/\t<P.types.size) →
  DataW.TrodAll enc P W 0 (fun _=>true) true ts vs ds ps->Below W.heap.size W W'->(∀ x∈ps,x.block<W.heap.size)->DataW.TrodAll enc P W' 0 (fun b=>decide (b<W.heap.size)) true ts vs ds ps
 | [],[],[],_,_,h,_,_=>h
 | _ :: _,_ :: _,_ :: _,_,ht,⟨p,q,h1,h2,e⟩,hb,hp=>
  ⟨p,q,Below.trod hl (ht _ (List.mem_cons.2 (.inl rfl))).1 (ht _ (List.mem_cons.2 (.inl rfl))).2 h1 hb (fun x hx=>hp x (by rw [e];exact List.mem_append_left _ hx)),
   YpW hl (fun t h=>ht t (List.mem_cons.2 (.inr h))) h2 hb (fun x hx=>hp x (by rw [e];exact List.mem_append_right _ hx)),e⟩
end
theorem Zfn {H:Type} {enc:TypeId × Value->H} {f:Func} {s:ChangeSpec} {W W':World} {args:Array Value} {ds gs:List (DataW H)} {before:List MemPlace}
  (hW:DataW.Whole enc Tryz.prog f.params.toList s.vars false W args.toList ds gs before) (hv:s.vars=[]) (hr:f.resultTypes=#[4]) (hp:∀ t∈f.params.toList,Tryz.prog.readableRec t=true/\t<Tryz.prog.types.size)
  (hs:s.fn H (ds++gs)={ results:=[.lit (.bool true)],args:=ds }) (hg:Gr W W'):s.post enc Tryz.prog f false true false false W args (.bool true) W':=by
 have hlt:=hW.lt;have hW0:=hW;obtain ⟨p,q,hA,hV,rfl,_,_⟩:=hW;have hb:Below W.heap.size W W':=(hg.touch (fun _=>False)).below (Nat.le_refl _) (fun _ _ h=>h);rw [hv] at hV
 obtain ⟨rfl,rfl⟩:gs=[]/\q=[]:=by
  cases gs with
  | nil=>exact ⟨rfl,hV⟩
  | cons g r=>exact absurd hV (by intro h;cases h)
 refine ⟨ds,[],p++[],[],p,[],hW0,?_,?_,?_,hb.frame _,fun h=>by cases h⟩
 ·rw [hs,hr];exact trodAll_mk1 (shut_bool Tryz.underlying4 true)
 ·rw [hs];exact YpW Z6L hp hA hb (fun x hx=>hlt x (List.mem_append_left _ hx))
 ·rw [hs,hv];rfl
end
end
section
section
open Go.RowKit Word
end
end
end
end Go.Proofs.YtmjoodkiiekjcaaGreatDoor
