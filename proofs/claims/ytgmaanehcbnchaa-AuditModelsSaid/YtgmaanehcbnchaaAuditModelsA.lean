/- Part 1 of what AuditModels leans on: my own lemmas, merged by shake.py. -/
import Derived.WalkKit
import Derived.BigQuiet
import Derived.Deep.Cut
import Derived.RangeFuncNested
import Derived.RangeFuncBound
import Derived.RangeFuncCalls
import Derived.RangeFuncLeaves
import Derived.Deep.RegionHeld3
import Derived.OrdersIn
import Derived.Deep.AppendLies
import Derived.Test.YtgmaanehcbnchaaProg
import Derived.Test.YtgmaanehcbnchaaRows
import Derived.ProofKit
import Derived.OpenShut
import Derived.Deep.DeepHandedRow
import Derived.Deep.Slices
import Derived.Lib.SmallJoins
import Derived.Lib.LaidTab
import Derived.Deep.RegionWith
import Derived.WalkSpells
import Derived.Laws.OwnMore
import Derived.Laws.BitsAllLaws
import Derived.Laws.Bits64b
import Derived.Shelf.Abstract
import Derived.Shelf.RegionOpen
import Derived.OwnWalkIn
import Derived.TacticsInMore
import Derived.LoopNIn
import Derived.LoopIn
import Derived.Stop.RegionWithIn
import Derived.Sort.CutIn
namespace Go.Proofs.Ytgmaanehcbnchaa
open _root_.Go.Proofs.Try
set_option maxHeartbeats 3200000
theorem Ω {p:Prop}(h:p:=by omega):p:=h
theorem ζ:type_of% @List.getElem?_cons_succ:=List.getElem?_cons_succ
theorem ξ:type_of% @List.getElem?_cons_zero:=List.getElem?_cons_zero
theorem ψ:type_of% @List.setIfInBounds_toArray:=List.setIfInBounds_toArray
theorem φ:type_of% @wpQuiet_nil:=wpQuiet_nil
theorem θ:type_of% @List.getD_eq_getElem?_getD:=List.getD_eq_getElem?_getD
theorem ϑ:type_of% @List.set_cons_succ:=List.set_cons_succ
theorem κ:type_of% @List.set_cons_zero:=List.set_cons_zero
theorem μ:type_of% @List.getElem?_eq_getElem:=List.getElem?_eq_getElem
theorem ν:type_of% @if_neg:=if_neg
theorem π:type_of% @decide_eq_false:=decide_eq_false
theorem σ:type_of% @beq_eq_false_iff_ne:=beq_eq_false_iff_ne
theorem τ:type_of% @World.size_alloc:=World.size_alloc
theorem υ:type_of% @decide_eq_true:=decide_eq_true
theorem χ:type_of% @if_pos:=if_pos
theorem δ:type_of% @NoPanic.normal:=NoPanic.normal
theorem γ:type_of% @Nat.le_trans:=Nat.le_trans
theorem β:type_of% @World.news_of_block:=World.news_of_block
theorem ω:type_of% @Nat.zero_add:=Nat.zero_add
theorem η:type_of% @List.nil_append:=List.nil_append
theorem ζa:type_of% @Nat.lt_of_lt_of_le:=Nat.lt_of_lt_of_le
theorem ζb:type_of% @Nat.zero_le:=Nat.zero_le
theorem ζc:type_of% @List.length_map:=List.length_map
theorem ζd:type_of% @Bool.and_eq_true:=Bool.and_eq_true
theorem ζe:type_of% @Nat.le_refl:=Nat.le_refl
theorem ζf:type_of% @List.length_set:=List.length_set
theorem ζg:type_of% @List.take_succ_eq_append_getElem:=List.take_succ_eq_append_getElem
theorem ζi:type_of% @List.length_append:=List.length_append
theorem ζj:type_of% @Nat.lt_or_ge:=Nat.lt_or_ge
theorem ζk:type_of% @List.length_take:=List.length_take
theorem ζl:type_of% @List.mem_or_eq_of_mem_set:=List.mem_or_eq_of_mem_set
theorem ζm:type_of% @Nat.div_lt_iff_lt_mul:=Nat.div_lt_iff_lt_mul
theorem ζn:type_of% @Nat.mod_lt:=Nat.mod_lt
theorem ζo:type_of% @List.getElem_mem:=List.getElem_mem
theorem ζp:type_of% @And.intro:=And.intro
theorem ζq:type_of% @decide_eq_true_eq:=decide_eq_true_eq
theorem ζr:type_of% @List.getElem?_map:=List.getElem?_map
theorem ζs:type_of% @List.length_drop:=List.length_drop
theorem ζt:type_of% @bodyPost_ret:=bodyPost_ret
theorem ζu:type_of% @beq_iff_eq:=beq_iff_eq
theorem ζw:type_of% @List.map_append:=List.map_append
theorem ζx:type_of% @IntKind.wrap_u64:=IntKind.wrap_u64
theorem ζz:type_of% @Nat.lt_of_le_of_lt:=Nat.lt_of_le_of_lt
theorem ζA:type_of% @Nat.add_zero:=Nat.add_zero
theorem ζB:type_of% @List.take_of_length_le:=List.take_of_length_le
theorem ζC:type_of% @List.mem_replicate:=List.mem_replicate
theorem ζD:type_of% @Bool.not_eq_true:=Bool.not_eq_true
theorem ζE:type_of% @World.cell?_alloc_at:=World.cell?_alloc_at
theorem ζF:type_of% @Array.getElem?_eq_some_iff:=Array.getElem?_eq_some_iff
theorem ζG:type_of% @Nat.le_of_lt:=Nat.le_of_lt
theorem ζH:type_of% @Nat.div_add_mod:=Nat.div_add_mod
theorem ζI:type_of% @List.mem_of_mem_take:=List.mem_of_mem_take
theorem ζJ:type_of% @results_none:=results_none
theorem ζK:type_of% @bodyPost_end:=bodyPost_end
theorem ζL:type_of% @Nat.zero_mul:=Nat.zero_mul
theorem ζM:type_of% @Nat.mul_comm:=Nat.mul_comm
theorem ζO:type_of% @List.getElem?_eq_none:=List.getElem?_eq_none
theorem ζP:type_of% @decide_eq_decide:=decide_eq_decide
theorem ζQ:type_of% @Nat.min_eq_right:=Nat.min_eq_right
theorem ζR:type_of% @Nat.add_sub_cancel:=Nat.add_sub_cancel
theorem ζS:type_of% @List.take_length:=List.take_length
theorem ζT:type_of% @List.mem_singleton:=List.mem_singleton
theorem ζU:type_of% @Nat.mul_assoc:=Nat.mul_assoc
theorem ζV:type_of% @Nat.add_mul:=Nat.add_mul
theorem ζW:type_of% @List.take_take:=List.take_take
theorem ζX:type_of% @Nat.min_eq_left:=Nat.min_eq_left
theorem ζY:type_of% @List.drop_eq_nil_of_le:=List.drop_eq_nil_of_le
theorem ζZ:type_of% @List.all_eq_true:=List.all_eq_true
theorem ζ0:type_of% @List.getElem?_drop:=List.getElem?_drop
theorem ζ1:type_of% @List.length_replicate:=List.length_replicate
theorem ζ2:type_of% @List.getElem?_eq_some_iff:=List.getElem?_eq_some_iff
theorem ζ3:type_of% @List.getElem?_append_left:=List.getElem?_append_left
theorem ζ4:type_of% @List.drop_eq_getElem_cons:=List.drop_eq_getElem_cons
theorem ζ5:type_of% @Nat.div_le_self:=Nat.div_le_self
theorem ζ6:type_of% @Nat.le_succ:=Nat.le_succ
theorem ζ7:type_of% @List.mem_cons_of_mem:=List.mem_cons_of_mem
theorem ζ8:type_of% @List.map_set:=List.map_set
theorem ζ9:type_of% @List.getElem_append_left:=List.getElem_append_left
theorem ξa:type_of% @Bool.or_false:=Bool.or_false
theorem ξb:type_of% @Option.getD_some:=Option.getD_some
theorem ξc:type_of% @Nat.mod_eq_of_lt:=Nat.mod_eq_of_lt
theorem ξd:type_of% @Nat.add_comm:=Nat.add_comm
theorem ξe:type_of% @Array.getElem?_eq_none:=Array.getElem?_eq_none
theorem ξf:type_of% @Nat.not_lt_zero:=Nat.not_lt_zero
theorem ξg:type_of% @List.mem_append:=List.mem_append
theorem ξh:type_of% @Nat.lt_irrefl:=Nat.lt_irrefl
theorem ξi:type_of% @List.mem_cons:=List.mem_cons
theorem ξj:type_of% @List.append_assoc:=List.append_assoc
theorem ξk:type_of% @Int.toNat_natCast:=Int.toNat_natCast
theorem ξl:type_of% @Nat.one_mul:=Nat.one_mul
theorem ξm:type_of% @Nat.mul_le_mul_right:=Nat.mul_le_mul_right
theorem ξn:type_of% @List.mem_take_iff_getElem:=List.mem_take_iff_getElem
theorem ξo:type_of% @Nat.mul_le_mul_left:=Nat.mul_le_mul_left
theorem ξp:type_of% @List.getElem?_take_of_lt:=List.getElem?_take_of_lt
theorem ξq:type_of% @beq_false_of_ne:=beq_false_of_ne
theorem ξs:type_of% @Bool.eq_iff_iff:=Bool.eq_iff_iff
theorem ξt:type_of% @List.mem_cons_self:=List.mem_cons_self
theorem ξu:type_of% @List.map_replicate:=List.map_replicate
theorem ξv:type_of% @Nat.mul_add:=Nat.mul_add
theorem ξx:type_of% @List.length_filter_eq_length_iff:=List.length_filter_eq_length_iff
theorem ξz:type_of% @List.map_cons:=List.map_cons
theorem ξA:type_of% @List.mem_iff_getElem:=List.mem_iff_getElem
theorem ξB:type_of% @Int.natCast_mul:=Int.natCast_mul
theorem ξD:type_of% @List.mem_map:=List.mem_map
theorem ξE:type_of% @List.getElem?_append_right:=List.getElem?_append_right
theorem ξF:type_of% @IntWalk.i64_in:=IntWalk.i64_in
theorem ξG:type_of% @List.getElem_append_right:=List.getElem_append_right
theorem ξI:type_of% @Int.emod_eq_of_lt:=Int.emod_eq_of_lt
theorem ξJ:type_of% @Nat.add_assoc:=Nat.add_assoc
theorem ξK:type_of% @Bool.and_self:=Bool.and_self
theorem ξL:type_of% @Nat.le_of_not_lt:=Nat.le_of_not_lt
theorem ξM:type_of% @Nat.div_div_eq_div_mul:=Nat.div_div_eq_div_mul
theorem ξN:type_of% @Bool.or_eq_true:=Bool.or_eq_true
theorem ξO:type_of% @Nat.mul_one:=Nat.mul_one
theorem ξP:type_of% @Nat.eq_of_testBit_eq:=Nat.eq_of_testBit_eq
theorem ξQ:type_of% @List.replicate_succ':=List.replicate_succ'
theorem ξR:type_of% @List.mem_of_mem_drop:=List.mem_of_mem_drop
theorem ξS:type_of% @List.mem_append_left:=List.mem_append_left
theorem ξT:type_of% @List.drop_zero:=List.drop_zero
theorem ξU:type_of% @Array.toArray_toList:=Array.toArray_toList
set_option maxRecDepth 100000
section
section
section
open Go.RowKit
structure Hid(p:Prop):Prop where
 o:p
theorem hid{p:Prop}(h:p):Hid p:=⟨h⟩
def grow(w:World)(xs:Array Obj)(n:Nat):World:={w with heap:=w.heap++xs,drawn:=n}
theorem XQv(w:World)(xs:Array Obj)(n k:Nat)(h:k<w.heap.size):(grow w xs n).heap[k]?=w.heap[k]?:=by
 show (w.heap++xs)[k]?=_
 rw[Array.getElem?_append_left h]
theorem QG6(w:World)(xs:Array Obj)(n:Nat):(grow w xs n).heap.size=w.heap.size+xs.size:=by
 show (w.heap++xs).size=_;simp
theorem JyW(w:World)(xs ys:Array Obj)(n m:Nat):grow (grow w xs n) ys m=grow w (xs++ys) m:=by
 simp[grow,Array.append_assoc]
def Gr(w W:World):Prop:=∃xs n,W=grow w xs n
theorem JC8(w:World):grow w #[] w.drawn=w:=by cases w;simp[grow]
theorem Gr.refl(w:World):Gr w w:=⟨#[],w.drawn,(JC8 w).symm⟩
theorem Gr.of_eq{w w':World}(h:w=w'):Gr w w':=h▸Gr.refl w
theorem Gr.trans{a b c:World}(h:Gr a b)(k:Gr b c):Gr a c:=by
 obtain⟨xs,n,rfl⟩:=h;obtain⟨ys,m,rfl⟩:=k;exact⟨xs++ys,m,JyW a xs ys n m⟩
theorem Gr.drewN{w W:World}(h:Gr w W)(n:Nat):Gr w (W.drewN n):=h.trans ⟨#[],W.drawn+n,by simp[Go.Proofs.Ytgmaanehcbnchaa.grow,World.drewN]⟩
theorem Gr.drew{w W:World}(h:Gr w W):Gr w W.drew:=h.trans ⟨#[],W.drawn+1,by show _=({W with heap:=W.heap++#[],drawn:=W.drawn+1}:World);rw[Array.append_empty];rfl⟩
theorem Gr.alloc{w W:World}(h:Gr w W)(o:Obj):Gr w (W.alloc o):=h.trans ⟨#[o],W.drawn,by show _=({W with heap:=W.heap++#[o],drawn:=W.drawn}:World);rw[Array.append_singleton];rfl⟩
theorem Gr.size{w W:World}(h:Gr w W):w.heap.size<=W.heap.size:=by obtain⟨xs,n,rfl⟩:=h;rw[QG6];omega
theorem Gr.block{w W:World}(h:Gr w W){k:Nat}(hk:k<w.heap.size):W.heap[k]?=w.heap[k]?:=by obtain⟨xs,n,rfl⟩:=h;exact XQv w xs n k hk
theorem Gr.cell{w W:World}(h:Gr w W){b:Nat}(hb:b<w.heap.size)(o:Nat):W.cell? ⟨b,o,none⟩=w.cell? ⟨b,o,none⟩:=World.cell?_of_block (w:=w) (h.block hb)
theorem Gr.frozen{w W:World}(h:Gr w W){b:Nat}(hb:b<w.heap.size)(o:Nat):W.frozen? ⟨b,o,none⟩=w.frozen? ⟨b,o,none⟩:=World.frozen?_of_block (w:=w) (h.block hb)
structure XF4(S:Nat->Prop)(w w':World):Prop where
 os:w'.os=w.os
 tape:w'.tape=w.tape
 output:w'.output=w.output
 size:w.heap.size<=w'.heap.size
 block:∀k,k<w.heap.size->¬S k->w'.heap[k]?=w.heap[k]?
theorem XF4.refl(S:Nat->Prop)(w:World):XF4 S w w:=⟨rfl,rfl,rfl,ζe _,λ_ _ _=>rfl⟩
theorem Gr.touch{w W:World}(h:Gr w W)(S:Nat->Prop):XF4 S w W:=by
 refine⟨?_,?_,?_,h.size,λk hk _=>h.block hk⟩ <;> (obtain⟨xs,n,rfl⟩:=h;rfl)
theorem XF4.mono{S T:Nat->Prop}{w w':World}(h:XF4 S w w')(hs:∀k,k<w.heap.size->S k->T k):XF4 T w w':=
 ⟨h.os,h.tape,h.output,h.size,λk hk hn=>h.block k hk (λhS=>hn (hs k hk hS))⟩
theorem XF4.trans{S:Nat->Prop}{a b c:World}(h:XF4 S a b)(k:XF4 S b c):XF4 S a c:=
 ⟨k.os.trans h.os,k.tape.trans h.tape,k.output.trans h.output,γ h.size k.size,λi hi hn=>(k.block i (ζa hi h.size) hn).trans (h.block i hi hn)⟩
theorem XF4.trans'{S T:Nat->Prop}{a b c:World}(h:XF4 S a b)(k:XF4 T b c)(hT:∀i,i<a.heap.size->T i->S i):XF4 S a c:=
 ⟨k.os.trans h.os,k.tape.trans h.tape,k.output.trans h.output,γ h.size k.size,λi hi hn=>(k.block i (ζa hi h.size) (λht=>hn (hT i hi ht))).trans (h.block i hi hn)⟩
theorem XF4.cell{S:Nat->Prop}{w w':World}(h:XF4 S w w'){b:Nat}(hb:b<w.heap.size)(hS:¬S b)(o:Nat):w'.cell? ⟨b,o,none⟩=w.cell? ⟨b,o,none⟩:=World.cell?_of_block (w:=w) (h.block b hb hS)
theorem XF4.setCell{S:Nat->Prop}{w w':World}(h:XF4 S w w'){a:Addr}(ha:a.block<w.heap.size->S a.block)(v:Value):XF4 S w (w'.setCell a v):=by
 refine h.trans' (T:=λk=>k=a.block) ⟨rfl,rfl,rfl,by simp[World.setCell],λk _ hn=>Below.heap_setCell _ _ _ _ hn⟩ ?_;rintro i hi rfl;exact ha hi
theorem XF4.alloc{S:Nat->Prop}{w w':World}(h:XF4 S w w')(o:Obj):XF4 S w (w'.alloc o):=h.trans (((Gr.refl w').alloc o).touch S)
theorem XF4.drew{S:Nat->Prop}{w w':World}(h:XF4 S w w'):XF4 S w w'.drew:=h.trans (((Gr.refl w').drew).touch S)
theorem XF4.drewN{S:Nat->Prop}{w w':World}(h:XF4 S w w')(n:Nat):XF4 S w (w'.drewN n):=h.trans (((Gr.refl w').drewN n).touch S)
theorem XF4.below{S:Nat->Prop}{w w':World}(h:XF4 S w w'){B:Nat}(hB:B<=w.heap.size)(hS:∀k,k<B->¬S k):Below B w w':=
 ⟨h.os,h.tape,h.output,h.size,λk hk=>h.block k Ω (hS k hk)⟩
theorem XF4.gr{w w':World}(h:XF4 (λ_=>False) w w'):Gr w w':=by
 refine⟨w'.heap.extract w.heap.size w'.heap.size,w'.drawn,?_⟩
 have hh:w'.heap=w.heap++w'.heap.extract w.heap.size w'.heap.size:=by
  have hs:=h.size;apply Array.ext_getElem?;intro i;rcases ζj i w.heap.size with hi|hi
  ·rw[h.block i hi (λh=>h),Array.getElem?_append_left hi]
  ·rw[Array.getElem?_append_right hi,Array.getElem?_extract];by_cases hj:i<w'.heap.size
   ·rw[χ Ω];congr 1;omega
   ·rw[ν Ω,ξe Ω]
 obtain⟨h1,h2,h3,_,_⟩:=h;cases w;cases w';simp only[grow]at *
 subst h1 h2 h3;congr 1
def V4y(P:Program)(f:FuncId)(args:Array Value)(w:World)(v:Value):Prop:=Calls P f args w λe w'=>e=.returned v/\Gr w w'
theorem Y9c(P:Program)(k:IntKind)(x y:Int)(w:World):(Builtin.min2 (.int k x) (.int k y)).run P w=.ok (.int k (min x y)) w:=by
 show Result.ok (Value.int k (if y<x then y else x)) w=_
 have:(if y<x then y else x)=min x y:=by split <;> omega
 rw[this]
theorem YQd(P:Program)(k:IntKind)(x y:Int)(w:World):(Builtin.max2 (.int k x) (.int k y)).run P w=.ok (.int k (max x y)) w:=by
 show Result.ok (Value.int k (if x<y then y else x)) w=_
 have:(if x<y then y else x)=max x y:=by split <;> omega
 rw[this]
end
end
section
section
open Go.RowKit
structure YF9 where
 xs:Array Obj
 n:Nat
 deriving Inhabited
theorem XAX{P:Program}{id:Nat}{Q:Exit->Act->World->Prop}{a:Act}{w:World}{l:List Oper}(hm:P.follows .mixedOrders=true)(hB:Region.lexB .any l.toArray=true)
  (h:wpQuiet P l.toArray (λw'=>∃p:YF9,w'=grow w p.xs p.n) (λa'=>∀w',(∃p:YF9,w'=grow w p.xs p.n)->Q .normal a' w') l a):(Code.region id l.toArray true).wp P Q a w:=
 wp_region_quiet (C:=λw'=>∃p:YF9,w'=grow w p.xs p.n) hm hB ⟨⟨#[],w.drawn+1⟩,by obtain⟨xs,n,h⟩:=(Gr.refl w).drew;show w.drew=({w with heap:=w.heap++#[],drawn:=w.drawn+1}:World);rw[Array.append_empty];rfl⟩ (by rw[List.toList_toArray];exact h)
theorem grown(w:World)(xs:Array Obj)(n:Nat):Gr w (grow w xs n):=⟨xs,n,rfl⟩
theorem V4y.grown{P:Program}{f:FuncId}{args:Array Value}{w:World}{xs:Array Obj}{n:Nat}{v:Value}(h:V4y P f args (grow w xs n) v):
  Calls P f args (grow w xs n) λe w''=>e=.returned v/\∃p:YF9,w''=Go.Proofs.Ytgmaanehcbnchaa.grow w p.xs p.n:=
 h.mono λ_ _ ⟨he,ys,m,hw⟩=>⟨he,⟨xs++ys,m⟩,by rw[hw,JyW]⟩
end
end
section
section
open Go.RowKit
section
variable {F:Fence} {n:Nat} {P:Program}
end
end
end
section
section
open Go.RowKit
section
variable {F:Fence} {n:Nat} {P:Program}
end
end
end
section
section
open Go.RowKit
section
variable {P:Program} {ops:Array Oper} {Q:Exit->Act->World->Prop} {md:Region.Mode} {S:World->Prop}
def Vnh(P:Program)(md:Region.Mode)(ops:Array Oper)(Q:Exit->Act->World->Prop)(S:World->Prop)(z:Nat):Nat->Array Bool->Act->World->Prop
 | 0,listed,a,w=>Region.ready md ops listed=[]/\Q .normal a w
 | f+1,listed,a,w=>
  (Region.ready md ops listed=[]->Q .normal a w) ∧
  ∀i∈Region.ready md ops listed,wpOp P ops Q i (λa' w'=>(i=z\/S w')/\Vnh P md ops Q S z f (listed.setIfInBounds i true) a' w') a w
theorem Zmi{z:Nat}:∀(f:Nat) (listed:Array Bool) (a:Act) (w:World),Vnh P md ops Q S z f listed a w->wpAny P md ops Q f listed a w
 | 0,_,_,_,h=>h
 | f+1,_,_,_,h=>⟨h.1,λi hi=>wpOp_mono (λa' w' h'=>Zmi f _ a' w' h'.2) (h.2 i hi)⟩
def ZVQ(md:Region.Mode)(ops:Array Oper)(listed:Array Bool):Prop:=
 ∀j oj,ops[j]?=some oj->listed.getD j false=true->∀e∈oj.after,Region.binds md e=true->listed.getD e.on false=true
theorem ZVQ.none(md:Region.Mode)(ops:Array Oper):ZVQ md ops (Array.replicate ops.size false):=λj oj _ hl=>by
 simp only[Array.getD_eq_getD_getElem?,Array.getElem?_replicate]at hl
 split at hl <;> simp at hl
theorem ZVQ.set{listed:Array Bool}{i:Nat}(h:ZVQ md ops listed)(hi:i∈Region.ready md ops listed):ZVQ md ops (listed.setIfInBounds i true):=by
 obtain⟨_,oi,hoi,hall⟩:=mem_ready.1 hi;intro j oj hj hl e he hb;by_cases hij:i=j
 ·subst hij;obtain rfl:oj=oi:=Option.some.inj (hj.symm.trans hoi);exact getD_set_true (hall e he hb)
 ·rw[getD_set_ne false hij]at hl;exact getD_set_true (h j oj hj hl e he hb)
def anc(md:Region.Mode)(ops:Array Oper):Nat->Nat->Nat->Bool
 | 0,_,_=>false
 | f+1,j,i=>match ops[j]? with
  | none=>false
  | some o=>o.after.any λe=>Region.binds md e&&(e.on==i||anc md ops f e.on i)
theorem JZc{listed:Array Bool}(h:ZVQ md ops listed):∀(f j i:Nat) (o:Oper),ops[j]?=some o->(∀e∈o.after,Region.binds md e=true->listed.getD e.on false=true)->anc md ops f j i=true->listed.getD i false=true
 | 0,_,_,_,_,_,ha=>by cases ha
 | f+1,j,i,o,ho,hall,ha=>by
  simp only[anc,ho]at ha;obtain⟨e,he,hb⟩:=Array.any_eq_true'.1 ha;simp only[ζd,ξN,ζu]at hb;have hl:=hall e he hb.1;rcases hb.2 with h1|h1
  ·rw[<-h1];exact hl
  ·cases hoe:ops[e.on]? with
   | none=>cases f <;> simp[anc,hoe]at h1
   | some oe=>exact JZc h f e.on i oe hoe (h e.on oe hoe hl) h1
def Xzl(md:Region.Mode)(ops:Array Oper)(z:Nat):Bool:=decide (ops.size<=z)||(List.range ops.size).all λi=>i==z||anc md ops ops.size z i
theorem Q9R{listed:Array Bool}{z i:Nat}(hz:Xzl md ops z=true)(h:ZVQ md ops listed)(hr:z∈Region.ready md ops listed)(hi:i<ops.size)(hne:i≠z):listed.getD i false=true:=by
 obtain⟨_,oz,hoz,hall⟩:=mem_ready.1 hr;simp only[Xzl,ξN,ζq,ζZ,List.mem_range,ζu]at hz;rcases hz with hz|hz
 ·rw[ξe hz]at hoz;cases hoz
 ·exact JZc h _ z i oz hoz hall ((hz i hi).resolve_left hne)
theorem X2k{listed:Array Bool}{i:Nat}(h1:listed.getD i true=false)(h2:listed.getD i false=true):False:=by
 rcases ζj i listed.size with h|h
 ·simp[h]at h1 h2;rw[h1]at h2;cases h2
 ·simp[ξe h]at h1
theorem JDV{z i:Nat}{oi:Oper}{v:Value}(hi:ops[i]?=some oi)(hsel:∀(j:Nat) (o:Oper) cs b,ops[j]?=some o->o.op≠.select cs b)
  (hQ:∀c a w,Q (.panic c) (a.put oi.dst v) w->Q (.panic c) a w) (hz:Xzl md ops z=true):
  ∀(f:Nat) (listed:Array Bool) (a:Act) (w:World),ZVQ md ops listed →
   (∀j oj,ops[j]?=some oj->j≠i->listed.getD j true=false->(∀e∈oj.after,Region.binds md e=true->e.on≠i)->oi.apart ops oj=true) →
   i∈Region.ready md ops listed->YieldsIf P ops S oi v a->S w →
   Vnh P md ops Q S z f (listed.setIfInBounds i true) (a.put oi.dst v) w->Vnh P md ops Q S z (f+1) listed a w:=by
 intro f
 induction f with
 | zero=>
  intro listed a w _ _ hr hy hS H;refine⟨λh=>(by rw[h]at hr;cases hr),λj hj=>?_⟩;by_cases hji:j=i
  ·subst hji;exact hy.wpOp hi hS ⟨.inr hS,H⟩
  ·have:=ready_mono hj hji;rw[H.1]at this;cases this
 | succ f ih=>
  intro listed a w hcl hfree hr hy hS H;refine⟨λh=>(by rw[h]at hr;cases hr),λj hj=>?_⟩;by_cases hji:j=i
  ·subst hji;exact hy.wpOp hi hS ⟨.inr hS,H⟩
  ·have h1:=H.2 j (ready_mono hj hji);obtain⟨hjun,oj,hoj,hall⟩:=mem_ready.1 hj;have hun:=(mem_ready.1 hr).1;have hilt:i<ops.size:=(ζF.1 hi).1
   have hjz:j≠z:=λe=>by
    subst e;exact X2k hun (Q9R hz hcl hj hilt (Ne.symm hji))
   have hnot:∀e∈oj.after,Region.binds md e=true->e.on≠i:=λe he hb heq=>X2k hun (heq▸hall e he hb);have h2:=wpOp_putIf hoj (hfree j oj hoj hji hjun hnot) (λcs b=>hsel i oi cs b hi) (λcs b=>hsel j oj cs b hoj) hQ hy h1
   have hfree':∀k ok,ops[k]?=some ok->k≠i->(listed.setIfInBounds j true).getD k true=false →
     (∀e∈ok.after,Region.binds md e=true->e.on≠i)->oi.apart ops ok=true:=λk ok hk hki hun hno=>by
    refine hfree k ok hk hki ?_ hno;by_cases hjk:j=k
    ·subst hjk;exact hjun
    ·rw[getD_set_ne true hjk]at hun;exact hun
   refine wpOp_mono (λa' w' h3=>?_) h2;obtain⟨h3,h4,h5⟩:=h3;have hS':S w':=h4.resolve_left hjz;refine⟨h4,ih (listed.setIfInBounds j true) a' w' (hcl.set hj) hfree' (ready_mono hr (Ne.symm hji)) h3 hS' ?_⟩;rw[Array.setIfInBounds_comm _ _ hji];exact h5
def QK6(o:Oper):Bool:=
 match o.op with
 | .move _| .assign _| .pick .. | .build .. | .load .. | .nilCheck _| .binOp .. | .unOp .. | .convert .. | .sliceToArrayPointer .. | .makeInterface .. | .makeFunc .. | .slice .. | .fieldAddr .. | .field .. | .indexAddr .. | .index .. | .lookup .. | .typeAssert .. | .extract ..=>true
 | .call {callee:=.builtin .len,..} | .call {callee:=.builtin .cap,..} | .call {callee:=.builtin .min,..} | .call {callee:=.builtin .max,..}=>true
 | _=>false
theorem JUT{s:Sem Value}{w w':World}{n:Next}(h:(do pure (Next.value (<-s)):Sem Next).run P w=.ok n w'):∃v,n=.value v:=by
 rw[Sem.run_bind]at h;cases hs:s.run P w with
 | ok v w1=>rw[hs]at h;simp only[Result.andThen_ok,Sem.run_pure]at h;cases h;exact⟨v,rfl⟩
 | halt x w1=>rw[hs]at h;simp only[Result.andThen]at h;cases h
theorem ZLh{w w':World}{n:Next}(h:(runtimePanic .nilDeref:Sem Next).run P w=.ok n w'):False:=by
 simp[runtimePanic,goPanic,go_sem]at h
theorem Y9U{o:Oper}{ρ:Operand->Value}{w w':World}{n:Next}(hq:QK6 o=true)(h:(execOp ρ o).run P w=.ok n w'):∃v,n=.value v:=by
 obtain⟨dst,op,type,pos,after,guard⟩:=o;cases op
 case move x=>simp only[execOp,Sem.run_pure]at h;cases h;exact⟨_,rfl⟩
 case assign x=>simp only[execOp,Sem.run_pure]at h;cases h;exact⟨_,rfl⟩
 case pick c a b=>exact JUT (s:=do pure (if <-asBool (ρ c)then ρ a else ρ b)) (by simpa[execOp,Sem.run_bind]using h)
 case nilCheck x=>
  simp only[execOp]at h
  split at h
  ·exact(ZLh h).elim
  ·exact(ZLh h).elim
  ·exact(ZLh h).elim
  ·split at h
   ·exact(ZLh h).elim
   ·rw[Sem.run_bind]at h;cases h1:(program:Sem Program).run P w with
    | halt x w1=>rw[h1]at h;simp only[Result.andThen]at h;cases h
    | ok p w1=>
     rw[h1]at h;simp only[Result.andThen_ok]at h;rw[Sem.run_bind]at h;cases h2:(nilAhead (p.types.size+Made.depth) _ _ _).run P w1 with
     | halt x w2=>rw[h2]at h;simp only[Result.andThen]at h;cases h
     | ok r w2=>
      rw[h2]at h;simp only[Result.andThen_ok]at h
      split at h
      ·rw[Sem.run_bind]at h;simp[unsupported,go_sem]at h
      ·simp only[Sem.run_pure]at h;cases h;exact⟨_,rfl⟩
   ·simp only[Sem.run_pure]at h;cases h;exact⟨_,rfl⟩
  ·simp only[Sem.run_pure]at h;cases h;exact⟨_,rfl⟩
 case call c=>
  obtain⟨callee,args,ts⟩:=c;cases callee
  case builtin b=>
   cases b <;> simp[QK6]at hq <;> exact JUT h
  all_goals simp[QK6]at hq
 all_goals first
  | (simp[QK6]at hq;done)
  | exact JUT h
def XZy(l:List Oper):List Nat->List Oper
 | []=>[]
 | k :: ks=>match l[k]? with
  | some o=>o :: XZy l ks
  | none=>XZy l ks
def Jrg(md:Region.Mode)(ops:Array Oper)(z:Nat):List (Bool×Nat)->Array Bool->Bool
 | [],listed=>(Region.ready md ops listed).isEmpty
 | (true,k) :: r,listed=>decide (Region.ready md ops listed=[k])&&(k !=z||r.isEmpty)&&Jrg md ops z r (listed.setIfInBounds k true)
 | (false,k) :: r,listed=>(Region.ready md ops listed).contains k&&Region.free md ops listed k&&((ops[k]?).any QK6)&&Jrg md ops z r (listed.setIfInBounds k true)
def XA5:List (List Nat×Nat)->List Nat->List (Bool×Nat)
 | [],fin=>fin.map (λk=>(false,k))
 | (qs,k) :: r,fin=>qs.map (λk=>(false,k))++(true,k) :: XA5 r fin
def ZxC(P:Program)(l:List Oper)(S:World->Prop)(z:Nat)(Q:Exit->Act->World->Prop):List (List Nat×Nat)->List Nat->Act->World->Prop
 | [],fin,a,w=>wpQuiet P l.toArray S (λa'=>Q .normal a' w) (XZy l fin) a
 | (qs,k) :: r,fin,a,w=>wpQuiet P l.toArray S (λa'=>wpList P l.toArray (Exit.then (λa2 w2=>(k=z\/S w2)/\ZxC P l S z Q r fin a2 w2) Q) (XZy l [k]) a' w) (XZy l qs) a
theorem XJH{l:List Oper}{k:Nat}{o:Oper}(h:l.toArray[k]?=some o)(ks:List Nat):XZy l (k :: ks)=o :: XZy l ks:=by
 have h':l[k]?=some o:=by simpa using h
 simp[XZy,h']
end
section
variable {P:Program} {l:List Oper} {Q:Exit->Act->World->Prop} {md:Region.Mode} {S:World->Prop} {z:Nat}
theorem XIs{o:Oper}{a:Act}{v:Value}{ops:Array Oper}(hq:QK6 o=true)(hw:Region.wanted o (yielded ops a.tmps)=true)(h:∀w,S w->o.quietAt P a S w v):YieldsIf P ops S o v a:=by
 refine .inl ⟨hw,λw hS=>?_⟩;have h1:=h w hS;unfold Oper.quietAt at h1;cases hr:(execOp a.eval o).run P w with
 | halt x w'=>rw[hr]at h1;exact h1.elim
 | ok n w'=>
  obtain⟨u,rfl⟩:=Y9U hq hr;rw[hr]at h1;obtain⟨rfl,rfl⟩:=h1;rfl
theorem QNc(hsel:Region.noSelect l.toArray=true)(hQ:∀c a b w,Q (.panic c) b w->Q (.panic c) a w)(hz:Xzl md l.toArray z=true){w:World}(hS:S w){K:Act->Prop}{R:List (Bool×Nat)}{f:Nat}
  (hK:∀listed a,Jrg md l.toArray z R listed=true->ZVQ md l.toArray listed->K a->Vnh P md l.toArray Q S z f listed a w):
  ∀(qs:List Nat) (listed:Array Bool) (a:Act),Jrg md l.toArray z (qs.map (λk=>(false,k))++R) listed=true->ZVQ md l.toArray listed->wpQuiet P l.toArray S K (XZy l qs) a →
   Vnh P md l.toArray Q S z (qs.length+f) listed a w
 | [],listed,a,hB,hc,h=>by simpa using hK listed a hB hc h
 | k :: qs,listed,a,hB,hc,h=>by
  simp only[ξz,List.cons_append,Jrg,ζd]at hB;obtain⟨⟨⟨hr,hf⟩,hq⟩,hB'⟩:=hB;cases ho:l.toArray[k]? with
  | none=>rw[ho]at hq;cases hq
  | some o=>
   rw[ho]at hq;have hq:QK6 o=true:=hq;have hr':k∈Region.ready md l.toArray listed:=by simpa using hr
   rw[XJH ho]at h;simp only[wpQuiet]at h
   have hy:∃v,YieldsIf P l.toArray S o v a/\wpQuiet P l.toArray S K (XZy l qs) (a.put o.dst v):=by
    split at h
    ·rename_i hw;obtain⟨v,h1,h2⟩:=h;exact⟨v,XIs hq hw h1,h2⟩
    ·rename_i hw;exact⟨undef,.inr ⟨by simpa using hw,rfl⟩,h⟩
   obtain⟨v,hy,hK'⟩:=hy;have hlen:(k :: qs).length+f=(qs.length+f)+1:=by simp;omega
   rw[hlen];exact JDV ho (Region.noSelect_spec hsel) (λc a w h=>hQ c a _ w h) hz _ listed a w hc (Region.free_spec ho hf) hr' hy hS (QNc hsel hQ hz hS hK qs _ _ hB' (hc.set hr') hK')
theorem X8H{ops:Array Oper}{k:Nat}{N K:Act->World->Prop}{a:Act}{w:World}{o:Oper}(ho:ops[k]?=some o)(hN:∀a w,N a w->K a w)
  (h:wpList P ops (Exit.then N Q) [o] a w):wpOp P ops Q k K a w:=by
 unfold wpOp;simp only[ho];simp only[wpList,Exit.then]at h
 split
 ·rename_i hw;rw[χ hw]at h;rcases h with h|⟨h1,h2⟩
  ·refine .inl ?_;unfold Oper.wp at *
   generalize (execOp a.eval o).run P w=r at *
   cases r with
   | ok n w'=>
    cases n <;> simp only[Oper.upon]at h⊢
    case value u=>exact hN _ _ h
    case skip=>exact hN _ _ h
    case defer d=>exact hN _ _ h
    case enter f args=>
     refine Calls.mono h λe w'' he=>?_;cases e with
     | returned u=>exact hN _ _ he
     | panicked c=>exact he
     | outgrown=>exact he
    case row row args=>exact Rows.mono h λu w'' he=>hN _ _ he
   | halt x w'=>cases x <;> simp only[Oper.upon]at h⊢;exact h
  ·exact .inr ⟨h1,h2⟩
 ·rename_i hw;rw[ν hw]at h;exact hN _ _ h
theorem YPT(hsel:Region.noSelect l.toArray=true)(hQ:∀c a b w,Q (.panic c) b w->Q (.panic c) a w)(hz:Xzl md l.toArray z=true):
  ∀(segs:List (List Nat×Nat)) (fin:List Nat) (listed:Array Bool) (a:Act) (w:World),Jrg md l.toArray z (XA5 segs fin) listed=true->ZVQ md l.toArray listed->(S w\/XA5 segs fin=[])->ZxC P l S z Q segs fin a w →
   Vnh P md l.toArray Q S z (XA5 segs fin).length listed a w
 | [],fin,listed,a,w,hB,hc,hS,h=>by
  rcases hS with hS|hS
  ·have:=QNc (R:=[]) (f:=0) (K:=λa'=>Q .normal a' w) hsel hQ hz hS (λlisted a hB _ h=>⟨by simpa[Jrg]using hB,h⟩) fin listed a (by simpa[XA5]using hB) hc h;simpa[XA5]using this
  ·have hf:fin=[]:=by simpa[XA5]using hS
   subst hf;exact⟨by simpa[XA5,Jrg]using hB,h⟩
 | (qs,k) :: r,fin,listed,a,w,hB,hc,hS,h=>by
  have hS:S w:=hS.resolve_right (by simp[XA5]);have hlen:(XA5 ((qs,k) :: r) fin).length=qs.length+((XA5 r fin).length+1):=by simp[XA5]
  rw[hlen];refine QNc hsel hQ hz hS (λlisted a hB hc h=>?_) qs listed a (by simpa[XA5]using hB) hc h;simp only[Jrg,ζd,ζq]at hB;obtain⟨⟨hr,hkz⟩,hB'⟩:=hB;have hkr:k∈Region.ready md l.toArray listed:=by rw[hr];simp
  refine⟨λh0=>(by rw[hr]at h0;cases h0),λi hi=>?_⟩;rw[hr]at hi;obtain rfl:i=k:=by simpa using hi
  obtain⟨_,o,ho,_⟩:=mem_ready.1 hkr;rw[XJH ho]at h;refine X8H ho (λa2 w2 h2=>⟨h2.1,YPT hsel hQ hz r fin _ a2 w2 hB' (hc.set hkr) ?_ h2.2⟩) h;rcases h2.1 with h3|h3
  ·right;subst h3;simpa using hkz
  ·exact .inl h3
theorem ZgW{id:Nat}{a:Act}{w:World}(S:World->Prop)(z:Nat)(segs:List (List Nat×Nat))(fin:List Nat)(hm:P.follows .mixedOrders=true)
  (hB:(Region.noSelect l.toArray&&Xzl .any l.toArray z&&Jrg .any l.toArray z (XA5 segs fin) (Array.replicate l.toArray.size false)&&(XA5 segs fin).length==l.toArray.size)=true) (hS:S w.drew)
  (h:ZxC P l S z (NoPanic Q) segs fin a w.drew):(Code.region id l.toArray true).wp P Q a w:=by
 simp only[ζd,ζu]at hB;obtain⟨⟨⟨hsel,hz⟩,hB⟩,hlen⟩:=hB;refine wp_region_noPanic (wp_region_any hm ?_);have:=YPT (P:=P) (Q:=NoPanic Q) (md:=.any) hsel (λc a b w h=>h) hz segs fin _ a w.drew hB (ZVQ.none .any l.toArray) (.inl hS) h;rw[hlen]at this;exact Zmi _ _ _ _ this
theorem XGW{qs:List Nat}{k:Nat}{r:List (List Nat×Nat)}{fin:List Nat}{a:Act}{w:World}
  (h:wpQuiet P l.toArray S (λa'=>wpList P l.toArray (Exit.then (λa2 w2=>(k=z\/S w2)/\ZxC P l S z Q r fin a2 w2) Q) (XZy l [k]) a' w) (XZy l qs) a):ZxC P l S z Q ((qs,k) :: r) fin a w:=h
theorem Z9U{fin:List Nat}{a:Act}{w:World}(h:wpQuiet P l.toArray S (λa'=>Q .normal a' w) (XZy l fin) a):ZxC P l S z Q [] fin a w:=h
structure ZJV(S:World->Prop) where
 w:World
 h:S w
theorem ZJV.get{S T:World->Prop}(h:S=T)(p:ZJV S):T p.w:=h▸p.h
theorem ZJV.of{S:World->Prop}{w:World}(h:S w):∃p:ZJV S,w=p.w:=⟨⟨w,h⟩,rfl⟩
theorem Vv2{id:Nat}{a:Act}{w:World}(S:World->Prop)(z:Nat)(segs:List (List Nat×Nat))(fin:List Nat)(hm:P.follows .mixedOrders=true)
  (hB:(Region.noSelect l.toArray&&Xzl .any l.toArray z&&Jrg .any l.toArray z (XA5 segs fin) (Array.replicate l.toArray.size false)&&(XA5 segs fin).length==l.toArray.size)=true) (hS:S w.drew)
  (h:ZxC P l (λw'=>∃p:ZJV S,w'=p.w) z (NoPanic Q) segs fin a w.drew):(Code.region id l.toArray true).wp P Q a w:=
 ZgW (λw'=>∃p:ZJV S,w'=p.w) z segs fin hm hB (ZJV.of hS) h
end
end
end
section
section
open Go.RowKit
section
variable {F:Fence} {n:Nat} {P:Program} {ops:Array Oper} {Q:Exit->Act->World->Prop} {md:Region.Mode} {S:World->Prop}
end
section
variable {F:Fence} {n:Nat} {P:Program} {l:List Oper} {Q:Exit->Act->World->Prop} {md:Region.Mode} {S:World->Prop} {z:Nat}
end
end
end
section
section
open Go.RowKit
theorem ZIq{w w':World}{base E size:Nat}{v:Value}{n:Nat}{xs:List Value}(h:w.ownsRow base E size v n xs)(hb:∀g,v.ownBlock=some g->w'.heap[g]?=w.heap[g]?):w'.ownsRow base E size v n xs:=by
 obtain⟨h1,h2|⟨g,cap,cur,e1,e2,e3,e4,e5,e6,e7⟩⟩:=h
 ·exact⟨h1,.inl h2⟩
 ·exact⟨h1,.inr ⟨g,cap,cur,e1,e2,by rw[hb g (by rw[e1];rfl)];exact e3,e4,e5,e6,e7⟩⟩
theorem Vvr{w:World}{base E size:Nat}{v:Value}{n:Nat}{xs:List Value}(h:w.ownsRow base E size v n xs){g:Nat}(hg:v.ownBlock=some g):base<=g/\g<w.heap.size:=by
 obtain⟨h1,⟨rfl,_⟩|⟨g',cap,cur,e1,e2,e3,e4,e5,e6,e7⟩⟩:=h
 ·cases hg
 ·rw[e1]at hg;obtain rfl:g'=g:=Option.some.inj hg;refine⟨e2,?_⟩;rcases ζj g' w.heap.size with h|h
  ·exact h
  ·rw[ξe h]at e3;cases e3
theorem Zs2{S:Nat->Prop}{w w':World}{base E size:Nat}{v:Value}{n:Nat}{xs:List Value}(h:w.ownsRow base E size v n xs)(t:XF4 S w w')(hS:∀g,v.ownBlock=some g->¬S g):w'.ownsRow base E size v n xs:=
 ZIq h (λg hg=>t.block g (Vvr h hg).2 (hS g hg))
theorem Y9I{w w':World}{base E size:Nat}{v:Value}{n:Nat}{xs:List Value}(h:w.ownsRow base E size v n xs)(t:Gr w w'):w'.ownsRow base E size v n xs:=
 Zs2 h (t.touch (λ_=>False)) (λ_ _ h=>h)
theorem Vm9(w:World)(base E size:Nat):w.ownsRow base E size (.slice none 0 0) 0 []:=⟨by simp,.inl ⟨rfl,rfl⟩⟩
theorem XAn{w:World}{base E size:Nat}{g n c:Nat}{xs:List Value}(h:w.ownsRow base E size (.slice (some ⟨g,0,none⟩) n c) n xs){j:Nat}{u:Value}(hj:xs[j]?=some u):
  w.cell? ⟨g,j,none⟩=some u:=by
 obtain⟨h1,⟨h,_⟩|⟨g',cap,cur,e1,e2,e3,e4,e5,e6,e7⟩⟩:=h
 ·cases h
 ·simp only[Value.slice.injEq,Option.some.injEq,Addr.mk.injEq,and_true,true_and]at e1;obtain⟨rfl,rfl⟩:=e1;unfold World.cell?;simp only[e3]
  have hlt:j<xs.length:=by
   rcases ζj j xs.length with h|h
   ·exact h
   ·rw[ζO h]at hj;cases hj
  have:cur[j]?=xs[j]?:=by rw[<-e7,List.getElem?_take,χ Ω,Array.getElem?_toList]
  rw[ν (by simp),this,hj]
theorem QxS{w:World}{base E size:Nat}{g n c:Nat}{xs:List Value}(h:w.ownsRow base E size (.slice (some ⟨g,0,none⟩) n c) n xs)(j:Nat):w.frozen? ⟨g,j,none⟩=false:=by
 obtain⟨h1,⟨h,_⟩|⟨g',cap,cur,e1,e2,e3,e4,e5,e6,e7⟩⟩:=h
 ·cases h
 ·simp only[Value.slice.injEq,Option.some.injEq,Addr.mk.injEq,and_true,true_and]at e1;obtain⟨rfl,rfl⟩:=e1;unfold World.frozen?;simp only[e3];simp
theorem YTP{w:World}{base E size:Nat}{v:Value}{n:Nat}{xs:List Value}(h:w.ownsRow base E size v n xs)(hn:n≠0):∃g c,v=.slice (some ⟨g,0,none⟩) n c/\base<=g/\n<=c/\c<=maxLen/\g<w.heap.size:=by
 have h':=h;obtain⟨_,⟨_,h⟩|⟨g,c,cur,e1,e2,e3,e4,e5,_⟩⟩:=h
 ·exact absurd h hn
 ·exact⟨g,c,e1,e2,e4,e5,(Vvr h' (by rw[e1];rfl)).2⟩
theorem VxQ{w w':World}{row:Option Nat}(h:w.grownBy w' row)(S:Nat->Prop)(hS:∀k,row=some k->k<w.heap.size->S k):XF4 S w w':=
 ⟨h.os,h.tape,h.output,h.size,λk hk hn=>h.block k hk (λe=>hn (hS k e.symm hk))⟩
end
end
end
section
section
namespace Word
def cnt(f:Nat->Bool)(n:Nat):Nat:=(List.range n).countP f
theorem Z10(f:Nat->Bool)(n:Nat):cnt f (n+1)=cnt f n+(f n).toNat:=by
 unfold cnt;rw[List.range_succ,List.countP_append];cases h:f n <;> simp[h]
theorem VMy{f:Nat->Bool}{n:Nat}(h:cnt f n=0):∀i,i<n->f i=false:=by
 induction n with
 | zero=>intro i hi;omega
 | succ n ih=>
  rw[Z10]at h;intro i hi;by_cases e:i=n
  ·subst e;cases hf:f i with
   | false=>rfl
   | true=>rw[hf]at h;simp at h
  ·exact ih Ω i Ω
def rep(m:Nat):Nat->Nat
 | 0=>0
 | k+1=>m+256*rep m k
end Word
end
section
namespace Word
def JyK(f:Nat->Bool):Nat->Int
 | 0=>-1
 | n+1=>if f n then n else JyK f n
theorem YAO(f:Nat->Bool)(n:Nat):-1<=JyK f n/\JyK f n<n:=by
 induction n with
 | zero=>simp[JyK]
 | succ n ih=>unfold JyK;split <;> omega
theorem X6C(f:Nat->Bool)(n:Nat):∀i:Nat,JyK f n<i->i<n->f i=false:=by
 induction n with
 | zero=>intro i _ hi;omega
 | succ n ih=>
  intro i h hi;unfold JyK at h
  split at h
  ·omega
  ·rename_i hf;by_cases e:i<n
   ·exact ih i h e
   ·obtain rfl:i=n:=Ω
    simpa using hf
theorem Y1s(f:Nat->Bool)(n:Nat)(h:0<=JyK f n):f (JyK f n).toNat=true:=by
 induction n with
 | zero=>simp[JyK]at h
 | succ n ih=>
  unfold JyK at h⊢
  split
  ·simpa using ‹f n=true›
  ·rename_i hf;rw[ν hf]at h;exact ih h
theorem VPe{f:Nat->Bool}{n:Nat}{k:Int}(hk:-1<=k)(hkn:k<n)(hn:∀i:Nat,k<i->i<n->f i=false)(ha:0<=k->f k.toNat=true):JyK f n=k:=by
 have h1:=YAO f n;have h2:=X6C f n;have h3:=Y1s f n;by_cases e:JyK f n=k
 ·exact e
 ·by_cases h:JyK f n<k
  ·have:=h2 k.toNat Ω Ω;rw[ha Ω]at this;cases this
  ·have:=hn (JyK f n).toNat Ω Ω;rw[h3 Ω]at this;cases this
theorem Yif{x:Nat}(hx:x<2 ^ 64)(h:∀i,i<64->x.testBit i=false):x=0:=by
 apply ξP;intro i;by_cases hi:i<64
 ·rw[h i hi];simp
 ·rw[Nat.testBit_lt_two_pow (ζa hx (Nat.pow_le_pow_right (by decide) Ω))];simp
def len(x:Nat):Int:=JyK x.testBit 64+1
theorem Y6K(x:Nat):0<=len x/\len x<=64:=by unfold len;have:=YAO x.testBit 64;omega
theorem Jm1{x j:Nat}(hx:x<2 ^ 64)(h:2 ^ j<=x):len x=j+len (x/2 ^ j):=by
 have hq:1<=x/2 ^ j:=(Nat.le_div_iff_mul_le (Nat.two_pow_pos j)).2 Ω;have hq2:x/2 ^ j<2 ^ 64:=ζz (ζ5 _ _) hx
 have tb:∀i,(x/2 ^ j).testBit i=x.testBit (i+j):=λi=>by
  rw[Nat.testBit_div_two_pow]
 have b:=YAO (x/2 ^ j).testBit 64;have nn:=X6C (x/2 ^ j).testBit 64;have at_:=Y1s (x/2 ^ j).testBit 64
 have h0:0<=JyK (x/2 ^ j).testBit 64:=by
  rcases Int.lt_or_le (JyK (x/2 ^ j).testBit 64) 0 with h|h
  ·have:=Yif hq2 (λi hi=>nn i Ω hi);omega
  ·exact h
 have hat:=at_ h0;unfold len;generalize JyK (x/2 ^ j).testBit 64=L at *
 have high:∀i,64<=i->x.testBit i=false:=λi hi=>Nat.testBit_lt_two_pow (ζa hx (Nat.pow_le_pow_right (by decide) hi));rw[tb]at hat
 have hlt:L.toNat+j<64:=by
  rcases ζj (L.toNat+j) 64 with h|h
  ·exact h
  ·rw[high _ h]at hat;cases hat
 have:JyK x.testBit 64=L+j:=by
  refine VPe Ω Ω (λi hi hi2=>?_) (λ_=>?_)
  ·have:=nn (i-j) Ω Ω;rw[tb]at this
   rwa [show i-j+j=i by omega]at this
  ·rwa [show (L+(j:Int)).toNat=L.toNat+j by omega]
 rw[this];omega
end Word
end
section
namespace Word
end Word
end
section
namespace Word
end Word
end
section
namespace Word
end Word
end
end
section
section
section
open Go.RowKit Word
theorem ZzN{k:IntKind}{a b:Int}(h:a=b):Ending.returned (.int k a)=.returned (.int k b):=by rw[h]
theorem Jp7(a b:Nat)(ha:a<18446744073709551616)(hb:b<18446744073709551616):bits .and .u64 (a:Int) (b:Int)=((a &&& b:Nat):Int):=bits_and_u64_nat a b ha hb
theorem Xm9(s:ByteArray)(v:Nat)(h:v<s.size)(hs:s.data.toList.map (λc=>(c.toNat:Int))=(List.range 256).map (λi=>len i)):((s[v]'h).toNat:Int)=len v:=by
 have h1:(s.data.toList.map (λc=>(c.toNat:Int)))[v]?=some ((s[v]'h).toNat:Int):=by
  rw[ζr,μ (show v<s.data.toList.length from h)];rfl
 have hl:s.data.toList.length=256:=by have:=congrArg List.length hs;simpa using this
 have hv:v<256:=by rw[<-hl];exact h
 rw[hs,ζr,List.getElem?_range hv]at h1;simpa using h1.symm
def XkC(x y:Nat)(n:Int)(k:Nat):Prop:=y<2 ^ k/\len x=n+len y/\0<=n/\n+k<=64
theorem VGE{x y:Nat}{n:Int}{k j:Nat}(h:XkC x y n k)(hk:k<=64)(hy:2 ^ j<=y)(hj2:k=2*j):XkC x (y/2 ^ j) (n+j) j:=by
 obtain⟨h1,h2,h3,h4⟩:=h;refine⟨?_,?_,?_,?_⟩
 ·refine(ζm (Nat.two_pow_pos j)).2 (ζa h1 ?_);rw[<-Nat.pow_add];exact Nat.pow_le_pow_right (by decide) Ω
 ·rw[h2,Jm1 (ζa h1 (Nat.pow_le_pow_right (by decide) hk)) hy];omega
 ·omega
 ·omega
theorem Vv0{x y:Nat}{n:Int}{k j:Nat}(h:XkC x y n k)(hj:j<=k)(hy:¬2 ^ j<=y):XkC x y n j:=by
 obtain⟨h1,h2,h3,h4⟩:=h;exact⟨by omega,h2,h3,by omega⟩
theorem Z4f(x:Nat)(hx:x<18446744073709551616)(w:World):
  Calls prog 83 #[.int .u64 (x:Nat)] w λe w'=>e=.returned (.int .i64 (len x))/\w=w':=by
 have hx':XkC x x 0 64:=⟨hx,by omega,by omega,by omega⟩;clear hx;go_enter func83,ntmps83;go_upto_if 4 with(fail);go_cut [0,2]from 3 (λa b w'=>w'=w/\∃(y:Nat) (n:Int),XkC x y n 32/\a=.int .u64 y/\b=.int .i64 n)
 case first=>
  rcases ζj x (2 ^ 32)with h|h
  ·have L:=Vv0 hx' (show 32<=64 by decide) Ω;have hd:decide ((4294967296:Int)<=(x:Int))=false:=by simp;omega
   clear h hx';rw[hd];go_wp2
   go_meet
   case rel=>exact⟨rfl,x,0,L,rfl,rfl⟩
  ·have L:=VGE (j:=32) hx' (by decide) h (by rfl);have hd:decide ((4294967296:Int)<=(x:Int))=true:=by simp;omega
   clear h hx';rw[hd];go_wp2
   go_meet
   case rel=>exact⟨rfl,_,_,L,by simp,by simp⟩
 case rest=>
  obtain⟨rfl,y,n,hy,rfl,rfl⟩:=hcut;go_upto_if 8 with(fail);go_cut [0,2]from 3 (λa b w'=>w'=wc/\∃(y:Nat) (n:Int),XkC x y n 16/\a=.int .u64 y/\b=.int .i64 n)
  case first=>
   rcases ζj y (2 ^ 16)with h|h
   ·have L:=Vv0 hy (show 16<=32 by decide) Ω;have hd:decide ((65536:Int)<=(y:Int))=false:=by simp;omega
    clear h hy;rw[hd];go_wp2
    go_meet
    case rel=>exact⟨rfl,_,_,L,rfl,rfl⟩
   ·have L:=VGE (j:=16) hy (by decide) h (by rfl);have hd:decide ((65536:Int)<=(y:Int))=true:=by simp;omega
    have hb:=hy.2.2;clear h hy;rw[hd];go_wp2
    go_meet
    case rel=>exact⟨rfl,_,_,L,by simp,by simp⟩
  case rest=>
   obtain⟨rfl,z,n2,hz,rfl,rfl⟩:=hcut;go_upto_if 14 with(fail);go_cut [0,2]from 3 (λa b w'=>w'=wc/\∃(y:Nat) (n:Int),XkC x y n 8/\a=.int .u64 y/\b=.int .i64 n)
   case first=>
    rcases ζj z (2 ^ 8)with h|h
    ·have L:=Vv0 hz (show 8<=16 by decide) Ω;have hd:decide ((256:Int)<=(z:Int))=false:=by simp;omega
     clear h hz;rw[hd];go_wp2
     go_meet
     case rel=>exact⟨rfl,_,_,L,rfl,rfl⟩
    ·have L:=VGE (j:=8) hz (by decide) h (by rfl);have hd:decide ((256:Int)<=(z:Int))=true:=by simp;omega
     have hb:=hz.2.2;clear h hz;rw[hd];go_wp2
     go_meet
     case rel=>exact⟨rfl,_,_,L,by simp,by simp⟩
   case rest=>
    obtain⟨rfl,v,n3,hv,rfl,rfl⟩:=hcut;have hb:=hv.2.2;have hv1:(v:Int)<256:=by have:=hv.1;omega
    go_wp2;go_ret;refine⟨ZzN ?_,rfl⟩;rw[Xm9 _ v _ (by decide +kernel)];have b:=Y6K v;rw[IntWalk.wrap64_in (len v) Ω,IntWalk.wrap64_in _ Ω];have:=hv.2.1;omega
end
end
section
section
open Go.RowKit Word
end
end
section
section
open Go.ChangeShapes Go.WideShapes Go.ChangeAt Go.RowKit Word
theorem own:ownKnob prog.godebug=none:=by kernel_rfl
theorem Z6L:laidOutB prog=true:=by kernel_rfl
section
variable {H:Type} {enc:TypeId × Value->H} {P:Program} {W W':World}
theorem YpW(hl:laidOutB P=true):∀{ts:List TypeId} {vs:List Value} {ds:List (DataW H)} {ps:List MemPlace},(∀t∈ts,P.readableRec t=true/\t<P.types.size) →
  DataW.TrodAll enc P W 0 (λ_=>true) true ts vs ds ps->Below W.heap.size W W'->(∀x∈ps,x.block<W.heap.size)->DataW.TrodAll enc P W' 0 (λb=>decide (b<W.heap.size)) true ts vs ds ps
 | [],[],[],_,_,h,_,_=>h
 | _ :: _,_ :: _,_ :: _,_,ht,⟨p,q,h1,h2,e⟩,hb,hp=>
  ⟨p,q,Below.trod hl (ht _ (ξi.2 (.inl rfl))).1 (ht _ (ξi.2 (.inl rfl))).2 h1 hb (λx hx=>hp x (by rw[e];exact ξS _ hx)),
   YpW hl (λt h=>ht t (ξi.2 (.inr h))) h2 hb (λx hx=>hp x (by rw[e];exact List.mem_append_right _ hx)),e⟩
end
theorem Zfn{H:Type}{enc:TypeId×Value->H}{f:Func}{s:ChangeSpec}{W W':World}{args:Array Value}{ds gs:List (DataW H)}{before:List MemPlace}
  (hW:DataW.Whole enc prog f.params.toList s.vars false W args.toList ds gs before) (hv:s.vars=[]) (hr:f.resultTypes=#[4]) (hp:∀t∈f.params.toList,prog.readableRec t=true/\t<prog.types.size)
  (hs:s.fn H (ds++gs)={results:=[.lit (.bool true)],args:=ds}) (hg:Gr W W'):s.post enc prog f false true false false W args (.bool true) W':=by
 have hlt:=hW.lt;have hW0:=hW;obtain⟨p,q,hA,hV,rfl,_,_⟩:=hW;have hb:Below W.heap.size W W':=(hg.touch (λ_=>False)).below (ζe _) (λ_ _ h=>h);rw[hv]at hV
 obtain⟨rfl,rfl⟩:gs=[]/\q=[]:=by
  cases gs with
  | nil=>exact⟨rfl,hV⟩
  | cons g r=>exact absurd hV (by intro h;cases h)
 refine⟨ds,[],p++[],[],p,[],hW0,?_,?_,?_,hb.frame _,λh=>by cases h⟩
 ·rw[hs,hr];exact trodAll_mk1 (shut_bool underlying4 true)
 ·rw[hs];exact YpW Z6L hp hA hb (λx hx=>hlt x (ξS _ hx))
 ·rw[hs,hv];rfl
theorem QvD{w:World}{a:Addr}{v:Value}(h:w.cell? a=some v):a.spot=none:=by
 unfold World.cell? at h
 split at h
 ·cases hs:a.spot with
  | none=>rfl
  | some x=>rw[hs]at h;simp at h
 ·cases h
theorem VEB{w:World}{a:Addr}{v:Value}(h:w.cell? a=some v):a.block<w.heap.size:=by
 unfold World.cell? at h;rcases ζj a.block w.heap.size with h1|h1
 ·exact h1
 ·rw[ξe h1]at h;cases h
theorem Js4{α:Type}(R:Nat->α->Prop):∀n,(∀i,i<n->∃x,R i x)->∃l:List α,l.length=n/\∀i (h:i<l.length),R i l[i]
 | 0,_=>⟨[],rfl,λi h=>absurd h (by simp)⟩
 | n+1,h=>by
  obtain⟨l,hl,hR⟩:=Js4 R n (λi hi=>h i Ω);obtain⟨x,hx⟩:=h n Ω;refine⟨l++[x],by simp[hl],λi hi=>?_⟩;by_cases e:i<l.length
  ·rw[ζ9 e];exact hR i e
  ·have:i=n:=by simp at hi;omega
   subst this;rw[ξG Ω];simpa[hl]using hx
end
end
section
section
open Go.RowKit Word
end
end
end
section
section
section
open Go.RowKit Word
end
end
section
section
open Go.RowKit Word
end
end
section
section
open Go.RowKit Word
end
end
section
section
open Go.RowKit Word
end
end
section
section
open Go.RowKit Word
end
end
section
section
open Go.RowKit Word
end
end
section
section
open Go.RowKit Word
theorem ZiX:(prog.info? 32).map (λi=>(i.zero,i.size,i.bytes))=some (some (.int .u64 0),1,8):=by kernel_rfl
theorem JEA{w w':World}{row:Option Nat}(h:w.grownBy w' row)(S:Nat->Prop)(hS:∀k,row=some k->k<w.heap.size->S k):XF4 S w w':=
 ⟨h.os,h.tape,h.output,h.size,λk hk hn=>h.block k hk (λe=>hn (hS k e.symm hk))⟩
end
end
section
section
open Go.RowKit Word
end
end
section
section
open Go.RowKit Word
theorem Xjn(P:Program)(ts:Array TypeId)(t:TypeId)(k:IntKind)(x y:Int)(w:World):(Builtin.min_ ts t #[.int k x,.int k y]).run P w=.ok (.int k (min x y)) w:=by
 simp only[Builtin.min_,List.foldlM];simp[Y9c]
theorem V9O(P:Program)(ts:Array TypeId)(t:TypeId)(k:IntKind)(x y:Int)(w:World):(Builtin.max_ ts t #[.int k x,.int k y]).run P w=.ok (.int k (max x y)) w:=by
 simp only[Builtin.max_,List.foldlM];simp[YQd]
end
end
section
section
open Go.ChangeShapes Go.WideShapes Go.ChangeAt Go.RowKit Word
theorem JGZ{n:Int}(h:(Lit.int .i64 n).wf=true):-9223372036854775808<=n/\n<=9223372036854775807:=by
 simpa[Lit.wf,IntKind.min,IntKind.max,IntKind.signed,IntKind.bits]using h
theorem QFj(a:Addr)(i j:Nat):(a.add i).add j=a.add (i+j):=by
 obtain⟨b,o,s⟩:=a;unfold Addr.add;by_cases h1:i=0
 ·subst h1;simp
 ·by_cases h2:j=0
  ·subst h2;simp
  ·have:i+j≠0:=Ω
   simp[h1,h2,ξJ]
end
end
end
section
section
section
open Go.RowKit Word
end
end
section
section
open Word
abbrev Ob:=Nat×Nat
end
end
section
section
open Word
def over(o:Ob)(f t:Int):Int:=max 0 (min (o.1+o.2:Int) t-max (o.1:Int) f)
end
end
section
section
open Word
end
end
end
section
section
section
open Go.RowKit Word
def Rec(w:World)(q T:Nat)(xs:List Value):Prop:=w.ownsRow 0 T xs.length (.slice (some ⟨q,0,none⟩) 1 1) 1 xs
theorem Rec.cell{w:World}{q T:Nat}{xs:List Value}(h:Rec w q T xs){j:Nat}{u:Value}(hj:xs[j]?=some u):w.cell? ⟨q,j,none⟩=some u:=XAn h hj
theorem Rec.free{w:World}{q T:Nat}{xs:List Value}(h:Rec w q T xs)(j:Nat):w.frozen? ⟨q,j,none⟩=false:=QxS h j
theorem Rec.lt{w:World}{q T:Nat}{xs:List Value}(h:Rec w q T xs):q<w.heap.size:=(Vvr h rfl).2
theorem Rec.new(w:World)(T:Nat)(xs:List Value):Rec (w.alloc (.cells xs.toArray T)) w.heap.size T xs:=by
 have:=World.ownsRow_lit (base:=0) (e:=T) (size:=xs.length) w xs.toArray 1 (ζb _) (by unfold maxLen;omega) (by simp);exact this
theorem Rec.set{w:World}{q T:Nat}{xs:List Value}(h:Rec w q T xs)(j:Nat)(u:Value):Rec (w.setCell ⟨q,j,none⟩ u) q T (xs.set j u):=by
 have:=(World.ownsRow.stored h j u).1;unfold Rec;rw[ζf];exact this
theorem Rec.touch{S:Nat->Prop}{w w':World}{q T:Nat}{xs:List Value}(h:Rec w q T xs)(t:XF4 S w w')(hS:¬S q):Rec w' q T xs:=Zs2 h t (λg hg=>by cases hg;exact hS)
theorem Rec.gr{w w':World}{q T:Nat}{xs:List Value}(h:Rec w q T xs)(t:Gr w w'):Rec w' q T xs:=Y9I h t
theorem QiW{w:World}{base E size:Nat}{v:Value}{n:Nat}{xs:List Value}(h:w.ownsRow base E size v n xs){g:Nat}(hg:v.ownBlock=some g):∃cur,w.heap[g]?=some (.cells cur E (0,0)):=by
 obtain⟨_,⟨rfl,_⟩|⟨g',cap,cur,rfl,_,h3,_⟩⟩:=h
 ·cases hg
 ·cases hg;exact⟨cur,h3⟩
theorem YnK{w:World}{b1 b2 E1 E2 s1 s2:Nat}{v1 v2:Value}{n1 n2:Nat}{xs1 xs2:List Value}(h1:w.ownsRow b1 E1 s1 v1 n1 xs1)(h2:w.ownsRow b2 E2 s2 v2 n2 xs2)(he:E1≠E2){g1 g2:Nat}(hg1:v1.ownBlock=some g1)(hg2:v2.ownBlock=some g2):g1≠g2:=by
 intro e;subst e;obtain⟨c1,e1⟩:=QiW h1 hg1;obtain⟨c2,e2⟩:=QiW h2 hg2;rw[e1]at e2;simp only[Option.some.injEq,Obj.cells.injEq]at e2;exact he e2.2.1
theorem ZfN{w:World}{base E size:Nat}{v:Value}{n:Nat}{xs:List Value}(h:w.ownsRow base E size v n xs):∃A c,v=.slice A n c/\n<=c/\c<=maxLen:=by
 obtain⟨_,⟨rfl,rfl⟩|⟨g',cap,cur,rfl,_,_,h4,h5,_⟩⟩:=h
 ·exact⟨none,0,rfl,ζe _,ζb _⟩
 ·exact⟨_,_,rfl,h4,h5⟩
theorem VDR{w:World}{base E size:Nat}{v:Value}{n:Nat}{xs:List Value}(h:w.ownsRow base E size v n xs){q j:Nat}(u:Value)(hq:∀g,v.ownBlock=some g->g≠q):(w.setCell ⟨q,j,none⟩ u).ownsRow base E size v n xs:=
 ZIq h (λg hg=>Below.heap_setCell _ _ _ _ (hq g hg))
end
end
section
section
open Go.RowKit
section
variable {P:Program} (w:World)
end
end
end
section
section
open Go.RowKit Word
structure Pl where
 pg:Nat
 rm:Nat
 tk:List Bool
 bk:List Nat
 wd:List Nat
def VVO(S:Nat->Prop)(w:World)(k:Nat):Prop:=S k\/w.heap.size<=k
section
variable {w:World} {S:Nat->Prop} {q:Nat} {p:Pl}
end
end
end
section
section
open Go.RowKit Word
theorem YWy:(prog.info? 3).map (λi=>(i.zero,i.size,i.bytes))=some (some (.int .i64 0),1,8):=by kernel_rfl
section
variable {w:World} {S:Nat->Prop} {q:Nat} {p:Pl}
end
end
end
end
section
section
section
open Go.RowKit Word
section
variable {w:World} {S:Nat->Prop} {q:Nat} {pt:List Nat}
end
end
end
section
section
open Go.RowKit Word
section
variable {w:World} {S:Nat->Prop} {q:Nat} {pt:List Nat}
end
end
end
section
section
open Go.RowKit Word
section
variable {w:World} {S:Nat->Prop} {q:Nat} {pt:List Nat}
end
end
end
section
section
open Go.RowKit Word
section
variable {w:World} {S:Nat->Prop} {q:Nat} {pt:List Nat}
theorem XZg{w:World}{base E size:Nat}{v:Value}{n:Nat}{xs:List Value}(h:w.ownsRow base E size v n xs):w.ownsRow 0 E size v n xs:=by
 obtain⟨h1,h|⟨g,c,cur,e1,e2,h⟩⟩:=h
 ·exact⟨h1,.inl h⟩
 ·exact⟨h1,.inr ⟨g,c,cur,e1,ζb _,h⟩⟩
end
end
end
end
section
section
section
open Go.RowKit Word
structure Vm where
 n:Nat
 pl:Pl
 pt:List Nat
section
variable {w:World} {S:Nat->Prop} {q:Nat} {v:Vm}
end
end
end
section
section
open Go.RowKit Word
end
end
section
section
open Go.RowKit Word
section
variable {w:World} {S:Nat->Prop} {q:Nat} {v:Vm}
end
end
end
section
section
open Go.RowKit Word
end
end
section
section
open Go.RowKit Word
section
variable {w:World} {S:Nat->Prop} {q:Nat} {v:Vm}
end
end
end
section
section
open Go.RowKit Word
section
variable {w:World} {S:Nat->Prop} {q:Nat} {v:Vm}
end
end
end
end
section
section
section
open Go.RowKit Word
structure Hdr where
 p:Int
 f:Int
 k:Int
def X79(h:Hdr):Value:=.agg #[.int .i64 h.p,.int .i64 h.f,.int .i64 h.k]
def inS(x:Int):Bool:=decide (0<=x/\x<256)
def JQC(h:Hdr):Int:=if inS h.p&&inS h.f&&inS h.k&&decide (h.p+h.f+h.k<256)then 0 else 15
def Z3o(h:Hdr):Int:=if JQC h=0 then 1+h.p+h.f+h.k else 0
theorem VPd(x:Int):(decide (x<0)=true/\inS x=false)\/(decide (x<0)=false/\decide (256<=x)=true/\inS x=false)\/(decide (x<0)=false/\decide (256<=x)=false/\inS x=true):=by
 unfold inS;by_cases h0:x<0
 ·exact .inl ⟨υ h0,π Ω⟩
 ·by_cases h1:256<=x
  ·exact .inr (.inl ⟨π h0,υ h1,π Ω⟩)
  ·exact .inr (.inr ⟨π h0,π h1,υ Ω⟩)
theorem XZe{h:Hdr}(he:JQC h=0):∃a b c:Nat,h=⟨a,b,c⟩/\a+b+c<=255:=by
 unfold JQC inS at he
 split at he
 ·rename_i hh;simp only[ζd,ζq]at hh;obtain⟨p,f,k⟩:=h;simp only at hh;exact⟨p.toNat,f.toNat,k.toNat,by congr <;> omega,by omega⟩
 ·cases he
theorem JJj{a b c:Nat}(h:a+b+c<=255):JQC ⟨a,b,c⟩=0:=by
 unfold JQC inS;simp only[];rw[υ Ω,υ Ω,υ Ω,υ Ω];rfl
theorem Vhh(h:Hdr):JQC h=0\/JQC h=15:=by unfold JQC;split <;> simp
section
variable {w:World}
theorem Jld(h:Hdr)(w:World):Calls prog 48 #[X79 h] w λe w'=>e=.returned (.int .i64 (JQC h))/\Gr w w':=by
 obtain⟨p,f,k⟩:=h;unfold X79;simp only[];have HE:Hid (JQC ⟨p,f,k⟩=if inS p&&inS f&&inS k&&decide (p+f+k<256)then 0 else 15):=⟨rfl⟩
 have HN:∀x,x=p\/x=f\/x=k->Hid (inS x=false->JQC ⟨p,f,k⟩=15):=λx hx=>⟨λh0=>by
  rw[HE.o]
  rcases hx with rfl|rfl|rfl <;> rw[h0] <;> simp⟩
 have HY:Hid (inS p=true->inS f=true->inS k=true->JQC ⟨p,f,k⟩=if p+f+k<256 then 0 else 15):=⟨λa b c=>by
  rw[HE.o,a,b,c]
  by_cases h:p+f+k<256 <;> simp[h]⟩
 have H0:=HN p (.inl rfl);have H1:=HN f (.inr (.inl rfl));have H2:=HN k (.inr (.inr rfl));clear HN;obtain⟨E,hE⟩:∃E,E=JQC ⟨p,f,k⟩:=⟨_,rfl⟩;rw[<-hE]at H0 H1 H2 HY HE⊢;clear hE;have i0:∀W,(Instr.index 124 (.agg #[.int .i64 p,.int .i64 f,.int .i64 k]) (.int .i64 0)).run prog W=.ok (.int .i64 p) W:=λ_=>by kernel_rfl
 have i1:∀W,(Instr.index 124 (.agg #[.int .i64 p,.int .i64 f,.int .i64 k]) (.int .i64 1)).run prog W=.ok (.int .i64 f) W:=λ_=>by kernel_rfl
 have i2:∀W,(Instr.index 124 (.agg #[.int .i64 p,.int .i64 f,.int .i64 k]) (.int .i64 2)).run prog W=.ok (.int .i64 k) W:=λ_=>by kernel_rfl
 go_enter func48,ntmps48;go_wp2
 go_loop [12] (λi=>∃j:Nat,j<=3/\i=.int .i64 j/\Hid ((1<=j->inS p=true)/\(2<=j->inS f=true)/\(3<=j->inS k=true))) (λi=>3-(intOf i).toNat)
 case atStart=>exact⟨0,by omega,rfl,⟨λh=>by omega,λh=>by omega,λh=>by omega⟩⟩
 case round=>
  obtain⟨j,hj,rfl,HJ⟩:=hrel;rcases(by omega:j=0\/j=1\/j=2\/j=3)with rfl|rfl|rfl|rfl
  ·rcases VPd p with⟨p0,E1⟩|⟨p0,p1,E1⟩|⟨p0,p1,E1⟩
   ·have E1:=hid E1;go_wp2;go_ret;exact⟨ZzN (H0.o E1.o).symm,(Gr.refl w).alloc _⟩
   ·have E1:=hid E1;go_wp2;go_ret;exact⟨ZzN (H0.o E1.o).symm,(Gr.refl w).alloc _⟩
   ·have E1:=hid E1;go_wp2;go_round
    case rel=>exact⟨1,by omega,by go_num,⟨λ_=>E1.o,λh=>by omega,λh=>by omega⟩⟩
    case measure=>simp[intOf]
  ·rcases VPd f with⟨p0,E1⟩|⟨p0,p1,E1⟩|⟨p0,p1,E1⟩
   ·have E1:=hid E1;go_wp2;go_ret;exact⟨ZzN (H1.o E1.o).symm,(Gr.refl w).alloc _⟩
   ·have E1:=hid E1;go_wp2;go_ret;exact⟨ZzN (H1.o E1.o).symm,(Gr.refl w).alloc _⟩
   ·have E1:=hid E1;go_wp2;go_round
    case rel=>exact⟨2,by omega,by go_num,⟨λ_=>HJ.o.1 Ω,λ_=>E1.o,λh=>by omega⟩⟩
    case measure=>simp[intOf]
  ·rcases VPd k with⟨p0,E1⟩|⟨p0,p1,E1⟩|⟨p0,p1,E1⟩
   ·have E1:=hid E1;go_wp2;go_ret;exact⟨ZzN (H2.o E1.o).symm,(Gr.refl w).alloc _⟩
   ·have E1:=hid E1;go_wp2;go_ret;exact⟨ZzN (H2.o E1.o).symm,(Gr.refl w).alloc _⟩
   ·have E1:=hid E1;go_wp2;go_round
    case rel=>exact⟨3,by omega,by go_num,⟨λ_=>HJ.o.1 Ω,λ_=>HJ.o.2.1 Ω,λ_=>E1.o⟩⟩
    case measure=>simp[intOf]
  ·have j1:=HJ.o.1 Ω;have j2:=HJ.o.2.1 Ω;have j3:=HJ.o.2.2 Ω;have HZ:=hid (HY.o j1 j2 j3);unfold inS at j1 j2 j3;simp only[ζq]at j1 j2 j3;clear i0 i1 i2;by_cases hs:p+f+k<256
   ·have d0:decide (256<=p+f+k)=false:=π Ω;have HS:=hid hs;clear hs;go_wp2;go_ret;exact⟨ZzN (by rw[HZ.o,χ HS.o]),(Gr.refl w).alloc _⟩
   ·have d0:decide (256<=p+f+k)=true:=υ Ω;have HS:=hid hs;clear hs;go_wp2;go_ret;exact⟨ZzN (by rw[HZ.o,ν (by have:=HS.o;omega)]),(Gr.refl w).alloc _⟩
theorem ZUg(h:Hdr)(w:World):Calls prog 29 #[X79 h] w λe w'=>e=.returned (.int .i64 (Z3o h))/\Gr w w':=by
 have HC:=hid (λW=>Jld h W);rcases Vhh h with he|he
 ·obtain⟨a,b,c,rfl,hs⟩:=XZe he;have HE:=hid he;have HN:Hid (Z3o ⟨a,b,c⟩=1+(a:Int)+b+c):=⟨χ he⟩;unfold X79 at HC⊢;clear he;go_enter func29,ntmps29;go_wp2_with(go_at_call 48;refine(HC.o _).mono ?_;rintro e w1 ⟨rfl,hg1⟩;rw[HE.o];have hl:=(Gr.refl w).alloc (.cells #[.int .i64 a,.int .i64 b,.int .i64 c] 31);have k0:=(hg1.cell (b:=w.heap.size) (by simp) 0).trans (ζE _ _ _ 0 rfl);have k1:=(hg1.cell (b:=w.heap.size) (by simp) 1).trans (ζE _ _ _ 1 rfl);have k2:=(hg1.cell (b:=w.heap.size) (by simp) 2).trans (ζE _ _ _ 2 rfl);have HG1:=hid (hl.trans hg1);clear hg1 hl);go_ret;exact⟨ZzN (by rw[HN.o]),HG1.o⟩
 ·have HE:=hid he;have HN:Hid (Z3o h=0):=⟨ν (by rw[he];decide)⟩;unfold X79 at HC⊢;clear he;go_enter func29,ntmps29;go_wp2_with(go_at_call 48;refine(HC.o _).mono ?_;rintro e w1 ⟨rfl,hg1⟩;rw[HE.o];have HG1:=hid (((Gr.refl w).alloc _).trans hg1);clear hg1);go_ret;exact⟨ZzN (by rw[HN.o]),HG1.o⟩
end
end
end
section
section
open Go.RowKit Word
def Yoq(h:Hdr)(i:Int):Int:=if 0<=i/\i<Z3o h-1 then (if i<h.p then 1 else if i<h.p+h.f then 2 else 3)else 0
theorem XEA(a b i m:Nat)(hm:m=2 ^ i)(h:a<m):a ||| (b*m)=b*m+a:=by
 subst hm;rw[Nat.or_comm,<-Nat.shiftLeft_eq,Nat.shiftLeft_add_eq_or_of_lt h]
theorem JIC(W:World)(blk:Nat)(p q r:Value)(h0:W.cell? ⟨blk,0,none⟩=some p)(h1:W.cell? ⟨blk,1,none⟩=some q)(h2:W.cell? ⟨blk,2,none⟩=some r):(loadVar 31 ⟨blk,0,none⟩).run prog W=.ok (.agg #[p,q,r]) W:=by
 have a1:(isAgg 31).run prog W=.ok true W:=by kernel_rfl
 have a2:(sizeOf 31).run prog W=.ok 3 W:=by kernel_rfl
 simp[loadVar,Sem.run_bind,a1,a2,Result.andThen,loadCells,go_sem,h0,h1,h2]
theorem VNI{a b c:Nat}(hs:a+b+c<=255)(i:Int)(w:World):Calls prog 69 #[X79 ⟨a,b,c⟩,.int .i64 i] w λe w'=>e=.returned (.int .i64 (Yoq ⟨a,b,c⟩ i))/\Gr w w':=by
 have hN:Z3o ⟨a,b,c⟩=1+(a:Int)+b+c:=χ (JJj hs);have HZ:=hid (λW=>ZUg ⟨a,b,c⟩ W)
 have HK:Hid (Yoq ⟨a,b,c⟩ i=if 0<=i/\i<(a:Int)+b+c then (if i<a then 1 else if i<(a:Int)+b then 2 else 3)else 0):=⟨by
  unfold Yoq;rw[hN];simp only[];by_cases h:0<=i/\i<(a:Int)+b+c
  ·rw[χ h,χ Ω]
  ·rw[ν h,ν Ω]⟩
 rw[hN]at HZ;unfold X79 at HZ⊢;clear hN;by_cases h0:i<0
 ·have d0:decide (i<0)=true:=υ h0;have HE:Hid (Yoq ⟨a,b,c⟩ i=0):=⟨by rw[HK.o,ν Ω]⟩;clear HK;go_enter func69,ntmps69;go_wp2;go_ret;exact⟨ZzN (by rw[HE.o]),(Gr.refl w).alloc _⟩
 ·have d0:decide (i<0)=false:=π h0;by_cases h1:(a:Int)+b+c<=i
  ·have HE:Hid (Yoq ⟨a,b,c⟩ i=0):=⟨by rw[HK.o,ν Ω]⟩;have d1:decide (1+(a:Int)+b+c-1<=i)=true:=υ Ω;clear HK;go_enter func69,ntmps69;go_wp2_with(go_at_call 29;refine(HZ.o _).mono ?_;rintro e w1 ⟨rfl,hg1⟩;have HG1:=hid (((Gr.refl w).alloc _).trans hg1);clear hg1);go_ret;exact⟨ZzN (by rw[HE.o]),HG1.o⟩
  ·have d1:decide (1+(a:Int)+b+c-1<=i)=false:=π Ω;have HE:Hid (Yoq ⟨a,b,c⟩ i=if i<a then 1 else if i<(a:Int)+b then 2 else 3):=⟨by rw[HK.o,χ Ω]⟩;clear HK;by_cases h2:i<a
   ·have d2:decide (i<(a:Int))=true:=υ h2;go_enter func69,ntmps69;go_wp2_with(go_at_call 29;refine(HZ.o _).mono ?_;rintro e w1 ⟨rfl,hg1⟩;have k0:=(hg1.cell (b:=w.heap.size) (by simp) 0).trans (ζE _ _ _ 0 rfl);have k1:=(hg1.cell (b:=w.heap.size) (by simp) 1).trans (ζE _ _ _ 1 rfl);have HG1:=hid (((Gr.refl w).alloc _).trans hg1);clear hg1);go_ret;exact⟨ZzN (by rw[HE.o,χ h2]),HG1.o⟩
   ·have d2:decide (i<(a:Int))=false:=π h2;by_cases h3:i<(a:Int)+b
    ·have d3:decide (i<(a:Int)+(b:Int))=true:=υ h3;go_enter func69,ntmps69;go_wp2_with(go_at_call 29;refine(HZ.o _).mono ?_;rintro e w1 ⟨rfl,hg1⟩;have k0:=(hg1.cell (b:=w.heap.size) (by simp) 0).trans (ζE _ _ _ 0 rfl);have k1:=(hg1.cell (b:=w.heap.size) (by simp) 1).trans (ζE _ _ _ 1 rfl);have HG1:=hid (((Gr.refl w).alloc _).trans hg1);clear hg1);go_ret;exact⟨ZzN (by rw[HE.o,ν Ω,χ h3]),HG1.o⟩
    ·have d3:decide (i<(a:Int)+(b:Int))=false:=π h3;go_enter func69,ntmps69;go_wp2_with(go_at_call 29;refine(HZ.o _).mono ?_;rintro e w1 ⟨rfl,hg1⟩;have k0:=(hg1.cell (b:=w.heap.size) (by simp) 0).trans (ζE _ _ _ 0 rfl);have k1:=(hg1.cell (b:=w.heap.size) (by simp) 1).trans (ζE _ _ _ 1 rfl);have HG1:=hid (((Gr.refl w).alloc _).trans hg1);clear hg1);go_ret;exact⟨ZzN (by rw[HE.o,ν Ω,ν Ω]),HG1.o⟩
end
end
section
section
open Go.RowKit Word
structure Sp where
 T:TypeId
 rv:Value
 FL:FuncId
 P:Int->Prop
 M:Prop
 D:Nat->Prop
 I:Vm->(Nat->Prop)->World->Prop
section
variable {z:Sp} {u:Vm} {S:Nat->Prop} {w w1 w':World}
end
section
variable {w:World} {S:Nat->Prop} {q:Nat} {v:Vm}
end
end
end
section
section
open Go.RowKit Word
section
variable {z:Sp} {w:World} {S:Nat->Prop} {v:Vm}
end
section
variable {w:World} {S:Nat->Prop} {q:Nat} {v:Vm}
end
end
end
end
section
section
section
open Go.RowKit Word
end
end
section
section
open Go.RowKit Word
end
end
section
section
open Go.RowKit Word
theorem Yx6{w w':World}(h:XF4 (λk=>w.heap.size<=k) w w'):Gr w w':=(h.mono (T:=λ_=>False) (λk hk h=>by omega)).gr
end
end
section
section
open Go.RowKit Word
end
end
end
section
section
def Jt4(l xs:List Nat):List Nat:=xs.foldl (λl x=>if x≠0/\¬x∈l then l++[x]else l) l
def YtH(p:Nat->List Nat):Nat->List Nat->Nat->List Nat
 | 0,l,_=>l
 | f+1,l,i=>if i<l.length then YtH p f (Jt4 l (p (l.getD i 0))) (i+1)else l
theorem Xja(l:List Nat):Jt4 l []=l:=rfl
theorem ZSK(l:List Nat)(x:Nat)(xs:List Nat):Jt4 l (x :: xs)=Jt4 (if x≠0/\¬x∈l then l++[x]else l) xs:=rfl
theorem JH2(l xs ys:List Nat):Jt4 l (xs++ys)=Jt4 (Jt4 l xs) ys:=by unfold Jt4;exact List.foldl_append
theorem QBl:∀(xs l:List Nat) (y:Nat),y∈Jt4 l xs↔y∈l\/(y∈xs/\y≠0)
 | [],l,y=>by simp[Xja]
 | x :: xs,l,y=>by
  rw[ZSK,QBl xs];by_cases h:x≠0/\¬x∈l
  ·rw[χ h,ξg,ζT,ξi];constructor
   ·rintro((h1|rfl)|⟨h1,h2⟩)
    ·exact .inl h1
    ·exact .inr ⟨.inl rfl,h.1⟩
    ·exact .inr ⟨.inr h1,h2⟩
   ·rintro(h1|⟨rfl|h1,h2⟩)
    ·exact .inl (.inl h1)
    ·exact .inl (.inr rfl)
    ·exact .inr ⟨h1,h2⟩
  ·rw[ν h,ξi];constructor
   ·rintro(h1|⟨h1,h2⟩)
    ·exact .inl h1
    ·exact .inr ⟨.inr h1,h2⟩
   ·rintro(h1|⟨rfl|h1,h2⟩)
    ·exact .inl h1
    ·exact .inl (Classical.byContradiction λhh=>h ⟨h2,hh⟩)
    ·exact .inr ⟨h1,h2⟩
theorem Qxl:∀(xs l:List Nat),∃t,Jt4 l xs=l++t
 | [],l=>⟨[],by simp[Xja]⟩
 | x :: xs,l=>by
  rw[ZSK];by_cases h:x≠0/\¬x∈l
  ·obtain⟨t,ht⟩:=Qxl xs (l++[x]);exact⟨x :: t,by rw[χ h,ht,ξj];rfl⟩
  ·obtain⟨t,ht⟩:=Qxl xs l;exact⟨t,by rw[ν h,ht]⟩
def OkL(l:List Nat):Prop:=l.Nodup/\¬0∈l
theorem Y3O:∀(xs:List Nat) {l:List Nat},OkL l->OkL (Jt4 l xs)
 | [],_,h=>h
 | x :: xs,l,h=>by
  rw[ZSK];refine Y3O xs ?_;by_cases hx:x≠0/\¬x∈l
  ·rw[χ hx];refine⟨?_,?_⟩
   ·rw[List.nodup_append];exact⟨h.1,by simp,λa ha b hb e=>by rw[ζT]at hb;subst hb;subst e;exact hx.2 ha⟩
   ·rw[ξg,ζT];rintro(h1|h1)
    ·exact h.2 h1
    ·exact hx.1 h1.symm
  ·rw[ν hx];exact h
theorem QmW{l:List Nat}{i:Nat}(h:i<l.length):l.getD i 0∈l:=by
 rw[θ,μ h];exact ζo h
theorem Jyy(p:Nat->List Nat):∀(f:Nat) (l:List Nat) (i:Nat),∃t,YtH p f l i=l++t
 | 0,l,_=>⟨[],by simp[YtH]⟩
 | f+1,l,i=>by
  unfold YtH
  split
  ·obtain⟨t,ht⟩:=Qxl (p (l.getD i 0)) l;obtain⟨t2,ht2⟩:=Jyy p f (Jt4 l (p (l.getD i 0))) (i+1);exact⟨t++t2,by rw[ht2,ht,ξj]⟩
  ·exact⟨[],by simp⟩
theorem ZRH(p:Nat->List Nat):∀(f:Nat) (l:List Nat) (i:Nat),OkL l->OkL (YtH p f l i)
 | 0,_,_,h=>h
 | f+1,l,i,h=>by
  unfold YtH
  split
  ·exact ZRH p f _ _ (Y3O _ h)
  ·exact h
end
end
section
section
def InL(N:Nat)(l:List Nat):Prop:=∀x∈l,1<=x/\x<=N
theorem InL.len{N:Nat}{l:List Nat}(h:InL N l)(hn:OkL l):l.length<=N:=by
 have h1:l ⊆ (List.range (N+1)).tail:=λx hx=>by
  have:=h x hx;rw[show (List.range (N+1)).tail=(List.range N).map (· + 1)by rw[List.range_succ_eq_map];rfl,ξD];exact⟨x-1,List.mem_range.2 Ω,by omega⟩
 have h2:=hn.1.length_le_of_subset h1;rw[List.length_tail,List.length_range]at h2;omega
theorem Qg6{N:Nat}{l xs:List Nat}(h:InL N l)(hx:∀x∈xs,x<=N):InL N (Jt4 l xs):=λy hy=>by
 rcases(QBl _ _ _).1 hy with h1|⟨h1,h2⟩
 ·exact h y h1
 ·exact⟨by omega,hx y h1⟩
def YkB(p:Nat->List Nat)(l:List Nat)(i:Nat):Prop:=∀j,j<i->∀y∈p (l.getD j 0),y≠0->y∈l
theorem Vsy{l t:List Nat}{j:Nat}(h:j<l.length):(l++t).getD j 0=l.getD j 0:=by
 rw[θ,θ,ζ3 h]
theorem Ybq{p:Nat->List Nat}{N:Nat}(hp:∀x,1<=x->x<=N->∀y∈p x,y<=N):∀(f:Nat) (l:List Nat) (i:Nat),OkL l->InL N l->YkB p l i->i<=l.length->N+1<=f+i->YkB p (YtH p f l i) (YtH p f l i).length/\InL N (YtH p f l i)
 | 0,l,i,ho,hi,_,hil,hf=>by have:=hi.len ho;omega
 | f+1,l,i,ho,hi,hs,hil,hf=>by
  unfold YtH
  split
  ·rename_i h;have hx:=hi _ (QmW h);obtain⟨t,ht⟩:=Qxl (p (l.getD i 0)) l;refine Ybq hp f _ (i+1) (Y3O _ ho) (Qg6 hi (hp _ hx.1 hx.2)) (λj hj y hy h0=>?_) ?_ Ω
   ·rw[ht,Vsy Ω]at hy;rcases ζj j i with hji|hji
    ·exact(QBl _ _ _).2 (.inl (hs j hji y hy h0))
    ·obtain rfl:j=i:=Ω
     exact(QBl _ _ _).2 (.inr ⟨hy,h0⟩)
   ·rw[ht,ζi];omega
  ·rename_i h;obtain rfl:i=l.length:=Ω
   exact⟨hs,hi⟩
theorem Z7P{p:Nat->List Nat}{Q:Nat->Prop}(hp:∀x,Q x->∀y∈p x,y≠0->Q y):∀(f:Nat) (l:List Nat) (i:Nat),(∀x∈l,Q x)->∀x∈YtH p f l i,Q x
 | 0,_,_,h=>h
 | f+1,l,i,h=>by
  unfold YtH
  split
  ·rename_i hi;refine Z7P hp f _ (i+1) (λy hy=>?_);rcases(QBl _ _ _).1 hy with h1|⟨h1,h2⟩
   ·exact h y h1
   ·exact hp _ (h _ (QmW hi)) y h1 h2
  ·exact h
def Quy(p:Nat->List Nat)(N:Nat)(rs:List Nat):List Nat:=YtH p (N+1) (Jt4 [] rs) 0
theorem YVO:OkL []:=⟨List.nodup_nil,by simp⟩
theorem Zeq(p:Nat->List Nat)(N:Nat)(rs:List Nat):OkL (Quy p N rs):=ZRH _ _ _ _ (Y3O _ YVO)
theorem JOE{p:Nat->List Nat}{N:Nat}{rs:List Nat}(hp:∀x,1<=x->x<=N->∀y∈p x,y<=N)(hr:∀x∈rs,x<=N):InL N (Quy p N rs)/\(∀x∈rs,x≠0->x∈Quy p N rs)/\∀x∈Quy p N rs,∀y∈p x,y≠0->y∈Quy p N rs:=by
 have hin:InL N (Jt4 [] rs):=Qg6 (λx hx=>absurd hx (by simp)) hr;obtain⟨h1,h2⟩:=Ybq hp (N+1) (Jt4 [] rs) 0 (Y3O _ YVO) hin (λj hj=>absurd hj (ξf _)) (ζb _) Ω;refine⟨h2,λx hx h0=>?_,λx hx y hy h0=>?_⟩
 ·obtain⟨t,ht⟩:=Jyy p (N+1) (Jt4 [] rs) 0;unfold Quy;rw[ht];exact ξS _ ((QBl _ _ _).2 (.inr ⟨hx,h0⟩))
 ·obtain⟨j,hj,e⟩:=ξA.1 hx;refine h1 j hj y ?_ h0;have e2:(Quy p N rs).getD j 0=x:=by rw[θ,μ hj,ξb,e]
  unfold Quy at e2;rw[e2];exact hy
theorem VPa{p:Nat->List Nat}{N:Nat}{rs:List Nat}{Q:Nat->Prop}(hp:∀x,Q x->∀y∈p x,y≠0->Q y)(hr:∀x∈rs,x≠0->Q x):∀x∈Quy p N rs,Q x:=by
 refine Z7P hp _ _ _ (λx hx=>?_);rcases(QBl _ _ _).1 hx with h1|⟨h1,h2⟩
 ·exact absurd h1 (by simp)
 ·exact hr x h1 h2
end
end
section
section
structure GOb where
 p:Nat
 f:Nat
 k:Nat
 w:List Nat
structure Gph where
 L:List GOb
 S:List Nat
def GOb.hdr(o:GOb):Hdr:=⟨o.p,o.f,o.k⟩
def GOb.size(o:GOb):Nat:=1+o.p+o.f+o.k
def Gph.ob(g:Gph)(x:Nat):GOb:=if x=0 then ⟨0,0,0,[]⟩else g.L.getD (x-1) ⟨0,0,0,[]⟩
def Gph.pts(g:Gph)(x:Nat):List Nat:=(g.ob x).w.take (g.ob x).p
structure Gph.Ok(g:Gph):Prop where
 len:∀o∈g.L,o.w.length=o.p+o.f+o.k/\o.p+o.f+o.k<=255
 pt:∀o∈g.L,∀y∈o.w.take o.p,y<=g.L.length
 st:∀y∈g.S,y<=g.L.length
def Gph.Rd(g:Gph)(x:Nat):Prop:=∀P:Nat->Prop,(∀r∈g.S,r≠0->P r)->(∀a,P a->∀b∈g.pts a,b≠0->P b)->P x
theorem Gph.Rd.root{g:Gph}{r:Nat}(h:r∈g.S)(h0:r≠0):g.Rd r:=λ_ h1 _=>h1 r h h0
theorem Gph.Rd.step{g:Gph}{a b:Nat}(h:g.Rd a)(hb:b∈g.pts a)(h0:b≠0):g.Rd b:=λP h1 h2=>h2 a (h P h1 h2) b hb h0
theorem Gph.ob_mem{g:Gph}{x:Nat}(h1:1<=x)(h2:x<=g.L.length):g.ob x∈g.L:=by
 unfold Gph.ob;rw[ν Ω,θ,μ Ω];exact ζo _
theorem Gph.Ok.pts_le{g:Gph}(h:g.Ok){x y:Nat}(hy:y∈g.pts x):y<=g.L.length:=by
 unfold Gph.pts at hy;rcases ζj 0 x with hx|hx
 ·rcases ζj g.L.length x with hl|hl
  ·have e:g.ob x=⟨0,0,0,[]⟩:=by
    unfold Gph.ob;rw[ν Ω,θ,ζO Ω];rfl
   rw[e]at hy;simp at hy
  ·exact h.pt _ (Gph.ob_mem hx hl) y hy
 ·have e:g.ob x=⟨0,0,0,[]⟩:=by unfold Gph.ob;rw[χ Ω]
  rw[e]at hy;simp at hy
theorem Gph.Ok.rd{g:Gph}(h:g.Ok){x:Nat}(hx:g.Rd x):1<=x/\x<=g.L.length:=
 hx (λx=>1<=x/\x<=g.L.length) (λr hr h0=>⟨by omega,h.st r hr⟩) (λ_ _ b hb h0=>⟨by omega,h.pts_le hb⟩)
def Gph.all(g:Gph):List Nat:=Quy g.pts g.L.length g.S
theorem Gph.Ok.mem_all{g:Gph}(h:g.Ok){x:Nat}:x∈g.all↔g.Rd x:=by
 obtain⟨h1,h2,h3⟩:=JOE (p:=g.pts) (N:=g.L.length) (rs:=g.S) (λx _ _ y hy=>h.pts_le hy) h.st;constructor
 ·intro hx;exact VPa (Q:=g.Rd) (λa ha b hb h0=>ha.step hb h0) (λr hr h0=>Gph.Rd.root hr h0) x hx
 ·intro hx;exact hx (λx=>x∈g.all) h2 h3
section
variable {v:Vm} {g:Gph} {F:Nat->Nat} {lo hi:Nat}
end
end
end
section
section
open Go.RowKit Word
def GOb.put(o:GOb)(i y:Nat):GOb:=⟨o.p,o.f,o.k,o.w.set i y⟩
def Gph.put(g:Gph)(x i y:Nat):Gph:=⟨g.L.set (x-1) ((g.ob x).put i y),g.S⟩
section
variable {v v':Vm} {g:Gph} {F:Nat->Nat} {lo hi x i y:Nat}
theorem Gph.put_ob(h1:1<=x)(h2:x<=g.L.length)(z:Nat):(g.put x i y).ob z=if z=x then (g.ob x).put i y else g.ob z:=by
 by_cases e:z=x
 ·subst e;rw[χ rfl]
  show (if z=0 then _ else (g.L.set (z-1) ((g.ob z).put i y)).getD (z-1) ⟨0,0,0,[]⟩)=_
  rw[ν Ω,θ,List.getElem?_set_self Ω];rfl
 ·rw[ν e]
  show (if z=0 then _ else (g.L.set (x-1) ((g.ob x).put i y)).getD (z-1) ⟨0,0,0,[]⟩)=if z=0 then _ else g.L.getD (z-1) ⟨0,0,0,[]⟩
  by_cases hz:z=0
  ·rw[χ hz,χ hz]
  ·rw[ν hz,ν hz,θ,θ,List.getElem?_set_ne Ω]
theorem Gph.Ok.put(h:g.Ok)(h1:1<=x)(h2:x<=g.L.length)(hy:i<(g.ob x).p->y<=g.L.length):(g.put x i y).Ok:=by
 have hx:=Gph.ob_mem h1 h2;have hl:(g.put x i y).L.length=g.L.length:=ζf;refine⟨λo ho=>?_,λo ho z hz=>?_,λz hz=>by rw[hl];exact h.st z hz⟩
 ·rcases ζl ho with h3|h3
  ·exact h.len o h3
  ·rw[h3];have:=h.len _ hx;exact⟨by show ((g.ob x).w.set i y).length=_;rw[ζf];exact this.1,this.2⟩
 ·rw[hl];rcases ζl ho with h3|h3
  ·exact h.pt o h3 z hz
  ·rw[h3]at hz;have hz:z∈((g.ob x).w.set i y).take (g.ob x).p:=hz;rcases ζj i (g.ob x).p with hi|hi
   ·rw[List.take_set]at hz;rcases ζl hz with h4|h4
    ·exact h.pt _ hx z h4
    ·rw[h4];exact hy hi
   ·rw[List.take_set_of_le hi]at hz;exact h.pt _ hx z hz
end
end
end
section
section
open Go.RowKit Word
def GOb.new(p f k:Nat):GOb:=⟨p,f,k,List.replicate (p+f+k) 0⟩
def Gph.add(g:Gph)(s p f k:Nat):Gph:=⟨g.L++[GOb.new p f k],g.S.set s (g.L.length+1)⟩
section
variable {v v':Vm} {g:Gph} {F:Nat->Nat} {lo hi s p f k:Nat}
theorem Gph.add_ob(z:Nat)(hz:z<=g.L.length):(g.add s p f k).ob z=g.ob z:=by
 show (if z=0 then _ else (g.L++[GOb.new p f k]).getD (z-1) ⟨0,0,0,[]⟩)=if z=0 then _ else g.L.getD (z-1) ⟨0,0,0,[]⟩
 by_cases h0:z=0
 ·rw[χ h0,χ h0]
 ·rw[ν h0,ν h0,θ,θ,ζ3 Ω]
theorem Gph.add_new:(g.add s p f k).ob (g.L.length+1)=GOb.new p f k:=by
 show (if g.L.length+1=0 then _ else (g.L++[GOb.new p f k]).getD (g.L.length+1-1) ⟨0,0,0,[]⟩)=_
 rw[ν Ω,ζR,θ,ξE (ζe _),Nat.sub_self];rfl
theorem Gph.Ok.add(h:g.Ok)(hs:p+f+k<=255):(g.add s p f k).Ok:=by
 have hl:(g.add s p f k).L.length=g.L.length+1:=by show (g.L++[GOb.new p f k]).length=_;rw[ζi];rfl
 refine⟨λo ho=>?_,λo ho z hz=>?_,λz hz=>?_⟩
 ·rcases ξg.1 ho with h1|h1
  ·exact h.len o h1
  ·rw[ζT.1 h1];exact⟨ζ1,hs⟩
 ·rw[hl];rcases ξg.1 ho with h1|h1
  ·have:=h.pt o h1 z hz;omega
  ·rw[ζT.1 h1]at hz;have:z=0:=(ζC.1 (ζI hz)).2;omega
 ·rw[hl];rcases ζl hz with h1|h1
  ·have:=h.st z h1;omega
  ·omega
end
end
end
section
section
open Go.RowKit Word
open Classical in
section
variable {v:Vm} {g:Gph} {F:Nat->Nat} {lo hi:Nat}
def Gph.words(g:Gph):Nat:=(g.all.map λx=>(g.ob x).size).sum
end
end
end
section
section
def JHm(b:Nat):Nat:=if b/4503599627370496=0 then b%4503599627370496 else (b%4503599627370496+4503599627370496)*2 ^ (b/4503599627370496-1)
def QXS:Nat:=9218868437227405312
def X3A(a:Nat):Nat:=if a=0 then 0 else a.log2+1
def X5K(a:Nat):Nat:=
 let k:=X3A a-53
 let m:=a/2 ^ k%9007199254740992
 let b:=k*4503599627370496+m
 min (if 0<k/\a/2 ^ (k-1)%2=1/\(m%2=1\/0<a%2 ^ (k-1))then b+1 else b) QXS
theorem VPs(b:Nat):JHm (b+1)=JHm b+2 ^ (b/4503599627370496-1):=by
 unfold JHm;have hd:=ζH b 4503599627370496;have hm:=ζn b (show 0<4503599627370496 by decide);obtain⟨e,he⟩:∃e,e=b/4503599627370496:=⟨_,rfl⟩;obtain⟨m,hm'⟩:∃m,m=b%4503599627370496:=⟨_,rfl⟩;rw[<-he,<-hm']at hd;rw[<-hm']at hm;rw[<-he,<-hm'];by_cases hl:m+1<4503599627370496
 ·have h1:(b+1)/4503599627370496=e:=Ω
  have h2:(b+1)%4503599627370496=m+1:=Ω
  rw[h1,h2]
  split
  ·rename_i h0;subst h0;rfl
  ·rw[show m+1+4503599627370496=(m+4503599627370496)+1 by omega,Nat.succ_mul]
 ·have h1:(b+1)/4503599627370496=e+1:=Ω
  have h2:(b+1)%4503599627370496=0:=Ω
  rw[h1,h2,ν Ω,ζR];have hme:m=4503599627370495:=Ω
  subst hme
  split
  ·rename_i h0;subst h0;rfl
  ·obtain⟨f,rfl⟩:∃f,e=f+1:=⟨e-1,by omega⟩;rw[ζR,Nat.pow_succ];omega
theorem Z8y(b:Nat):JHm b<JHm (b+1):=by
 rw[VPs];have:=Nat.two_pow_pos (b/4503599627370496-1);omega
theorem Q4o{b c:Nat}(h:b<c):JHm b<JHm c:=by
 induction c with
 | zero=>omega
 | succ c ih=>
  have h1:=Z8y c;by_cases e:b=c
  ·subst e;exact h1
  ·have:=ih Ω;omega
theorem Z40{a:Nat}(h:a≠0):2 ^ (X3A a-1)<=a/\a<2 ^ X3A a:=by
 unfold X3A;rw[ν h,ζR];exact⟨Nat.log2_self_le h,Nat.lt_log2_self⟩
theorem Vle(a:Nat):∃low,(low<=QXS/\JHm low<=a/\(low<QXS->a<JHm (low+1)))/\X5K a=if low=QXS then QXS else if JHm (low+1)-a<a-JHm low\/(¬a-JHm low<JHm (low+1)-a/\low%2=1)then low+1 else low:=by
 by_cases hs:a<9007199254740992
 ·have hk:X3A a-53=0:=by
   by_cases h0:a=0
   ·subst h0;rfl
   ·have h1:=(Z40 h0).1;rcases ζj 53 (X3A a)with h2|h2
    ·have h3:2 ^ 53<=2 ^ (X3A a-1):=Nat.pow_le_pow_right (by decide) Ω;have h4:(2:Nat) ^ 53=9007199254740992:=by decide
     omega
    ·omega
  have hv:JHm a=a:=by
   unfold JHm
   split
   ·rename_i h0;omega
   ·rename_i h0;have:a/4503599627370496=1:=Ω
    rw[this]
    show (a%4503599627370496+4503599627370496)*1=a
    omega
  refine⟨a,⟨by unfold QXS;omega,by omega,λ_=>by have:=Z8y a;omega⟩,?_⟩;have hn:a≠QXS:=by unfold QXS;omega
  have h1:=Z8y a;rw[ν hn,ν Ω];unfold X5K;simp only[hk];rw[ν Ω,Nat.pow_zero,Nat.div_one,ξc hs];unfold QXS;omega
 ·have h0:a≠0:=Ω
  obtain⟨h1,h2⟩:=Z40 h0
  have hl:53<X3A a:=by
   rcases ζj 53 (X3A a)with h|h
   ·exact h
   ·have h3:2 ^ X3A a<=2 ^ 53:=Nat.pow_le_pow_right (by decide) h;have h4:(2:Nat) ^ 53=9007199254740992:=by decide
    omega
  obtain⟨k,hk⟩:∃k,X3A a=k+1+53:=⟨X3A a-54,by omega⟩;have hk':X3A a-53=k+1:=Ω
  have hp:0<2 ^ k:=Nat.two_pow_pos k
  have e1:2 ^ (X3A a-1)=4503599627370496*2 ^ (k+1):=by
   rw[hk,show k+1+53-1=52+(k+1)by omega,Nat.pow_add]
  have e2:2 ^ X3A a=9007199254740992*2 ^ (k+1):=by
   rw[hk,show k+1+53=53+(k+1)by omega,Nat.pow_add]
  rw[e1]at h1;rw[e2]at h2;have hP:0<2 ^ (k+1):=Nat.two_pow_pos _;obtain⟨m,hm⟩:∃m,m=a/2 ^ (k+1):=⟨_,rfl⟩;have hm1:4503599627370496<=m:=by rw[hm,Nat.le_div_iff_mul_le hP];exact h1
  have hm2:m<9007199254740992:=by rw[hm,ζm hP];exact h2
  obtain⟨d,hd⟩:∃d,d=a%2 ^ (k+1):=⟨_,rfl⟩;have hda:=ζH a (2 ^ (k+1));rw[<-hm,<-hd]at hda;have hdl:d<2 ^ (k+1):=by rw[hd];exact ζn _ hP
  obtain⟨b,hb⟩:∃b,b=(k+1)*4503599627370496+m:=⟨_,rfl⟩;have hbd:b/4503599627370496=k+2:=Ω
  have hbm:b%4503599627370496=m-4503599627370496:=Ω
  have hvb:JHm b=m*2 ^ (k+1):=by
   unfold JHm;rw[hbd,hbm,ν Ω,show m-4503599627370496+4503599627370496=m by omega];rfl
  have hvs:JHm (b+1)=JHm b+2 ^ (k+1):=by rw[VPs,hbd];rfl
  have hmm:m*2 ^ (k+1)=2 ^ (k+1)*m:=ζM _ _
  -- the half bit and what is below it
  have hps:2 ^ (k+1)=2*2 ^ k:=by rw[Nat.pow_succ];omega
  have hhalf:a/2 ^ k%2=d/2 ^ k:=by
   have h3:a/2 ^ k=2*m+d/2 ^ k:=by
    rw[<-hda,hps,ζM 2 (2 ^ k),ζU,Nat.mul_add_div hp]
   have h4:d/2 ^ k<2:=by rw[ζm hp];omega
   rw[h3];generalize d/2 ^ k=t at h4⊢;omega
  have hbel:a%2 ^ k=d%2 ^ k:=by
   rw[<-hda,hps,ζM 2 (2 ^ k),ζU,Nat.mul_add_mod]
  have hdd:=ζH d (2 ^ k);have hd2:d/2 ^ k<2:=by rw[ζm hp];omega
  have hdm:=ζn d hp
  have hround:X5K a=min (if d/2 ^ k=1/\(m%2=1\/0<d%2 ^ k)then b+1 else b) QXS:=by
   unfold X5K;simp only[hk',ζR];rw[<-hm,ξc hm2,<-hb,hhalf,hbel];congr 1;by_cases hc:d/2 ^ k=1/\(m%2=1\/0<d%2 ^ k)
   ·rw[χ hc,χ ⟨by omega,hc⟩]
   ·rw[ν hc,ν (λh=>hc h.2)]
  by_cases hbi:b<QXS
  ·refine⟨b,⟨by omega,by omega,λ_=>by omega⟩,?_⟩;rw[hround,ν (show ¬b=QXS by omega)];have hb2:b%2=m%2:=Ω
   obtain⟨P,hPe⟩:∃P,P=2 ^ k:=⟨_,rfl⟩;rw[<-hPe]at hp hps hdd hd2 hdm⊢;obtain⟨t,ht⟩:∃t,t=d/P:=⟨_,rfl⟩;obtain⟨g,hg⟩:∃g,g=d%P:=⟨_,rfl⟩;rw[<-ht,<-hg]at hdd⊢;rw[<-ht]at hd2;rw[<-hg]at hdm;have hav:a-JHm b=d:=Ω
   have hau:JHm (b+1)-a=2*P-d:=Ω
   rw[hav,hau,hb2];rcases(by omega:t=0\/t=1)with rfl|rfl
   ·rw[Nat.mul_zero]at hdd;rw[ν Ω,ν Ω];exact ζX Ω
   ·rw[ξO]at hdd;by_cases hc:m%2=1\/0<g
    ·rw[χ ⟨rfl,hc⟩,χ Ω];exact ζX Ω
    ·rw[ν (λh=>hc h.2),ν Ω];exact ζX Ω
  ·have hvi:JHm QXS<=a:=by
    rcases ζj QXS b with h|h
    ·have:=Q4o h;omega
    ·obtain rfl:b=QXS:=Ω
     omega
   refine⟨QXS,⟨ζe _,hvi,λh=>absurd h (ξh _)⟩,?_⟩;rw[hround,χ rfl];exact ζQ (by split <;> omega)
end
end
section
section
def lv(B:Nat):List Nat->Nat
 | []=>0
 | x :: xs=>x+B*lv B xs
theorem X6T(B:Nat)(l:List Nat):∀{i:Nat},i<l.length->∀y,lv B (l.set i y)+l.getD i 0*B ^ i=lv B l+y*B ^ i:=by
 induction l with
 | nil=>intro i h;exact absurd h (ξf _)
 | cons x xs ih=>
  intro i hi y;cases i with
  | zero=>simp[lv];omega
  | succ i=>
   have h:=ih (i:=i) (by simpa using hi) y;have h2:=congrArg (B * ·) h;simp only[ξv]at h2;simp only[ϑ,lv,List.getD_cons_succ,Nat.pow_succ];rw[show xs.getD i 0*(B ^ i*B)=B*(xs.getD i 0*B ^ i)by ac_rfl,show y*(B ^ i*B)=B*(y*B ^ i)by ac_rfl];omega
theorem Vk5{B:Nat}{l:List Nat}{i:Nat}(hi:i<l.length)(z:Nat):lv B (l.set i ((l.getD i 0+z)%B))+(l.getD i 0+z)/B*B ^ (i+1)=lv B l+z*B ^ i:=by
 have h:=X6T B l hi ((l.getD i 0+z)%B);obtain⟨x,hx⟩:∃x,x=l.getD i 0:=⟨_,rfl⟩;rw[<-hx]at h⊢;have hd:=ζH (x+z) B;obtain⟨q,hq⟩:∃q,q=(x+z)/B:=⟨_,rfl⟩;obtain⟨r,hr⟩:∃r,r=(x+z)%B:=⟨_,rfl⟩;rw[<-hq,<-hr]at hd;rw[<-hr]at h;rw[<-hq,<-hr];have h2:=congrArg (· * B ^ i) hd;simp only[ζV]at h2;rw[Nat.pow_succ,show q*(B ^ i*B)=B*q*B ^ i by ac_rfl];omega
theorem J9G{B:Nat}{l:List Nat}{i:Nat}(hi:i<l.length){z:Nat}(hz:z<=l.getD i 0):lv B (l.set i (l.getD i 0-z))+z*B ^ i=lv B l:=by
 have h:=X6T B l hi (l.getD i 0-z);obtain⟨x,hx⟩:∃x,x=l.getD i 0:=⟨_,rfl⟩;rw[<-hx]at h hz⊢;obtain⟨y,rfl⟩:∃y,x=y+z:=⟨x-z,by omega⟩;rw[ζR]at h⊢;rw[ζV]at h;omega
theorem Q0J{B:Nat}{l:List Nat}{i:Nat}(hi:i<l.length){z:Nat}(hz:z<=l.getD i 0+B):lv B (l.set i (l.getD i 0+B-z))+z*B ^ i=lv B l+B ^ (i+1):=by
 have h:=X6T B l hi (l.getD i 0+B-z);obtain⟨x,hx⟩:∃x,x=l.getD i 0:=⟨_,rfl⟩;rw[<-hx]at h hz⊢;obtain⟨y,hy⟩:∃y,y=x+B-z:=⟨_,rfl⟩;rw[<-hy]at h⊢;have hyz:y+z=x+B:=Ω
 have h2:=congrArg (· * B ^ i) hyz;simp only[ζV]at h2;rw[Nat.pow_succ,ζM (B ^ i) B];omega
theorem Ze9{B:Nat}(hB:0<B):∀{l:List Nat},(∀x∈l,x<B)->lv B l<B ^ l.length
 | [],_=>by simp[lv]
 | x :: xs,h=>by
  have h1:=Ze9 hB (l:=xs) (λy hy=>h y (ζ7 _ hy));have h2:=h x ξt
  have h3:B*lv B xs+B<=B*B ^ xs.length:=by
   rw[<-Nat.mul_succ];exact ξo B h1
  simp only[lv,List.length_cons];rw[Nat.pow_succ,ζM (B ^ xs.length) B];omega
theorem XuG(B:Nat):∀(l:List Nat) (i:Nat),lv B l=lv B (l.take i)+B ^ i*lv B (l.drop i)
 | l,0=>by simp[lv]
 | [],i+1=>by simp[lv]
 | x :: xs,i+1=>by
  have h:=XuG B xs i;simp only[List.take_succ_cons,List.drop_succ_cons,lv];rw[h,ξv,Nat.pow_succ,show B ^ i*B*lv B (xs.drop i)=B*(B ^ i*lv B (xs.drop i))by ac_rfl];omega
theorem YJJ{B:Nat}(hB:0<B){l:List Nat}(h:∀x∈l,x<B){i:Nat}(hi:i<=l.length):lv B l/B ^ i=lv B (l.drop i)/\lv B l%B ^ i=lv B (l.take i):=by
 have h1:=XuG B l i;have h2:=Ze9 hB (l:=l.take i) (λx hx=>h x (ζI hx));rw[ζk,ζX hi]at h2;have hp:0<B ^ i:=Nat.pow_pos hB;rw[h1];constructor
 ·rw[ξd,Nat.mul_add_div hp,Nat.div_eq_of_lt h2,ζA]
 ·rw[ξd,Nat.mul_add_mod,ξc h2]
theorem V2t{B:Nat}{l:List Nat}{i:Nat}(hi:i<l.length):lv B (l.drop i)=l.getD i 0+B*lv B (l.drop (i+1)):=by
 rw[ζ4 hi];simp only[lv];rw[θ,μ hi,ξb]
theorem JYU{B:Nat}(hB:0<B):∀{l:List Nat},lv B l=0↔∀x∈l,x=0
 | []=>by simp[lv]
 | x :: xs=>by
  have h:=JYU hB (l:=xs);simp only[lv,ξi,forall_eq_or_imp];rw[<-h];constructor
  ·intro e;have h1:x=0:=Ω
   have h2:B*lv B xs=0:=Ω
   exact⟨h1,(Nat.mul_eq_zero.1 h2).resolve_left Ω⟩
  ·rintro⟨e1,e2⟩;rw[e1,e2];rfl
theorem XKy{a n:Nat}(h1:2 ^ n<=a)(h2:a<2 ^ (n+1)):X3A a=n+1:=by
 have h0:a≠0:=by have:=Nat.two_pow_pos n;omega
 have h3:=Z40 h0;have hl:X3A a≠0:=by unfold X3A;rw[ν h0];omega
 rcases Nat.lt_trichotomy (X3A a) (n+1)with h|h|h
 ·have:2 ^ X3A a<=2 ^ n:=Nat.pow_le_pow_right (by decide) Ω;omega
 ·exact h
 ·have:2 ^ (n+1)<=2 ^ (X3A a-1):=Nat.pow_le_pow_right (by decide) Ω;omega
theorem ZHT{b:Nat}{l:List Nat}(h:∀x∈l,x<2 ^ b){i:Nat}(hi:i<l.length)(hx:l.getD i 0≠0)(hz:∀x∈l.drop (i+1),x=0):X3A (lv (2 ^ b) l)=b*i+X3A (l.getD i 0):=by
 have hB:=Nat.two_pow_pos b;have hsp:=XuG (2 ^ b) l i;have hlt:=Ze9 hB (l:=l.take i) (λx hx=>h x (ζI hx));rw[ζk,ζX (ζG hi),<-Nat.pow_mul]at hlt;rw[V2t hi,(JYU hB).2 hz,Nat.mul_zero,ζA,<-Nat.pow_mul]at hsp;obtain⟨x,hxe⟩:∃x,x=l.getD i 0:=⟨_,rfl⟩;rw[<-hxe]at hx hsp⊢;obtain⟨s1,s2⟩:=Z40 hx;have hl:X3A x≠0:=by unfold X3A;rw[ν hx];omega
 obtain⟨n,hn⟩:∃n,X3A x=n+1:=⟨X3A x-1,by omega⟩;rw[hn]at s1 s2⊢;rw[ζR]at s1;rw[<-ξJ];refine XKy ?_ ?_
 ·have:2 ^ (b*i)*2 ^ n<=2 ^ (b*i)*x:=ξo _ s1;rw[<-Nat.pow_add]at this;omega
 ·have:2 ^ (b*i)*(x+1)<=2 ^ (b*i)*2 ^ (n+1):=ξo _ s2;rw[<-Nat.pow_add,Nat.mul_succ,<-ξJ]at this;omega
end
end
section
section
section
variable {l:List Nat} {i off:Nat}
theorem QNf(h:∀x∈l,x<2 ^ 64)(hi:i<l.length):lv (2 ^ 64) l/2 ^ (64*i)=l.getD i 0+2 ^ 64*lv (2 ^ 64) (l.drop (i+1))/\lv (2 ^ 64) l%2 ^ (64*i)=lv (2 ^ 64) (l.take i):=by
 have h1:=YJJ (Nat.two_pow_pos 64) h (ζG hi);rw[<-Nat.pow_mul]at h1;rw[<-V2t hi];exact h1
theorem ZLO(i:Nat):∃Z,lv (2 ^ 64) (l.drop (i+1))=l.getD (i+1) 0+2 ^ 64*Z:=by
 rcases ζj (i+1) l.length with hl|hl
 ·exact⟨_,V2t hl⟩
 ·refine⟨0,?_⟩;rw[ζY hl,θ,ζO hl];rfl
theorem Xrr(ho:off<64):(2:Nat) ^ 64=2 ^ off*2 ^ (64-off):=by rw[<-Nat.pow_add,show off+(64-off)=64 by omega]
theorem QNd(h:∀x∈l,x<2 ^ 64)(hi:i<l.length)(ho:off<64):lv (2 ^ 64) l/2 ^ (64*i+off)=l.getD i 0/2 ^ off+2 ^ (64-off)*lv (2 ^ 64) (l.drop (i+1)):=by
 rw[Nat.pow_add,<-ξM,(QNf h hi).1];generalize lv (2 ^ 64) (l.drop (i+1))=Y;rw[Xrr ho,ζU,Nat.add_mul_div_left _ _ (Nat.two_pow_pos off)]
theorem ZrJ(h:∀x∈l,x<2 ^ 64)(hi:i<l.length)(ho:off<64):lv (2 ^ 64) l/2 ^ (64*i+off)%9007199254740992=(l.getD i 0/2 ^ off+l.getD (i+1) 0*2 ^ (64-off)%18446744073709551616)%9007199254740992:=by
 obtain⟨Z,hZ⟩:=ZLO (l:=l) i;rw[QNd h hi ho,hZ,ξv,show 2 ^ (64-off)*(2 ^ 64*Z)=18446744073709551616*(2 ^ (64-off)*Z)by rw[show (2:Nat) ^ 64=18446744073709551616 by decide];ac_rfl,ζM (2 ^ (64-off)) (l.getD (i+1) 0)];generalize l.getD (i+1) 0*2 ^ (64-off)=T;generalize 2 ^ (64-off)*Z=U;generalize l.getD i 0/2 ^ off=V;omega
theorem VFZ(h:∀x∈l,x<2 ^ 64)(hi:i<l.length)(ho:off<64):lv (2 ^ 64) l/2 ^ (64*i+off)%2=l.getD i 0/2 ^ off%2:=by
 rw[QNd h hi ho,show 64-off=(63-off)+1 by omega,Nat.pow_succ,ζM (2 ^ (63-off)) 2,ζU];generalize 2 ^ (63-off)*lv (2 ^ 64) (l.drop (i+1))=U;generalize l.getD i 0/2 ^ off=V;omega
theorem YPW(h:∀x∈l,x<2 ^ 64)(hi:i<l.length)(ho:off<64):lv (2 ^ 64) l%2 ^ (64*i+off)=0↔(∀x∈l.take i,x=0)/\l.getD i 0%2 ^ off=0:=by
 rw[Nat.pow_add,Nat.mod_mul,(QNf h hi).1,(QNf h hi).2,Xrr ho,ζU,Nat.add_mul_mod_self_left,<-Xrr ho,<-JYU (Nat.two_pow_pos 64)];have hp:=Nat.two_pow_pos (64*i);constructor
 ·intro e;have e2:2 ^ (64*i)*(l.getD i 0%2 ^ off)=0:=Ω
  exact⟨by omega,(Nat.mul_eq_zero.1 e2).resolve_left Ω⟩
 ·rintro⟨e1,e2⟩;rw[e1,e2];rfl
theorem X5x{x:Nat}(ho:off<64):x*2 ^ (63-off)%18446744073709551616*2%18446744073709551616=2 ^ (64-off)*(x%2 ^ off):=by
 have h1:x*2 ^ (63-off)%18446744073709551616*2%18446744073709551616=(2 ^ (64-off)*x)%18446744073709551616:=by
  rw[show 2 ^ (64-off)*x=x*2 ^ (63-off)*2 by rw[show 64-off=(63-off)+1 by omega,Nat.pow_succ];ac_rfl];generalize x*2 ^ (63-off)=T;omega
 rw[h1,show (18446744073709551616:Nat)=2 ^ (64-off)*2 ^ off by rw[<-Nat.pow_add,show 64-off+off=64 by omega],Nat.mul_mod_mul_left]
end
theorem JRN{M n:Nat}{S:Int}(h:(n:Int)=S%((2*M:Nat):Int))(h1:-(M:Int)<=S)(h2:S<M):(n<M↔0<=S)/\(0<=S->(n:Int)=S)/\(S<0->((2*M-n:Nat):Int) = -S):=by
 rcases Int.lt_or_le S 0 with hs|hs
 ·have e:S%((2*M:Nat):Int)=S+((2*M:Nat):Int):=by
   rw[<-Int.add_emod_right];exact ξI Ω Ω
  rw[e]at h;exact⟨by omega,by omega,by omega⟩
 ·rw[ξI hs Ω]at h;exact⟨by omega,by omega,by omega⟩
theorem QRp{B:Nat}{a b:List Nat}(ha:∀x∈a,x<B){i:Nat}(hi:i<a.length)(hl:a.length=b.length)(hd:a.drop (i+1)=b.drop (i+1))(hx:a.getD i 0<b.getD i 0):lv B a<lv B b:=by
 have hB:0<B:=by
  have:=ha _ (ζo hi);omega
 have h1:=Ze9 hB (l:=a.take i) (λx hx=>ha x (ζI hx));rw[ζk,ζX (ζG hi)]at h1;rw[XuG B a i,XuG B b i,V2t hi,V2t (by omega:i<b.length),hd];generalize lv B (b.drop (i+1))=Y;rw[ξv,ξv];have h2:B ^ i*(a.getD i 0+1)<=B ^ i*b.getD i 0:=ξo _ hx;rw[Nat.mul_succ]at h2;omega
end
end
section
section
def VRa(a low:Nat):Prop:=low<=QXS/\JHm low<=a/\(low<QXS->a<JHm (low+1))
theorem VLY{a b c:Nat}(h:VRa a b)(k:VRa a c):b=c:=by
 obtain⟨h1,h2,h3⟩:=h;obtain⟨k1,k2,k3⟩:=k;rcases Nat.lt_trichotomy b c with h|h|h
 ·have:=h3 Ω;rcases ζj (b+1) c with e|e
  ·have:=Q4o e;omega
  ·obtain rfl:c=b+1:=Ω
   omega
 ·exact h
 ·have:=k3 Ω;rcases ζj (c+1) b with e|e
  ·have:=Q4o e;omega
  ·obtain rfl:b=c+1:=Ω
   omega
theorem JJz{a low:Nat}(h:VRa a low):X5K a=if low=QXS then QXS else if JHm (low+1)-a<a-JHm low\/(¬a-JHm low<JHm (low+1)-a/\low%2=1)then low+1 else low:=by
 obtain⟨l,hl,hr⟩:=Vle a;obtain rfl:=VLY h hl;exact hr
theorem Q1n(a:Nat):X5K a<=QXS:=by unfold X5K;exact Nat.min_le_right _ _
theorem Vkv{a lo hi:Nat}(hl:lo<hi):lo<hi-(hi-lo)/2/\hi-(hi-lo)/2<=hi/\(a<JHm (hi-(hi-lo)/2)->lo<=hi-(hi-lo)/2-1/\(hi-(hi-lo)/2-1<QXS->a<JHm (hi-(hi-lo)/2-1+1))):=by
 obtain⟨m,hm⟩:∃m,m=hi-(hi-lo)/2:=⟨_,rfl⟩;have a1:lo<m:=Ω
 rw[<-hm];refine⟨a1,by omega,λh=>⟨by omega,λ_=>?_⟩⟩;rw[Nat.sub_add_cancel Ω];exact h
theorem XJW{a lo:Nat}(h1:JHm lo<=a)(h2:lo<=QXS)(h3:lo<QXS->a<JHm (lo+1)):VRa a lo:=⟨h2,h1,h3⟩
theorem V63(a:Nat):JHm 0<=a:=by show (if _ then _ else _)<=a;rw[χ (by decide)];exact ζb _
def Yf9(b:Nat):Nat:=if b/4503599627370496=0 then b%4503599627370496 else b%4503599627370496+4503599627370496
def Qub(b:Nat):Nat:=b/4503599627370496-1
theorem Z2l(b:Nat):JHm b=Yf9 b*2 ^ Qub b:=by
 unfold JHm Yf9 Qub
 split
 ·rename_i h;rw[h];show _=_*2 ^ 0;rw[Nat.pow_zero,ξO]
 ·rfl
theorem V6a(b:Nat):Yf9 b<9007199254740992:=by unfold Yf9;split <;> omega
theorem Vyu{b:Nat}(h:b<=QXS):Qub b<=2046:=by
 unfold Qub;have:b/4503599627370496<=QXS/4503599627370496:=Nat.div_le_div_right h;have e:QXS/4503599627370496=2047:=by decide
 omega
theorem ZW9{m off:Nat}(ho:off<64):m*2 ^ off%2 ^ 64+2 ^ 64*(m/2 ^ (64-off))=m*2 ^ off:=by
 have h1:=Nat.mod_add_div (m*2 ^ off) (2 ^ 64)
 have h2:m*2 ^ off/2 ^ 64=m/2 ^ (64-off):=by
  rw[Xrr ho,ζM m,Nat.mul_div_mul_left _ _ (Nat.two_pow_pos off)]
 rw[h2]at h1;exact h1
theorem Xll(m ex:Nat):(m*2 ^ (ex%64))*(2 ^ 64) ^ (ex/64)=m*2 ^ ex:=by
 rw[<-Nat.pow_mul,ζU,<-Nat.pow_add,show ex%64+64*(ex/64)=ex by omega]
theorem XYn{K n n' v c:Nat}{S:Int}(h:(n:Int)=S%(K:Int))(hl:n' < K)(e:n' + c*K=n+v):(n':Int)=(S+v)%(K:Int):=by
 have e1:(n':Int)=(n:Int)+v-c*K:=by
  have:((n' + c*K:Nat):Int)=((n+v:Nat):Int):=by rw[e]
  simp only[Int.natCast_add,ξB]at this;omega
 have h2:(n':Int)%(K:Int)=n':=ξI Ω Ω;rw[<-h2,e1,h];rw[Int.sub_mul_emod_self_right,Int.emod_add_emod]
theorem Ye6{K n n' v c:Nat}{S:Int}(h:(n:Int)=S%(K:Int))(hl:n' < K)(e:n' + v=n+c*K):(n':Int)=(S-v)%(K:Int):=by
 have e1:(n':Int)=(n:Int)-v+c*K:=by
  have:((n' + v:Nat):Int)=((n+c*K:Nat):Int):=by rw[e]
  simp only[Int.natCast_add,ξB]at this;omega
 have h2:(n':Int)%(K:Int)=n':=ξI Ω Ω;rw[<-h2,e1,h];rw[Int.add_mul_emod_self_right,Int.emod_sub_emod]
def Q6E(l:List Nat):Nat:=(l.map λb=>if b<QXS then JHm b else 0).sum
def VxH(l:List Nat):Nat:=(l.map λb=>if 9223372036854775808<=b/\b<9223372036854775808+QXS then JHm (b-9223372036854775808)else 0).sum
theorem Y3B{b:Nat}(h:b<QXS):JHm b<JHm QXS:=Q4o h
theorem X2h:∀l:List Nat,Q6E l<=l.length*JHm QXS
 | []=>by simp[Q6E]
 | b :: l=>by
  have h:=X2h l;unfold Q6E at h⊢;simp only[ξz,List.sum_cons,List.length_cons,Nat.succ_mul]
  have:(if b<QXS then JHm b else 0)<=JHm QXS:=by
   split
   ·rename_i hb;exact ζG (Y3B hb)
   ·exact ζb _
  omega
theorem QXW:∀l:List Nat,VxH l<=l.length*JHm QXS
 | []=>by simp[VxH]
 | b :: l=>by
  have h:=QXW l;unfold VxH at h⊢;simp only[ξz,List.sum_cons,List.length_cons,Nat.succ_mul]
  have:(if 9223372036854775808<=b/\b<9223372036854775808+QXS then JHm (b-9223372036854775808)else 0)<=JHm QXS:=by
   split
   ·rename_i hb;exact ζG (Y3B Ω)
   ·exact ζb _
  omega
end
end
section
section
open Go.RowKit Word
def sgN:Nat:=9223372036854775808
def QRR(l:List Nat):Nat:=
 if (l.any λb=>decide (QXS<b%sgN))||((l.any λb=>b==QXS)&&(l.any λb=>b==QXS+sgN))then 9221120237041090560
 else if l.any λb=>b==QXS then QXS
 else if l.any λb=>b==QXS+sgN then QXS+sgN
 else if decide (0<l.length)&&(l.all λb=>b==sgN)then sgN
 else if Q6E l<VxH l then X5K (VxH l-Q6E l)+sgN else X5K (Q6E l-VxH l)
def VUa(a b:Nat):Bool:=if decide (sgN<=a) !=decide (sgN<=b)then decide (sgN<=a)else if sgN<=a then decide (b<a)else decide (a<b)
structure GOp where
 kd:Int
 a:Int
 b:Int
 i:Int
 h:Hdr
 wd:Nat
 fl:Nat
structure GRe where
 code:Int
 is:Bool
 n:Int
 wd:Nat
 h:Hdr
def GRe.no(e:Int):GRe:=⟨e,false,0,0,⟨0,0,0⟩⟩
def Gph.sl(g:Gph)(a:Int):Bool:=decide (0<=a)&&decide (a<g.S.length)
def Gph.at(g:Gph)(a:Int):Nat:=g.S.getD a.toNat 0
def Gph.fdE(g:Gph)(a i kd:Int):Int:=
 if g.sl a then (if g.at a=0 then 18 else if Yoq (g.ob (g.at a)).hdr i=0 then 19 else if Yoq (g.ob (g.at a)).hdr i=kd then 0 else 20)else 17
def Gph.fdV(g:Gph)(a i kd:Int):Nat:=if g.fdE a i kd=0 then (g.ob (g.at a)).w.getD i.toNat 0 else 0
def Gph.setSl(g:Gph)(a:Int)(y:Nat):Gph:=⟨g.L,g.S.set a.toNat y⟩
def Gph.setFd(g:Gph)(a i:Int)(y:Nat):Gph:=g.put (g.at a) i.toNat y
def Gph.alE(C:Nat)(g:Gph)(a:Int)(h:Hdr):Int:=if g.sl a then (if JQC h≠0 then 15 else if (C:Int)<g.words+Z3o h then 21 else 0)else 17
def Gph.alG(C:Nat)(g:Gph)(a:Int)(h:Hdr):Gph:=if g.alE C a h=0 then g.add a.toNat h.p.toNat h.f.toNat h.k.toNat else g
def Gph.two(g:Gph)(a b:Int)(e:Int):Int:=if g.sl a&&g.sl b then e else 17
def Gph.loE(g:Gph)(a b i:Int):Int:=g.two a b (g.fdE b i 1)
def Gph.loG(g:Gph)(a b i:Int):Gph:=if g.loE a b i=0 then g.setSl a (g.fdV b i 1)else g
def Gph.stE(g:Gph)(a i b:Int):Int:=g.two a b (g.fdE a i 1)
def Gph.stG(g:Gph)(a i b:Int):Gph:=if g.stE a i b=0 then g.setFd a i (g.at b)else g
def Gph.wrG(g:Gph)(a i kd:Int)(y:Nat):Gph:=if g.fdE a i kd=0 then g.setFd a i y else g
def Gph.cpG(g:Gph)(a b:Int):Gph:=if g.sl a&&g.sl b then g.setSl a (g.at b)else g
def Gph.clG(g:Gph)(a:Int):Gph:=if g.sl a then g.setSl a 0 else g
def Gph.slE(g:Gph)(a:Int):Int:=if g.sl a then 0 else 17
def Gph.shE(g:Gph)(a:Int):Int:=if g.sl a then (if g.at a=0 then 18 else 0)else 17
def Gph.shH(g:Gph)(a:Int):Hdr:=if g.shE a=0 then (g.ob (g.at a)).hdr else ⟨0,0,0⟩
def GOb.fls(o:GOb):List Nat:=(o.w.drop o.p).take o.f
def Gph.smV(g:Gph)(a:Int):Nat:=if g.shE a=0 then QRR (g.ob (g.at a)).fls else 0
def Gph.orE(g:Gph)(a i b k:Int):Int:=if g.fdE a i 2=0 then g.fdE b k 2 else g.fdE a i 2
def Gph.orV(g:Gph)(a i b k:Int):Int:=
 if g.orE a i b k=0 then (if VUa (g.fdV a i 2) (g.fdV b k 2)then -1 else if VUa (g.fdV b k 2) (g.fdV a i 2)then 1 else 0)else 0
def GOp.doG(C:Nat)(x:GOp)(g:Gph):Gph:=
 if x.kd=1 then g.alG C x.a x.h else if x.kd=2 then g.loG x.a x.b x.i else if x.kd=3 then g.stG x.a x.i x.b else if x.kd=5 then g.wrG x.a x.i 3 x.wd
 else if x.kd=7 then g.wrG x.a x.i 2 x.fl else if x.kd=8 then g.cpG x.a x.b else if x.kd=9 then g.clG x.a else g
def GOp.doR(C:Nat)(x:GOp)(g:Gph):GRe:=
 if x.kd=1 then .no (g.alE C x.a x.h)
 else if x.kd=2 then .no (g.loE x.a x.b x.i)
 else if x.kd=3 then .no (g.stE x.a x.i x.b)
 else if x.kd=4 then ⟨g.fdE x.a x.i 3,false,0,g.fdV x.a x.i 3,⟨0,0,0⟩⟩
 else if x.kd=5 then .no (g.fdE x.a x.i 3)
 else if x.kd=6 then ⟨g.fdE x.a x.i 2,false,0,g.fdV x.a x.i 2,⟨0,0,0⟩⟩
 else if x.kd=7 then .no (g.fdE x.a x.i 2)
 else if x.kd=8 then .no (g.two x.a x.b 0)
 else if x.kd=9 then .no (g.slE x.a)
 else if x.kd=10 then ⟨g.two x.a x.b 0,g.sl x.a&&g.sl x.b&&(g.at x.a==g.at x.b),0,0,⟨0,0,0⟩⟩
 else if x.kd=11 then ⟨g.shE x.a,false,0,0,g.shH x.a⟩
 else if x.kd=12 then ⟨g.shE x.a,false,0,g.smV x.a,⟨0,0,0⟩⟩
 else if x.kd=13 then ⟨g.orE x.a x.i x.b (if x.wd<256 then x.wd else -1),false,g.orV x.a x.i x.b (if x.wd<256 then x.wd else -1),0,⟨0,0,0⟩⟩
 else if x.kd=14 then ⟨0,false,(g.all.length:Nat),g.words,⟨0,0,0⟩⟩
 else if 15<=x.kd/\x.kd<=17 then .no 0 else .no 24
end
end
section
section
open Go.RowKit Word
theorem VBi(b:Nat)(w:World):(callFunc 64 #[.int .u64 b]).run prog w=.ok (.value (.float .f64 b)) w:=by kernel_rfl
theorem ZI9(b:Nat)(w:World):(callFunc 25 #[.float .f64 b]).run prog w=.ok (.value (.int .u64 b)) w:=by kernel_rfl
theorem J1k(b:Nat)(w:World):Calls prog 52 #[.int .u64 b] w λe w'=>e=.returned (.float .f64 b)/\w=w':=by
 have h1:=VBi b;go_enter func52,ntmps52;go_wp2;go_ret;exact⟨rfl,rfl⟩
theorem ZYt(b:Nat)(w:World):Calls prog 9 #[.float .f64 b] w λe w'=>e=.returned (.int .u64 b)/\w=w':=by
 have h1:=ZI9 b;go_enter func9,ntmps9;go_wp2;go_ret;exact⟨rfl,rfl⟩
end
end
section
section
open Go.RowKit Word
theorem XTi(n:Nat)(hn:n<18446744073709551616):bits .xor .u64 IntKind.u64.max (n:Int)=((18446744073709551615-n:Nat):Int):=by
 have h1:(BitVec.ofInt 64 (n:Int)).toNat=n:=by
  rw[BitVec.ofInt_natCast,BitVec.toNat_ofNat];exact ξc Ω
 have h2:BitVec.ofInt 64 IntKind.u64.max=BitVec.allOnes 64:=by decide
 show IntKind.u64.wrap ((BitVec.ofInt 64 IntKind.u64.max ^^^ BitVec.ofInt 64 (n:Int)).toNat:Int)=_
 rw[h2,BitVec.allOnes_xor,BitVec.toNat_not,h1,ζx];omega
theorem ZmL{b:Nat}(hb:b<18446744073709551616):bits .and .u64 (b:Int) 9223372036854775808=((if sgN<=b then 9223372036854775808 else 0:Nat):Int):=by
 have e:(9223372036854775808:Int)=((9223372036854775808:Nat):Int):=rfl;rw[e,Jp7 b _ hb Ω];refine congrArg Nat.cast (ξP λi=>?_);rw[Nat.testBit_and,show (9223372036854775808:Nat)=2 ^ 63 from rfl,Nat.testBit_two_pow];by_cases hi:63=i
 ·subst hi;rw[υ rfl,Bool.and_true,Nat.testBit_eq_decide_div_mod_eq];unfold sgN
  split
  ·rw[Nat.testBit_two_pow,υ Ω];rfl
  ·rw[Nat.zero_testBit,π Ω]
 ·rw[π hi,Bool.and_false]
  split
  ·rw[Nat.testBit_two_pow,π hi]
  ·rw[Nat.zero_testBit]
theorem Jrr{b:Nat}(hb:b<9223372036854775808):bits .or .u64 (b:Int) 9223372036854775808=((b+9223372036854775808:Nat):Int):=by
 have e:(9223372036854775808:Int)=((1*9223372036854775808:Nat):Int):=rfl;rw[e,bits_or_u64_nat b _ Ω Ω,XEA b 1 63 9223372036854775808 (by decide) hb,ξl,ξd]
theorem VsF{b:Nat}(hb:b<18446744073709551616):bits .and .u64 (b:Int) 4503599627370495=((b%4503599627370496:Nat):Int):=by
 have e:(4503599627370495:Int)=((4503599627370495:Nat):Int):=rfl;rw[e,Jp7 b _ hb Ω,show (4503599627370495:Nat)=2 ^ 52-1 from rfl,Nat.and_two_pow_sub_one_eq_mod]
theorem Y5q{b:Nat}(hb:b<4096):bits .and .u64 (b:Int) 2047=((b%2048:Nat):Int):=by
 have e:(2047:Int)=((2047:Nat):Int):=rfl;rw[e,Jp7 b _ Ω Ω,show (2047:Nat)=2 ^ 11-1 from rfl,Nat.and_two_pow_sub_one_eq_mod]
theorem Zvp(b:Nat)(hb:b<18446744073709551616)(w:World):Calls prog 62 #[.float .f64 b] w λe w'=>e=.returned (.bool (decide (sgN<=b)))/\w=w':=by
 have h1:=ZmL hb;by_cases h:sgN<=b
 ·rw[χ h]at h1;rw[υ h];clear h;go_enter func62,ntmps62;go_wp2_with(go_at_call 9;refine(ZYt b _).mono ?_;rintro e w1 ⟨rfl,rfl⟩);go_ret;exact⟨rfl,rfl⟩
 ·rw[ν h]at h1;rw[π h];clear h;go_enter func62,ntmps62;go_wp2_with(go_at_call 9;refine(ZYt b _).mono ?_;rintro e w1 ⟨rfl,rfl⟩);go_ret;exact⟨rfl,rfl⟩
def Qsp(b:Nat):Nat:=if sgN<=b then 18446744073709551615-b else b+9223372036854775808
theorem J82(b:Nat)(hb:b<18446744073709551616)(w:World):Calls prog 68 #[.float .f64 b] w λe w'=>e=.returned (.int .u64 (Qsp b:Nat))/\w=w':=by
 have h1:=ZmL hb;unfold Qsp;by_cases h:sgN<=b
 ·rw[χ h]at h1;rw[χ h];have h2:=XTi b hb;clear h;go_enter func68,ntmps68;go_wp2_with(go_at_call 9;refine(ZYt b _).mono ?_;rintro e w1 ⟨rfl,rfl⟩);go_ret;exact⟨rfl,rfl⟩
 ·rw[ν h]at h1;rw[ν h];have h2:=Jrr (b:=b) (by unfold sgN at h;omega);clear h;go_enter func68,ntmps68;go_wp2_with(go_at_call 9;refine(ZYt b _).mono ?_;rintro e w1 ⟨rfl,rfl⟩);go_ret;exact⟨rfl,rfl⟩
theorem ZXy{a b:Nat}(ha:a<18446744073709551616)(hb:b<18446744073709551616):decide (Qsp a<Qsp b)=VUa a b:=by
 unfold Qsp VUa sgN;by_cases h1:9223372036854775808<=a
 ·by_cases h2:9223372036854775808<=b
  ·simp only[h1,h2,if_true,decide_true,bne_self_eq_false,Bool.false_eq_true,if_false];exact ζP.2 Ω
  ·simp only[h1,h2,if_true,if_false,decide_true,decide_false];rw[υ Ω];rfl
 ·by_cases h2:9223372036854775808<=b
  ·simp only[h1,h2,if_true,if_false,decide_true,decide_false];rw[π Ω];rfl
  ·simp only[h1,h2,if_false,decide_false,bne_self_eq_false,Bool.false_eq_true];exact ζP.2 Ω
theorem ZZy(a b:Nat)(ha:a<18446744073709551616)(hb:b<18446744073709551616)(w:World):Calls prog 54 #[.float .f64 a,.float .f64 b] w λe w'=>e=.returned (.bool (VUa a b))/\w=w':=by
 have HK:=hid (ZXy ha hb);have HX:=hid (ζp ha hb);generalize VUa a b=bb at HK⊢;clear ha hb;go_enter func54,ntmps54;go_wp2_with(go_at_call 68;refine(J82 _ (by first|exact HX.o.1 |exact HX.o.2) _).mono ?_;rintro e w1 ⟨rfl,rfl⟩);go_ret;exact⟨by rw[<-HK.o];congr 2,rfl⟩
def ZNP(b:Nat):Int:=if QXS<b%sgN then 4 else if b%sgN=QXS then 3 else if 4503599627370496<=b%sgN then 2 else if 0<b%sgN then 1 else 0
theorem Y8f(b:Nat)(hb:b<18446744073709551616)(w:World):Calls prog 61 #[.float .f64 b] w λe w'=>e=.returned (.int .i64 (ZNP b))/\w=w':=by
 have h1:=VsF hb;have h2:bits .and .u64 (((b/4503599627370496:Nat):Int)) 2047=((b/4503599627370496%2048:Nat):Int):=Y5q Ω
 have hx:(ZNP b=4/\b/4503599627370496%2048=2047/\b%4503599627370496≠0)\/(ZNP b=3/\b/4503599627370496%2048=2047/\b%4503599627370496=0)\/(ZNP b=2/\b/4503599627370496%2048≠2047/\b/4503599627370496%2048≠0)\/(ZNP b=1/\b/4503599627370496%2048=0/\b%4503599627370496≠0)\/(ZNP b=0/\b/4503599627370496%2048=0/\b%4503599627370496=0):=by
  unfold ZNP QXS sgN
  split
  ·exact .inl ⟨rfl,by omega,by omega⟩
  ·split
   ·exact .inr (.inl ⟨rfl,by omega,by omega⟩)
   ·split
    ·exact .inr (.inr (.inl ⟨rfl,by omega,by omega⟩))
    ·split
     ·exact .inr (.inr (.inr (.inl ⟨rfl,by omega,by omega⟩)))
     ·exact .inr (.inr (.inr (.inr ⟨rfl,by omega,by omega⟩)))
 have h3:((b:Int)/4503599627370496)=((b/4503599627370496:Nat):Int):=rfl;generalize ZNP b=kd at hx⊢;obtain⟨q,hq⟩:∃q,q=b/4503599627370496:=⟨_,rfl⟩;rw[<-hq]at h2 h3 hx;obtain⟨x,hxx⟩:∃x,x=q%2048:=⟨_,rfl⟩;rw[<-hxx]at h2 hx;obtain⟨y,hy⟩:∃y,y=b%4503599627370496:=⟨_,rfl⟩;rw[<-hy]at h1 hx;have hq2:IntKind.u64.wrap (q:Int)=(q:Int):=by rw[ζx];omega
 clear hq hxx hy hb;rcases hx with⟨rfl,e1,e2⟩|⟨rfl,e1,e2⟩|⟨rfl,e1,e2⟩|⟨rfl,e1,e2⟩|⟨rfl,e1,e2⟩
 all_goals
  go_enter func61,ntmps61;go_wp2_with(go_at_call 9;refine(ZYt b _).mono ?_;rintro e w1 ⟨rfl,rfl⟩);go_ret;exact⟨rfl,rfl⟩
end
end
section
section
theorem YhX{B:Nat}:∀(l:List Nat) (i:Nat),lv B (l.take (i+1))=lv B (l.take i)+l.getD i 0*B ^ i
 | [],i=>by simp[lv]
 | x :: xs,0=>by simp[lv]
 | x :: xs,i+1=>by
  have h:=YhX (B:=B) xs i;simp only[List.take_succ_cons,lv,List.getD_cons_succ];rw[h,ξv,Nat.pow_succ,show xs.getD i 0*(B ^ i*B)=B*(xs.getD i 0*B ^ i)by ac_rfl];omega
structure ZdN(B:Nat)(a b out:List Nat)(i c:Nat):Prop where
 len:out.length=a.length/\a.length=b.length
 sum:lv B out+c*B ^ i=lv B (a.take i)+lv B (b.take i)
 nul:∀j,i<=j->out.getD j 0=0
 dig:∀x∈out,x<B
 car:c<=1
theorem XQI{B:Nat}(hB:0<B){l:List Nat}(h:∀x∈l,x<B)(i:Nat):l.getD i 0<B:=by
 rw[θ];rcases ζj i l.length with hi|hi
 ·rw[μ hi];exact h _ (ζo hi)
 ·rw[ζO hi];exact hB
theorem XRU(l:List Nat)(i j y:Nat):(l.set i y).getD j 0=if j=i/\i<l.length then y else l.getD j 0:=by
 rw[θ,θ,List.getElem?_set];by_cases e:i=j
 ·subst e;by_cases h:i<l.length
  ·rw[χ rfl,χ h,χ ⟨rfl,h⟩];rfl
  ·rw[χ rfl,ν h,ν (λhh=>h hh.2),ζO Ω]
 ·rw[ν e,ν (λhh=>e hh.1.symm)]
theorem JiW{B:Nat}{l:List Nat}(h:∀x∈l,x<B){i y:Nat}(hy:y<B):∀x∈l.set i y,x<B:=λx hx=>by
 rcases ζl hx with h1|h1
 ·exact h x h1
 ·rw[h1];exact hy
theorem ZdN.zero{B:Nat}(hB:0<B){a b:List Nat}(h:a.length=b.length):ZdN B a b (List.replicate a.length 0) 0 0:=by
 refine⟨⟨ζ1,h⟩,?_,λj _=>?_,λx hx=>?_,by omega⟩
 ·rw[(JYU hB).2 (λx hx=>(ζC.1 hx).2)];simp[lv]
 ·rw[θ,List.getElem?_replicate]
  split <;> rfl
 ·rw[(ζC.1 hx).2];exact hB
theorem ZdN.step{B:Nat}{a b out:List Nat}{i c:Nat}(hB:1<B)(ha:∀x∈a,x<B)(hb:∀x∈b,x<B)(h:ZdN B a b out i c)(hi:i<a.length):ZdN B a b (out.set i ((a.getD i 0+b.getD i 0+c)%B)) (i+1) ((a.getD i 0+b.getD i 0+c)/B):=by
 obtain⟨⟨h1,h1'⟩,h2,h3,h4,h5⟩:=h;have x1:=XQI Ω ha i;have x2:=XQI Ω hb i;have h6:=Vk5 (B:=B) (l:=out) (i:=i) Ω (a.getD i 0+b.getD i 0+c);rw[h3 i (ζe _),ω]at h6;refine⟨⟨by rw[ζf];exact h1,h1'⟩,?_,λj hj=>?_,JiW h4 (ζn _ Ω),?_⟩
 ·rw[YhX,YhX,h6,ζV,ζV];omega
 ·rw[XRU,ν Ω];exact h3 j Ω
 ·have:(a.getD i 0+b.getD i 0+c)/B<2:=by rw[ζm Ω];omega
  omega
theorem ZdN.done{B:Nat}{a b out:List Nat}{c:Nat}(h:ZdN B a b out a.length c)(hl:lv B a+lv B b<B ^ a.length):lv B out=lv B a+lv B b:=by
 have h2:=h.sum;rw[ζS,ζB (by rw[h.len.2];omega)]at h2;rcases(by have:=h.car;omega:c=0\/c=1)with rfl|rfl
 ·omega
 ·omega
structure QrV(B:Nat)(a b out:List Nat)(i c:Nat):Prop where
 len:out.length=a.length/\a.length=b.length
 sum:lv B out+lv B (b.take i)=lv B (a.take i)+c*B ^ i
 nul:∀j,i<=j->out.getD j 0=0
 dig:∀x∈out,x<B
 car:c<=1
theorem QrV.zero{B:Nat}(hB:0<B){a b:List Nat}(h:a.length=b.length):QrV B a b (List.replicate a.length 0) 0 0:=by
 have:=ZdN.zero hB h;refine⟨this.len,?_,this.nul,this.dig,this.car⟩;rw[(JYU hB).2 (λx hx=>(ζC.1 hx).2)];simp[lv]
theorem QrV.put{B:Nat}{a b out:List Nat}{i c y d:Nat}(h:QrV B a b out i c)(hi:i<a.length)(hy:y<B)(hd:d<=1)(e:y+b.getD i 0+c=a.getD i 0+d*B):QrV B a b (out.set i y) (i+1) d:=by
 obtain⟨⟨h1,h1'⟩,h2,h3,h4,h5⟩:=h;have h6:=X6T B out (i:=i) Ω y;rw[h3 i (ζe _),ζL,ζA]at h6;have e2:=congrArg (· * B ^ i) e;simp only[ζV]at e2;refine⟨⟨by rw[ζf];exact h1,h1'⟩,?_,λj hj=>?_,JiW h4 hy,hd⟩
 ·rw[YhX,YhX,h6,Nat.pow_succ,show d*(B ^ i*B)=d*B*B ^ i by ac_rfl];omega
 ·rw[XRU,ν Ω];exact h3 j Ω
theorem QrV.done{B:Nat}{a b out:List Nat}{c:Nat}(h:QrV B a b out a.length c)(hB:0<B)(hl:lv B b<=lv B a):lv B out=lv B a-lv B b:=by
 have h2:=h.sum;rw[ζS,ζB (by rw[h.len.2];omega)]at h2;have h3:=Ze9 hB h.dig;rw[h.len.1]at h3;rcases(by have:=h.car;omega:c=0\/c=1)with rfl|rfl
 ·omega
 ·omega
theorem QIt{B m q:Nat}{l:List Nat}(hB:0<B)(hm:m<B ^ 4)(hq:q+4<=l.length)(hz:∀x∈l,x=0):lv B ((((l.set q (m%B)).set (q+1) (m/B%B)).set (q+2) (m/B/B%B)).set (q+3) (m/B/B/B%B))=m*B ^ q:=by
 have z:∀j,l.getD j 0=0:=λj=>by
  rw[θ];rcases ζj j l.length with hi|hi
  ·rw[μ hi];exact hz _ (ζo hi)
  ·rw[ζO hi];rfl
 have s1:=X6T B l (i:=q) Ω (m%B);have s2:=X6T B (l.set q (m%B)) (i:=q+1) (by rw[ζf];omega) (m/B%B);have s3:=X6T B ((l.set q (m%B)).set (q+1) (m/B%B)) (i:=q+2) (by simp only[ζf];omega) (m/B/B%B);have s4:=X6T B (((l.set q (m%B)).set (q+1) (m/B%B)).set (q+2) (m/B/B%B)) (i:=q+3) (by simp only[ζf];omega) (m/B/B/B%B);rw[z,ζL,ζA,(JYU hB).2 hz,ω]at s1;rw[XRU,ν Ω,z,ζL,ζA,s1]at s2;rw[XRU,ν Ω,XRU,ν Ω,z,ζL,ζA,s2]at s3;rw[XRU,ν Ω,XRU,ν Ω,XRU,ν Ω,z,ζL,ζA,s3]at s4;rw[s4];have d1:=ζH m B;have d2:=ζH (m/B) B;have d3:=ζH (m/B/B) B
 have hl:m/B/B/B<B:=by
  rw[ζm hB,ζm hB,ζm hB];rw[show B*B*B*B=B ^ 4 by simp[Nat.pow_succ]];exact hm
 rw[ξc hl];generalize m/B/B/B=w at *
 generalize m/B/B%B=z2 at *
 generalize m/B%B=z1 at *
 generalize m%B=z0 at *
 rw[<-d3]at d2;rw[<-d2]at d1;rw[<-d1];simp only[Nat.pow_succ,ζV,ξv];have p1:B*(B*(B*w))*B ^ q=w*(B ^ q*B*B*B):=by ac_rfl
 have p2:B*(B*z2)*B ^ q=z2*(B ^ q*B*B):=by ac_rfl
 have p3:B*z1*B ^ q=z1*(B ^ q*B):=by ac_rfl
 omega
end
end
section
section
structure JYm(B:Nat)(l l':List Nat)(i c:Nat):Prop where
 len:l'.length=l.length
 sum:lv B l' + lv B (l.take i)+c*B ^ i=B ^ i+B ^ i*lv B (l.drop i)
 same:∀j,i<=j->l'.getD j 0=l.getD j 0
 dig:∀x∈l',x<B
 car:c<=1
theorem JYm.zero{B:Nat}{l:List Nat}(h:∀x∈l,x<B):JYm B l l 0 1:=⟨rfl,by simp[lv];omega,λ_ _=>rfl,h,ζe _⟩
theorem JYm.step{B:Nat}{l l':List Nat}{i c:Nat}(hB:1<B)(hl:∀x∈l,x<B)(h:JYm B l l' i c)(hi:i<l.length):JYm B l (l'.set i ((B-1-l.getD i 0+c)%B)) (i+1) ((B-1-l.getD i 0+c)/B):=by
 obtain⟨h1,h2,h3,h4,h5⟩:=h;have hx:=XQI Ω hl i;have hs:=X6T B l' (i:=i) Ω ((B-1-l.getD i 0+c)%B);rw[h3 i (ζe _)]at hs;have hd:=ζH (B-1-l.getD i 0+c) B;rw[V2t hi]at h2;refine⟨by rw[ζf];exact h1,?_,λj hj=>?_,JiW h4 (ζn _ Ω),?_⟩
 ·rw[YhX];clear h3 h4 hl;generalize l.getD i 0=x at hx hs hd h2⊢;generalize (B-1-x+c)%B=y at hs hd⊢;generalize (B-1-x+c)/B=q at hd⊢;have e:y+B*q+x+1=B+c:=Ω
  have e2:=congrArg (· * B ^ i) e;simp only[ζV,ξl]at e2;rw[ξv]at h2;generalize lv B (l.drop (i+1))=Y at h2⊢;rw[Nat.pow_succ,show q*(B ^ i*B)=B*q*B ^ i by ac_rfl,show B ^ i*B*Y=B ^ i*(B*Y)by ac_rfl,ζM (B ^ i) B];rw[ζM (B ^ i) x]at h2;omega
 ·rw[XRU,ν Ω];exact h3 j Ω
 ·have:(B-1-l.getD i 0+c)/B<2:=by rw[ζm Ω];omega
  omega
theorem JYm.done{B:Nat}{l l':List Nat}{c:Nat}(h:JYm B l l' l.length c)(hp:0<lv B l):lv B l'=B ^ l.length-lv B l:=by
 have h2:=h.sum;rw[ζS,List.drop_length]at h2;simp only[lv,Nat.mul_zero,ζA]at h2;rcases(by have:=h.car;omega:c=0\/c=1)with rfl|rfl
 ·omega
 ·omega
theorem LvPz {B k off : Nat} {l : List Nat} (h : ¬ lv B l < 2 ^ (64 * k + off)) : 0 < lv B l := by
  rcases Nat.eq_zero_or_pos (lv B l) with h0 | h0
  · exact absurd (h0 ▸ Nat.two_pow_pos _) h
  · exact h0
theorem LvPy {k : Nat} {l : List Nat} (hl : ∀ x ∈ l, x < 2 ^ 64) (hn : l.length = k + 1) : l.getD k 0 / 2 ^ 63 = 0 ↔ lv (2 ^ 64) l < 2 ^ (64 * k + 63) := by
  have h1 := VFZ hl (i := k) (off := 63) (by omega) (by decide)
  have h2 := Ze9 (Nat.two_pow_pos 64) hl
  have e35 : (2 : Nat) ^ (64 * (k + 1)) = 2 ^ (64 * k + 63) * 2 := by
    rw [show 64 * (k + 1) = 64 * k + 63 + 1 by omega, Nat.pow_succ]
  rw [hn, ← Nat.pow_mul, e35] at h2
  clear e35
  have h3 : l.getD k 0 < 2 ^ 64 := XQI (Nat.two_pow_pos 64) hl k
  have p : 0 < 2 ^ (64 * k + 63) := Nat.two_pow_pos _
  generalize 2 ^ (64 * k + 63) = M at *
  have h4 : lv (2 ^ 64) l / M < 2 := by
    rw [Nat.div_lt_iff_lt_mul p]
    omega
  have h5 : l.getD k 0 / 2 ^ 63 < 2 := by rw [Nat.div_lt_iff_lt_mul (Nat.two_pow_pos 63)]; omega
  have h6 : lv (2 ^ 64) l / M = 0 ↔ lv (2 ^ 64) l < M := by
    constructor
    · intro h; exact (Nat.div_eq_zero_iff_lt p).1 h
    · intro h; exact Nat.div_eq_of_lt h
  rw [← h6]
  generalize lv (2 ^ 64) l / M = A at h1 h4 ⊢
  generalize l.getD k 0 / 2 ^ 63 = C at h1 h5 ⊢
  omega
theorem Qrb {l : List Nat} (hl : ∀ x ∈ l, x < 2 ^ 64) (hn : l.length = 35) : l.getD 34 0 / 2 ^ 63 = 0 ↔ lv (2 ^ 64) l < 2 ^ (64 * 34 + 63) := LvPy (k := 34) hl hn
theorem ZSr(b:Nat):Yf9 b*65536 ^ (Qub b/16)*2 ^ (Qub b%16)=JHm b:=by
 rw[Z2l,show (65536:Nat)=2 ^ 16 by decide,<-Nat.pow_mul,ζU,<-Nat.pow_add,show 16*(Qub b/16)+Qub b%16=Qub b by omega]
theorem XJ1:256*JHm QXS<65536 ^ 140:=by decide +kernel
theorem QaL:256*JHm QXS<2 ^ (64*34+63):=by decide +kernel
end
end
section
section
def frL(l:List Nat)(k:Nat):Nat:=(l.getD (k/64) 0/2 ^ (k%64)+l.getD (k/64+1) 0*2 ^ (64-k%64)%18446744073709551616)%9007199254740992
theorem QER{l:List Nat}(hl:∀x∈l,x<2 ^ 64){k:Nat}(hk:k/64<l.length):lv (2 ^ 64) l/2 ^ k%9007199254740992=frL l k:=by
 have h:=ZrJ hl hk (ζn k (show 0<64 by decide));rw[ζH]at h;exact h
def blL(l:List Nat)(k:Nat):Prop:=(∃x∈l.take (k/64),x≠0)\/l.getD (k/64) 0%2 ^ (k%64)≠0
theorem JKi{l:List Nat}(hl:∀x∈l,x<2 ^ 64){k:Nat}(hk:k/64<l.length):0<lv (2 ^ 64) l%2 ^ k↔blL l k:=by
 have h:=YPW hl hk (ζn k (show 0<64 by decide));rw[ζH]at h;unfold blL;constructor
 ·intro hp;refine Classical.byContradiction λhn=>?_;have:lv (2 ^ 64) l%2 ^ k=0:=h.2 ⟨λx hx=>Classical.byContradiction λhx0=>hn (.inl ⟨x,hx,hx0⟩),Classical.byContradiction λhx0=>hn (.inr hx0)⟩;omega
 ·intro hb;refine Nat.pos_of_ne_zero λh0=>?_;obtain⟨h1,h2⟩:=h.1 h0;rcases hb with⟨x,hx,hx0⟩|hb
  ·exact hx0 (h1 x hx)
  ·exact hb h2
theorem Qkn{x off:Nat}(ho:off<64):(0<x*2 ^ (63-off)%18446744073709551616*2%18446744073709551616/\0<off)↔x%2 ^ off≠0:=by
 rw[X5x ho];have hp:=Nat.two_pow_pos (64-off);constructor
 ·rintro⟨h1,-⟩ h0;rw[h0]at h1;omega
 ·intro h;refine⟨Nat.mul_pos hp (Nat.pos_of_ne_zero h),Nat.pos_of_ne_zero λh0=>?_⟩;subst h0;exact h (Nat.mod_one _)
theorem Yt9{l:List Nat}(hl:∀x∈l,x<2 ^ 64){k:Nat}(hk:k/64<l.length):lv (2 ^ 64) l/2 ^ k%2=l.getD (k/64) 0/2 ^ (k%64)%2:=by
 have h:=VFZ hl hk (ζn k (show 0<64 by decide));rw[ζH]at h;exact h
theorem Vrg{l:List Nat}(hl:∀x∈l,x<2 ^ 64){k:Nat}(hk:k=X3A (lv (2 ^ 64) l)-53)(hi:k/64<l.length):(k=0->X5K (lv (2 ^ 64) l)=min (frL l 0) QXS) ∧
  (0<k->l.getD ((k-1)/64) 0/2 ^ ((k-1)%64)%2=1->(frL l k%2=1\/blL l (k-1))->X5K (lv (2 ^ 64) l)=min (k*4503599627370496+frL l k+1) QXS) ∧
  (0<k->¬(l.getD ((k-1)/64) 0/2 ^ ((k-1)%64)%2=1/\(frL l k%2=1\/blL l (k-1)))->X5K (lv (2 ^ 64) l)=min (k*4503599627370496+frL l k) QXS):=by
 have hj:(k-1)/64<l.length:=Ω
 have h1:=QER hl hi;have h2:=Yt9 hl hj;have h3:=JKi hl hj
 have e:X5K (lv (2 ^ 64) l)=min (if 0<k/\l.getD ((k-1)/64) 0/2 ^ ((k-1)%64)%2=1/\(frL l k%2=1\/0<lv (2 ^ 64) l%2 ^ (k-1))then k*4503599627370496+frL l k+1 else k*4503599627370496+frL l k) QXS:=by
  unfold X5K;simp only[<-hk];rw[h1,h2]
 rw[e];refine⟨λh0=>?_,λh0 ha hb=>?_,λh0 hn=>?_⟩
 ·rw[ν Ω,h0,ζL,ω]
 ·rw[χ ⟨h0,ha,hb.imp id h3.2⟩]
 ·rw[ν (λhh=>hn ⟨hh.2.1,hh.2.2.imp id h3.1⟩)]
end
end
section
section
open Go.RowKit
def JrA(o:Oper):Bool:=match o.op with| .extract .. | .move _| .assign _=>true|_=>false
section
variable {P:Program} {ops:Array Oper} {Q:Exit->Act->World->Prop} {md:Region.Mode} {S:World->Prop}
def Ju8(ops:Array Oper)(k:Nat):Bool:=(ops[k]?).any JrA
theorem J27{o:Oper}{v:Value}{a:Act}{w0:World}(hp:JrA o=true)(hy:YieldsIf P ops S o v a)(hS:S w0):YieldsIf P ops (λ_=>True) o v a:=by
 rcases hy with⟨hw,hv⟩|⟨hw,rfl⟩
 ·refine .inl ⟨hw,λw _=>?_⟩;have h:=hv w0 hS;unfold JrA at hp
  split at hp
  ·rename_i t ix he;unfold execOp at h⊢;rw[he]at h⊢;simp only[Instr.extract]at h⊢
   split at h
   ·split at h
    ·simp[go_sem]at h⊢;exact h
    ·simp[go_sem]at h
   ·simp[go_sem]at h
  ·rename_i x he;unfold execOp at h⊢;rw[he]at h⊢;simp[go_sem]at h⊢;exact h
  ·rename_i x he;unfold execOp at h⊢;rw[he]at h⊢;simp[go_sem]at h⊢;exact h
  ·cases hp
 ·exact .inr ⟨hw,rfl⟩
def V0r(P:Program)(md:Region.Mode)(ops:Array Oper)(Q:Exit->Act->World->Prop)(S:World->Prop)(z:Nat):Nat->Array Bool->Act->World->Prop
 | 0,listed,a,w=>Region.ready md ops listed=[]/\Q .normal a w
 | f+1,listed,a,w=>
  (Region.ready md ops listed=[]->Q .normal a w) ∧
  ∀i∈Region.ready md ops listed,wpOp P ops Q i (λa' w'=>(i=z\/(S w->S w'))/\V0r P md ops Q S z f (listed.setIfInBounds i true) a' w') a w
theorem Vfs{z:Nat}:∀(f:Nat) (listed:Array Bool) (a:Act) (w:World),V0r P md ops Q S z f listed a w->wpAny P md ops Q f listed a w
 | 0,_,_,_,h=>h
 | f+1,_,_,_,h=>⟨h.1,λi hi=>wpOp_mono (λa' w' h'=>Vfs f _ a' w' h'.2) (h.2 i hi)⟩
def ZRv(md:Region.Mode)(ops:Array Oper)(z:Nat):Bool:=(List.range ops.size).all λi=>decide (i=z)||Ju8 ops i||anc md ops ops.size z i
theorem XTA{listed:Array Bool}{z i:Nat}(hz:ZRv md ops z=true)(h:ZVQ md ops listed)(hr:z∈Region.ready md ops listed)(hi:i<ops.size)(hne:i≠z)(hp:Ju8 ops i=false):listed.getD i false=true:=by
 obtain⟨_,oz,hoz,hall⟩:=mem_ready.1 hr;simp only[ZRv,ξN,ζq,ζZ,List.mem_range]at hz
 have h3:anc md ops ops.size z i=true:=by
  rcases hz i hi with(h1|h1)|h1
  ·exact absurd h1 hne
  ·rw[hp]at h1;cases h1
  ·exact h1
 exact JZc h _ z i oz hoz hall h3
theorem VAh{z i:Nat}{oi:Oper}{v:Value}(hi:ops[i]?=some oi)(hne:i≠z)(hsel:∀(j:Nat) (o:Oper) cs b,ops[j]?=some o->o.op≠.select cs b)
  (hQ:∀c a w,Q (.panic c) (a.put oi.dst v) w->Q (.panic c) a w) (hz:ZRv md ops z=true) {S':World->Prop} (hS':(S'=S/\Ju8 ops i=false)\/S'=λ_=>True):
  ∀(f:Nat) (listed:Array Bool) (a:Act) (w:World),ZVQ md ops listed →
   (∀j oj,ops[j]?=some oj->j≠i->listed.getD j true=false->(∀e∈oj.after,Region.binds md e=true->e.on≠i)->oi.apart ops oj=true) →
   i∈Region.ready md ops listed->YieldsIf P ops S' oi v a->S' w →
   V0r P md ops Q S z f (listed.setIfInBounds i true) (a.put oi.dst v) w->V0r P md ops Q S z (f+1) listed a w:=by
 intro f
 induction f with
 | zero=>
  intro listed a w _ _ hr hy hS H;refine⟨λh=>(by rw[h]at hr;cases hr),λj hj=>?_⟩;by_cases hji:j=i
  ·subst hji;exact hy.wpOp hi hS ⟨.inr id,H⟩
  ·have:=ready_mono hj hji;rw[H.1]at this;cases this
 | succ f ih=>
  intro listed a w hcl hfree hr hy hS H;refine⟨λh=>(by rw[h]at hr;cases hr),λj hj=>?_⟩;by_cases hji:j=i
  ·subst hji;exact hy.wpOp hi hS ⟨.inr id,H⟩
  ·have h1:=H.2 j (ready_mono hj hji);obtain⟨hjun,oj,hoj,hall⟩:=mem_ready.1 hj;have hun:=(mem_ready.1 hr).1;have hnot:∀e∈oj.after,Region.binds md e=true->e.on≠i:=λe he hb heq=>X2k hun (heq▸hall e he hb);have h2:=wpOp_putIf hoj (hfree j oj hoj hji hjun hnot) (λcs b=>hsel i oi cs b hi) (λcs b=>hsel j oj cs b hoj) hQ hy h1
   have hfree':∀k ok,ops[k]?=some ok->k≠i->(listed.setIfInBounds j true).getD k true=false →
     (∀e∈ok.after,Region.binds md e=true->e.on≠i)->oi.apart ops ok=true:=λk ok hk hki hun hno=>by
    refine hfree k ok hk hki ?_ hno;by_cases hjk:j=k
    ·subst hjk;exact hjun
    ·rw[getD_set_ne true hjk]at hun;exact hun
   refine wpOp_mono (λa' w' h3=>?_) h2;obtain⟨h3,h4,h5⟩:=h3
   have hSw:S' w':=by
    rcases hS' with⟨rfl,hpa⟩|rfl
    ·rcases h4 with h4|h4
     ·subst h4;exact(X2k hun (XTA hz hcl hj (ζF.1 hi).1 hne hpa)).elim
     ·exact h4 hS
    ·trivial
   refine⟨h4,ih (listed.setIfInBounds j true) a' w' (hcl.set hj) hfree' (ready_mono hr (Ne.symm hji)) h3 hSw ?_⟩;rw[Array.setIfInBounds_comm _ _ hji];exact h5
def YcN(md:Region.Mode)(ops:Array Oper)(z:Nat):List (Bool×Nat)->Array Bool->Bool
 | [],listed=>(Region.ready md ops listed).isEmpty
 | (true,k) :: r,listed=>decide (Region.ready md ops listed=[k])&&(decide (k≠z)||r.all λx=>x.1||Ju8 ops x.2)&&YcN md ops z r (listed.setIfInBounds k true)
 | (false,k) :: r,listed=>(Region.ready md ops listed).contains k&&Region.free md ops listed k&&((ops[k]?).any QK6)&&decide (k≠z)&&YcN md ops z r (listed.setIfInBounds k true)
def Zrk(P:Program)(l:List Oper)(S:World->Prop)(z:Nat)(Q:Exit->Act->World->Prop):List (List Nat×Nat)->List Nat->Act->World->Prop
 | [],fin,a,w=>wpQuiet P l.toArray S (λa'=>Q .normal a' w) (XZy l fin) a
 | (qs,k) :: r,fin,a,w=>wpQuiet P l.toArray S (λa'=>wpList P l.toArray (Exit.then (λa2 w2=>(k=z\/S w2)/\Zrk P l S z Q r fin a2 w2) Q) (XZy l [k]) a' w) (XZy l qs) a
end
section
variable {P:Program} {l:List Oper} {Q:Exit->Act->World->Prop} {md:Region.Mode} {S:World->Prop} {z:Nat}
theorem XnZ(hsel:Region.noSelect l.toArray=true)(hQ:∀c a b w,Q (.panic c) b w->Q (.panic c) a w)(hz:ZRv md l.toArray z=true){w w0:World}(hw0:S w0){K:Act->Prop}{R:List (Bool×Nat)}{f:Nat}
  (hK:∀listed a,YcN md l.toArray z R listed=true->ZVQ md l.toArray listed->K a->V0r P md l.toArray Q S z f listed a w):
  ∀(qs:List Nat) (listed:Array Bool) (a:Act),(S w\/(qs.all λk=>Ju8 l.toArray k)=true)->YcN md l.toArray z (qs.map (λk=>(false,k))++R) listed=true->ZVQ md l.toArray listed->wpQuiet P l.toArray S K (XZy l qs) a →
   V0r P md l.toArray Q S z (qs.length+f) listed a w
 | [],listed,a,_,hB,hc,h=>by simpa using hK listed a hB hc h
 | k :: qs,listed,a,hS,hB,hc,h=>by
  simp only[ξz,List.cons_append,YcN,ζd]at hB;obtain⟨⟨⟨⟨hr,hf⟩,hq⟩,hkz⟩,hB'⟩:=hB;cases ho:l.toArray[k]? with
  | none=>rw[ho]at hq;cases hq
  | some o=>
   rw[ho]at hq;have hq:QK6 o=true:=hq;have hr':k∈Region.ready md l.toArray listed:=by simpa using hr
   rw[XJH ho]at h;simp only[wpQuiet]at h
   have hy:∃v,YieldsIf P l.toArray S o v a/\wpQuiet P l.toArray S K (XZy l qs) (a.put o.dst v):=by
    split at h
    ·rename_i hw;obtain⟨v,h1,h2⟩:=h;exact⟨v,XIs hq hw h1,h2⟩
    ·rename_i hw;exact⟨undef,.inr ⟨by simpa using hw,rfl⟩,h⟩
   obtain⟨v,hy,hK'⟩:=hy;have hlen:(k :: qs).length+f=(qs.length+f)+1:=by simp;omega
   have hpk:Ju8 l.toArray k=JrA o:=by unfold Ju8;rw[ho];rfl
   have hrest:=XnZ hsel hQ hz hw0 hK qs (listed.setIfInBounds k true) (a.put o.dst v) (hS.imp id λhS=>by simp only[List.all_cons,ζd]at hS;exact hS.2) hB' (hc.set hr') hK';rw[hlen];cases hp:JrA o with
   | true=>
    exact VAh ho (by simpa using hkz) (Region.noSelect_spec hsel) (λc a w h=>hQ c a _ w h) hz (S':=λ_=>True) (.inr rfl) _ listed a w hc (Region.free_spec ho hf) hr' (J27 hp hy hw0) trivial hrest
   | false=>
    have hSw:S w:=hS.resolve_right (λhS=>by simp only[List.all_cons,ζd]at hS;rw[hpk,hp]at hS;exact Bool.false_ne_true hS.1);exact VAh ho (by simpa using hkz) (Region.noSelect_spec hsel) (λc a w h=>hQ c a _ w h) hz (S':=S) (.inl ⟨rfl,hpk.trans hp⟩) _ listed a w hc (Region.free_spec ho hf) hr' hy hSw hrest
theorem JM9(hsel:Region.noSelect l.toArray=true)(hQ:∀c a b w,Q (.panic c) b w->Q (.panic c) a w)(hz:ZRv md l.toArray z=true){w0:World}(hw0:S w0):
  ∀(segs:List (List Nat×Nat)) (fin:List Nat) (listed:Array Bool) (a:Act) (w:World),YcN md l.toArray z (XA5 segs fin) listed=true->ZVQ md l.toArray listed->(S w\/((XA5 segs fin).all λx=>x.1||Ju8 l.toArray x.2)=true)->Zrk P l S z Q segs fin a w →
   V0r P md l.toArray Q S z (XA5 segs fin).length listed a w
 | [],fin,listed,a,w,hB,hc,hS,h=>by
  have hS':S w\/(fin.all λk=>Ju8 l.toArray k)=true:=hS.imp id λh=>by
   simp only[XA5,List.all_map]at h;rw[ζZ]at h⊢;intro k hk;simpa using h k hk
  have:=XnZ (R:=[]) (f:=0) (K:=λa'=>Q .normal a' w) hsel hQ hz hw0 (λlisted a hB _ h=>⟨by simpa[YcN]using hB,h⟩) fin listed a hS' (by simpa[XA5]using hB) hc h;simpa[XA5]using this
 | (qs,k) :: r,fin,listed,a,w,hB,hc,hS,h=>by
  have hS':S w\/(qs.all λk=>Ju8 l.toArray k)=true:=hS.imp id λh=>by
   simp only[XA5,List.all_append,List.all_map,ζd]at h;have h:=h.1;rw[ζZ]at h⊢;intro k hk;simpa using h k hk
  have hlen:(XA5 ((qs,k) :: r) fin).length=qs.length+((XA5 r fin).length+1):=by simp[XA5]
  rw[hlen];refine XnZ hsel hQ hz hw0 (λlisted a hB hc h=>?_) qs listed a hS' (by simpa[XA5]using hB) hc h;simp only[YcN,ζd,ζq,ξN]at hB;obtain⟨⟨hr,hkz⟩,hB'⟩:=hB;have hkr:k∈Region.ready md l.toArray listed:=by rw[hr];simp
  refine⟨λh0=>(by rw[hr]at h0;cases h0),λi hi=>?_⟩;rw[hr]at hi;obtain rfl:i=k:=by simpa using hi
  obtain⟨_,o,ho,_⟩:=mem_ready.1 hkr;rw[XJH ho]at h;refine X8H ho (λa2 w2 h2=>⟨h2.1.imp id (λh _=>h),JM9 hsel hQ hz hw0 r fin _ a2 w2 hB' (hc.set hkr) ?_ h2.2⟩) h;rcases h2.1 with h3|h3
  ·exact .inr (hkz.resolve_left (λh=>h h3))
  ·exact .inl h3
theorem VvO{qs:List Nat}{k:Nat}{r:List (List Nat×Nat)}{fin:List Nat}{a:Act}{w:World}
  (h:wpQuiet P l.toArray S (λa'=>wpList P l.toArray (Exit.then (λa2 w2=>(k=z\/S w2)/\Zrk P l S z Q r fin a2 w2) Q) (XZy l [k]) a' w) (XZy l qs) a):Zrk P l S z Q ((qs,k) :: r) fin a w:=h
theorem JV4{fin:List Nat}{a:Act}{w:World}(h:wpQuiet P l.toArray S (λa'=>Q .normal a' w) (XZy l fin) a):Zrk P l S z Q [] fin a w:=h
theorem Ztp{id:Nat}{a:Act}{w:World}(S:World->Prop)(z:Nat)(segs:List (List Nat×Nat))(fin:List Nat)(hm:P.follows .mixedOrders=true)
  (hB:(Region.noSelect l.toArray&&ZRv .any l.toArray z&&YcN .any l.toArray z (XA5 segs fin) (Array.replicate l.toArray.size false)&&(XA5 segs fin).length==l.toArray.size)=true) (hS:S w.drew)
  (h:Zrk P l (λw'=>∃p:ZJV S,w'=p.w) z (NoPanic Q) segs fin a w.drew):(Code.region id l.toArray true).wp P Q a w:=by
 simp only[ζd,ζu]at hB;obtain⟨⟨⟨hsel,hz⟩,hB⟩,hlen⟩:=hB;refine wp_region_noPanic (wp_region_any hm ?_);have:=JM9 (P:=P) (Q:=NoPanic Q) (md:=.any) (S:=λw'=>∃p:ZJV S,w'=p.w) hsel (λc a b w h=>h) hz (ZJV.of hS) segs fin _ a w.drew hB (ZVQ.none .any l.toArray) (.inl (ZJV.of hS)) h;rw[hlen]at this;exact Vfs _ _ _ _ this
end
end
end
section
section
open Go.RowKit Word
structure SmS where
 n:List Nat
 na:Bool
 pl:Bool
 mi:Bool
 ct:Int
 ze:Int
def smL(s:SmS):List Value:=.bool true :: ((s.n.map λx:Nat=>Value.int .u64 x)++[.bool s.na,.bool s.pl,.bool s.mi,.int .i64 s.ct,.int .i64 s.ze])
structure Qnw(w:World)(p:Nat)(s:SmS):Prop where
 row:Rec w p 127 (smL s)
 len:s.n.length=35
 dig:∀x∈s.n,x<18446744073709551616
section
variable {w w':World} {p:Nat} {s:SmS}
theorem Qnw.limb(h:Qnw w p s){i:Nat}(hi:i<35):w.cell? ⟨p,1+i,none⟩=some (.int .u64 (s.n.getD i 0:Nat)):=by
 have hl:=h.len;refine h.row.cell ?_;unfold smL;rw[ξd,ζ,ζ3 (by rw[ζc];omega),ζr,θ,μ Ω];rfl
theorem Qnw.dig1(h:Qnw w p s)(i:Nat):s.n.getD i 0<18446744073709551616:=XQI (by decide) h.dig i
theorem Qnw.put(h:Qnw w p s){i y:Nat}(hi:i<35)(hy:y<18446744073709551616):Qnw (w.setCell ⟨p,1+i,none⟩ (.int .u64 (y:Nat))) p {s with n:=s.n.set i y}:=by
 have hl:=h.len;refine⟨?_,by rw[ζf];exact hl,JiW h.dig hy⟩;have:=h.row.set (1+i) (.int .u64 (y:Nat));unfold smL at this⊢;rw[ξd 1 i,ϑ,List.set_append_left _ _ (by rw[ζc];omega),<-ζ8 (f:=λx:Nat=>Value.int .u64 x)]at this;rw[ξd 1 i];exact this
theorem Qnw.gr(h:Qnw w p s)(g:Gr w w'):Qnw w' p s:=⟨h.row.gr g,h.len,h.dig⟩
theorem QxN(x y:Nat)(w:World):(callFunc 77 #[.int .u64 x,.int .u64 y,.int .u64 0]).run prog w=.ok (.value (.tuple #[.int .u64 (((x+y+0)%18446744073709551616:Nat):Int),.int .u64 (((x+y+0)/18446744073709551616:Nat):Int)])) w:=by kernel_rfl
theorem ZHD(x y:Nat)(w:World):(callFunc 77 #[.int .u64 x,.int .u64 y,.int .u64 1]).run prog w=.ok (.value (.tuple #[.int .u64 (((x+y+1)%18446744073709551616:Nat):Int),.int .u64 (((x+y+1)/18446744073709551616:Nat):Int)])) w:=by kernel_rfl
theorem Zio(x y:Nat)(w:World):(callFunc 82 #[.int .u64 x,.int .u64 y,.int .u64 0]).run prog w=.ok (.value (.tuple #[.int .u64 (((x+18446744073709551616-y-0)%18446744073709551616:Nat):Int),.int .u64 ((if x<y+0 then 1 else 0:Nat):Int)])) w:=by kernel_rfl
theorem XqR(x y:Nat)(w:World):(callFunc 82 #[.int .u64 x,.int .u64 y,.int .u64 1]).run prog w=.ok (.value (.tuple #[.int .u64 (((x+18446744073709551616-y-1)%18446744073709551616:Nat):Int),.int .u64 ((if x<y+1 then 1 else 0:Nat):Int)])) w:=by kernel_rfl
theorem Jlz(x y c:Nat)(hc:c<=1)(w:World):(callFunc 77 #[.int .u64 x,.int .u64 y,.int .u64 c]).run prog w=.ok (.value (.tuple #[.int .u64 (((x+y+c)%18446744073709551616:Nat):Int),.int .u64 (((x+y+c)/18446744073709551616:Nat):Int)])) w:=by
 rcases(by omega:c=0\/c=1)with rfl|rfl
 ·exact QxN x y w
 ·exact ZHD x y w
theorem Vlq(x y c:Nat)(hc:c<=1)(w:World):(callFunc 82 #[.int .u64 x,.int .u64 y,.int .u64 c]).run prog w=.ok (.value (.tuple #[.int .u64 (((x+18446744073709551616-y-c)%18446744073709551616:Nat):Int),.int .u64 ((if x<y+c then 1 else 0:Nat):Int)])) w:=by
 rcases(by omega:c=0\/c=1)with rfl|rfl
 ·exact Zio x y w
 ·exact XqR x y w
end
theorem JiS{n:List Nat}(hl:n.length=35)(hd:∀x∈n,x<18446744073709551616):lv 18446744073709551616 n<18446744073709551616 ^ 35:=by
 have:=Ze9 (B:=18446744073709551616) (by decide) hd;rw[hl]at this;exact this
theorem Q40{B i L0 L1 L2 lo hi c d:Nat}(e1:L1+c*B ^ (i+1)=L0+(lo+0)*B ^ i)(e2:L2+d*B ^ (i+1+1)=L1+(hi+c)*B ^ (i+1)):L2+d*B ^ (i+2)=L0+(lo+B*hi)*B ^ i:=by
 rw[show lo+0=lo from rfl]at e1;rw[ζV]at e2;rw[ζV,ζM B hi,ζU,<-Nat.pow_succ',show i+2=i+1+1 from rfl]
 show L2+d*B ^ (i+1+1)=L0+(lo*B ^ i+hi*B ^ (i+1))
 omega
structure ZjC(w:World)(p:Nat)(s:SmS)(i b c x y d:Nat):Prop where
 cell:w.cell? ⟨p,1+i,none⟩=some (.int .u64 (x:Nat))
 ex:x=s.n.getD i 0
 ext:∀W,(callFunc 77 #[.int .u64 x,.int .u64 b,.int .u64 c]).run prog W=.ok (.value (.tuple #[.int .u64 (y:Nat),.int .u64 (d:Nat)])) W
 at':Qnw ((w.setCell ⟨p,1+i,none⟩ (.int .u64 (y:Nat))).drew) p {s with n:=s.n.set i y}
 t:XF4 (λk=>k=p) w (w.setCell ⟨p,1+i,none⟩ (.int .u64 (y:Nat))).drew
 sum:lv 18446744073709551616 (s.n.set i y)+d*18446744073709551616 ^ (i+1)=lv 18446744073709551616 s.n+(b+c)*18446744073709551616 ^ i
 d1:d<=1
 y1:y<18446744073709551616
theorem Qnw.add{w:World}{p:Nat}{s:SmS}(h:Qnw w p s){i b c:Nat}(hi:i<35)(hb:b<18446744073709551616)(hc:c<=1):∃x y d,ZjC w p s i b c x y d:=by
 have hx:=h.dig1 i;have hs:=Vk5 (B:=18446744073709551616) (l:=s.n) (i:=i) (by rw[h.len];exact hi) (b+c);rw[<-ξJ]at hs;have hy:(s.n.getD i 0+b+c)%18446744073709551616<18446744073709551616:=ζn _ (by decide);refine⟨_,_,_,h.limb hi,rfl,λW=>Jlz _ b c hc W,(h.put hi hy).gr (Gr.refl _).drew,((XF4.refl (λk=>k=p) w).setCell (a:=⟨p,1+i,none⟩) (λ_=>rfl) _).drew,hs,?_,hy⟩;omega
def XPU(w:World)(p:Nat)(s:SmS)(V:Nat)(w':World):Prop:=XF4 (λk=>k=p) w w'/\∃n c,Qnw w' p {s with n:=n}/\lv 18446744073709551616 n+c*18446744073709551616 ^ 35=lv 18446744073709551616 s.n+V
def VeB(w:World)(p:Nat)(s:SmS)(V i c:Nat)(w':World):Prop:=XF4 (λk=>k=p) w w'/\c<=1/\∃n,Qnw w' p {s with n:=n}/\lv 18446744073709551616 n+c*18446744073709551616 ^ i=lv 18446744073709551616 s.n+V
theorem Qmn{w:World}{ap:Nat}{s:SmS}(h:Qnw w ap s){i lo hi:Nat}(hi35:i+1<35)(hlo:lo<18446744073709551616)(hhi:hi<18446744073709551616):
  Calls prog 76 #[.pointer (some ⟨ap,0,none⟩),.int .i64 i,.int .u64 lo,.int .u64 hi] w λe w'=>e=.returned (.tuple #[])/\XPU w ap s ((lo+18446744073709551616*hi)*18446744073709551616 ^ i) w':=by
 obtain⟨V,hV⟩:∃V,V=(lo+18446744073709551616*hi)*18446744073709551616 ^ i:=⟨_,rfl⟩;rw[<-hV];have HV:=hid hV;clear hV;obtain⟨x,y,c,hA⟩:=h.add (i:=i) (b:=lo) (c:=0) Ω hlo Ω;have HX:=hid (ζp hi35 (ζp hlo hhi));have HA:=hid hA;have ha:∀W,(callFunc 77 #[.int .u64 x,.int .u64 lo,.int .u64 0]).run prog W=.ok (.value (.tuple #[.int .u64 (y:Nat),.int .u64 (c:Nat)])) W:=hA.ext;have z1:=hA.cell;have cl:=h.row.lt;have zf:=h.row.free;have HC:=hid (λ(W:World) (gg:Gr w W)=>h.gr gg);have b1:(i:Int)<35:=Ω
 have b2:(i:Int)+1<35:=Ω
 clear h hA hlo hhi;go_enter func76,ntmps76;go_upto_region 1 with(fail);obtain⟨Sx,hSx⟩:∃Sx:World->Prop,Sx=λW'=>Qnw W' ap s:=⟨_,rfl⟩;have y1:∀p:ZJV Sx,p.w.cell? ⟨ap,1+i,none⟩=some (.int .u64 (x:Nat)):=λp=>by have h:=ZJV.get hSx p;exact by rw[HA.o.ex];exact h.limb (by have:=HX.o.1;omega)
 have HS:Hid (∀W',Qnw W' ap s->Sx W'):=⟨λW' h=>by rw[hSx];exact h⟩;have hS0:=HS.o _ (HC.o _ (Gr.refl w).drew);have inst:Inhabited (ZJV Sx):=⟨⟨_,hS0⟩⟩;clear hSx;refine Ztp Sx 16 [([0,1,2,3,4,5,6,7,8,13,14],9),([10,11,12,15],16)] [17] (by kernel_rfl) (by kernel_rfl) hS0 ?_;refine VvO ?_
 try simp only[XZy,ξ,ζ]
 repeat(go_big_quiet_step (fail))
 refine φ ?_;go_wp2_with(fail);refine⟨.inr (ZJV.of (HS.o _ (HC.o _ (Gr.refl w).drew))),?_⟩;refine VvO ?_
 try simp only[XZy,ξ,ζ]
 repeat(go_big_quiet_step (fail))
 refine φ ?_;go_wp2_with(fail);refine⟨.inl trivial,?_⟩;refine JV4 ?_
 try simp only[XZy,ξ,ζ]
 repeat(go_big_quiet_step (fail))
 refine φ ?_;refine δ ?_;clear y1 hS0 inst;clear HS Sx;clear ha z1 cl zf HC;have h1:=HA.o.at';obtain⟨w1,hw1⟩:∃w1,w1=(w.setCell ⟨ap,1+i,none⟩ (.int .u64 (y:Nat))).drew:=⟨_,rfl⟩;have HT1:Hid (XF4 (λk=>k=ap) w w1):=⟨by rw[hw1];exact HA.o.t⟩;rw[<-hw1]at h1⊢;clear hw1;obtain⟨j,hj⟩:∃j,j=i+1:=⟨_,rfl⟩;have HJ:=hid hj;have j1:((i:Int)+1)=(j:Int):=Ω
 have j2:(j:Int)<35:=Ω
 obtain⟨x2,y2,d,hB⟩:=h1.add (i:=j) (b:=hi) (c:=c) Ω HX.o.2.2 HA.o.d1;have HB:=hid hB;have ha:=hB.ext;have z1:=hB.cell;have cl:=h1.row.lt;have zf:=h1.row.free;have HC:=hid (λ(W:World) (gg:Gr w1 W)=>h1.gr gg);clear h1 hB hj b2;go_upto_region 2 with(fail);obtain⟨Sx,hSx⟩:∃Sx:World->Prop,Sx=λW'=>Qnw W' ap {s with n:=s.n.set i y}:=⟨_,rfl⟩;have y1:∀p:ZJV Sx,p.w.cell? ⟨ap,1+j,none⟩=some (.int .u64 (x2:Nat)):=λp=>by have h:=ZJV.get hSx p;exact by rw[HB.o.ex];exact h.limb Ω
 have HS:Hid (∀W',Qnw W' ap {s with n:=s.n.set i y}->Sx W'):=⟨λW' h=>by rw[hSx];exact h⟩;have hS0:=HS.o _ (HC.o _ (Gr.refl w1).drew);have inst:Inhabited (ZJV Sx):=⟨⟨_,hS0⟩⟩;clear hSx;refine Ztp Sx 19 [([0,1,2,3,4,5,6,7,8,9,10,11,16,17],12),([13,14,15,18],19)] [20] (by kernel_rfl) (by kernel_rfl) hS0 ?_;refine VvO ?_
 try simp only[XZy,ξ,ζ]
 repeat(go_big_quiet_step (fail))
 refine φ ?_;go_wp2_with(fail);refine⟨.inr (ZJV.of (HS.o _ (HC.o _ (Gr.refl w1).drew))),?_⟩;refine VvO ?_
 try simp only[XZy,ξ,ζ]
 repeat(go_big_quiet_step (fail))
 refine φ ?_;go_wp2_with(fail);refine⟨.inl trivial,?_⟩;refine JV4 ?_
 try simp only[XZy,ξ,ζ]
 repeat(go_big_quiet_step (fail))
 refine φ ?_;refine δ ?_;clear y1 hS0 inst;clear HS Sx;clear ha z1 cl zf HC;have h2:=HB.o.at';obtain⟨w2,hw2⟩:∃w2,w2=(w1.setCell ⟨ap,1+j,none⟩ (.int .u64 (y2:Nat))).drew:=⟨_,rfl⟩;have HT2:Hid (XF4 (λk=>k=ap) w w2):=⟨by rw[hw2];exact HT1.o.trans HB.o.t⟩;rw[<-hw2]at h2⊢
 have HIN:Hid (VeB w ap s V (i+2) d w2):=⟨HT2.o,HB.o.d1,_,h2,by
  have e1:=HA.o.sum;have e2:=HB.o.sum;rw[HJ.o]at e2⊢;rw[HV.o]
  exact Q40 e1 e2⟩
 clear hw2 h2;clear HT1 HA HB HJ j1 j2 HT2 b1;go_wp2
 go_loopw [8,9] (λs8 s9 wr=>∃m d:Nat,m<=35/\Hid (VeB w ap s V m d wr)/\s8=.int .u64 d/\s9=.int .i64 m) (λ_ s9 _=>35-(intOf s9).toNat)
 case atStart=>exact⟨i+2,d,by omega,HIN,rfl,by go_num⟩
 case round=>
  clear HIN HX hi35;obtain⟨m,d',hm,HP,rfl,rfl⟩:=hrel;by_cases hm2:m<35
  ·have hmI:(m:Int)<35:=Ω
   by_cases hd0:0<d'
   ·have hdI:(0:Int)<d':=Ω
    obtain⟨n,h1,hsum⟩:=HP.o.2.2;obtain⟨x3,y3,d3,hB⟩:=h1.add (i:=m) (b:=0) (c:=d') hm2 Ω HP.o.2.1;have HB:=hid hB;have ha:∀W,(callFunc 77 #[.int .u64 x3,.int .u64 0,.int .u64 d']).run prog W=.ok (.value (.tuple #[.int .u64 (y3:Nat),.int .u64 (d3:Nat)])) W:=hB.ext;have z1:=hB.cell;have cl:=h1.row.lt;have zf:=h1.row.free;have HC:=hid (λ(W:World) (gg:Gr wr W)=>h1.gr gg);have HS:=hid hsum;clear h1 hB hsum;go_upto_region 6 with(fail);obtain⟨Sx,hSx⟩:∃Sx:World->Prop,Sx=λW'=>Qnw W' ap {s with n:=n}:=⟨_,rfl⟩;have y1:∀p:ZJV Sx,p.w.cell? ⟨ap,1+m,none⟩=some (.int .u64 (x3:Nat)):=λp=>by have h:=ZJV.get hSx p;exact by rw[HB.o.ex];exact h.limb Ω
    have HS:Hid (∀W',Qnw W' ap {s with n:=n}->Sx W'):=⟨λW' h=>by rw[hSx];exact h⟩;have hS0:=HS.o _ (HC.o _ (Gr.refl wr).drew);have inst:Inhabited (ZJV Sx):=⟨⟨_,hS0⟩⟩;clear hSx;refine Ztp Sx 16 [([0,1,2,3,4,5,6,7,8,13,14],9),([10,11,12,15],16)] [17] (by kernel_rfl) (by kernel_rfl) hS0 ?_;refine VvO ?_
    try simp only[XZy,ξ,ζ]
    repeat(go_big_quiet_step (fail))
    refine φ ?_;go_wp2_with(fail);refine⟨.inr (ZJV.of (HS.o _ (HC.o _ (Gr.refl wr).drew))),?_⟩;refine VvO ?_
    try simp only[XZy,ξ,ζ]
    repeat(go_big_quiet_step (fail))
    refine φ ?_;go_wp2_with(fail);refine⟨.inl trivial,?_⟩;refine JV4 ?_
    try simp only[XZy,ξ,ζ]
    repeat(go_big_quiet_step (fail))
    refine φ ?_;refine δ ?_;clear y1 hS0 inst;clear HS Sx;clear ha z1 cl zf HC;go_wp2;go_round
    case rel=>
     refine⟨m+1,d3,by omega,⟨HP.o.1.trans HB.o.t,HB.o.d1,_,HB.o.at',?_⟩,rfl,by go_num⟩;have e2:=HB.o.sum;have e1:=HS.o;rw[ω]at e2
     show lv _ (n.set m y3)+_=_
     have e2:lv 18446744073709551616 (n.set m y3)+d3*18446744073709551616 ^ (m+1)=lv 18446744073709551616 n+d' * 18446744073709551616 ^ m:=e2;omega
    case measure=>simp[intOf];omega
   ·obtain rfl:d'=0:=Ω
    have HZ:=HP;clear HP hd0;go_wp2;refine ζK (ζJ rfl _ _ _) rfl ⟨rfl,HZ.o.1,?_⟩;obtain⟨n,h1,hsum⟩:=HZ.o.2.2;rw[ζL]at hsum;exact⟨n,0,h1,by rw[ζL];exact hsum⟩
  ·have hmI:¬(m:Int)<35:=Ω
   obtain rfl:m=35:=Ω
   have HZ:=HP;clear HP;go_wp2;refine ζK (ζJ rfl _ _ _) rfl ⟨rfl,HZ.o.1,?_⟩;obtain⟨n,h1,hsum⟩:=HZ.o.2.2;exact⟨n,d',h1,hsum⟩
end
end
section
section
open Go.RowKit Word
theorem VGC{B i L0 L1 L2 lo hi c d:Nat}(e1:L1+(lo+0)*B ^ i=L0+c*B ^ (i+1))(e2:L2+(hi+c)*B ^ (i+1)=L1+d*B ^ (i+1+1)):L2+(lo+B*hi)*B ^ i=L0+d*B ^ (i+2):=by
 rw[show lo+0=lo from rfl]at e1;rw[ζV]at e2;rw[ζV,ζM B hi,ζU,<-Nat.pow_succ',show i+2=i+1+1 from rfl]
 show L2+(lo*B ^ i+hi*B ^ (i+1))=L0+d*B ^ (i+1+1)
 omega
structure Z5B(w:World)(p:Nat)(s:SmS)(i b c x y d:Nat):Prop where
 cell:w.cell? ⟨p,1+i,none⟩=some (.int .u64 (x:Nat))
 ex:x=s.n.getD i 0
 ext:∀W,(callFunc 82 #[.int .u64 x,.int .u64 b,.int .u64 c]).run prog W=.ok (.value (.tuple #[.int .u64 (y:Nat),.int .u64 (d:Nat)])) W
 at':Qnw ((w.setCell ⟨p,1+i,none⟩ (.int .u64 (y:Nat))).drew) p {s with n:=s.n.set i y}
 t:XF4 (λk=>k=p) w (w.setCell ⟨p,1+i,none⟩ (.int .u64 (y:Nat))).drew
 sum:lv 18446744073709551616 (s.n.set i y)+(b+c)*18446744073709551616 ^ i=lv 18446744073709551616 s.n+d*18446744073709551616 ^ (i+1)
 d1:d<=1
 y1:y<18446744073709551616
theorem Qnw.sub{w:World}{p:Nat}{s:SmS}(h:Qnw w p s){i b c:Nat}(hi:i<35)(hb:b<18446744073709551616)(hc:c<=1):∃x y d,Z5B w p s i b c x y d:=by
 have hx:=h.dig1 i;have hl:i<s.n.length:=by rw[h.len];exact hi
 have hy:(s.n.getD i 0+18446744073709551616-b-c)%18446744073709551616<18446744073709551616:=ζn _ (by decide);refine⟨_,_,_,h.limb hi,rfl,λW=>Vlq _ b c hc W,(h.put hi hy).gr (Gr.refl _).drew,((XF4.refl (λk=>k=p) w).setCell (a:=⟨p,1+i,none⟩) (λ_=>rfl) _).drew,?_,by split <;> omega,hy⟩;by_cases hz:s.n.getD i 0<b+c
 ·rw[χ hz,ξl,show (s.n.getD i 0+18446744073709551616-b-c)%18446744073709551616=s.n.getD i 0+18446744073709551616-(b+c)by omega];exact Q0J hl Ω
 ·rw[ν hz,ζL,ζA,show (s.n.getD i 0+18446744073709551616-b-c)%18446744073709551616=s.n.getD i 0-(b+c)by omega];exact J9G hl Ω
def VZM(w:World)(p:Nat)(s:SmS)(V:Nat)(w':World):Prop:=XF4 (λk=>k=p) w w'/\∃n c,Qnw w' p {s with n:=n}/\lv 18446744073709551616 n+V=lv 18446744073709551616 s.n+c*18446744073709551616 ^ 35
def JZT(w:World)(p:Nat)(s:SmS)(V i c:Nat)(w':World):Prop:=XF4 (λk=>k=p) w w'/\c<=1/\∃n,Qnw w' p {s with n:=n}/\lv 18446744073709551616 n+V=lv 18446744073709551616 s.n+c*18446744073709551616 ^ i
theorem Yk8{w:World}{ap:Nat}{s:SmS}(h:Qnw w ap s){i lo hi:Nat}(hi35:i+1<35)(hlo:lo<18446744073709551616)(hhi:hi<18446744073709551616):
  Calls prog 75 #[.pointer (some ⟨ap,0,none⟩),.int .i64 i,.int .u64 lo,.int .u64 hi] w λe w'=>e=.returned (.tuple #[])/\VZM w ap s ((lo+18446744073709551616*hi)*18446744073709551616 ^ i) w':=by
 obtain⟨V,hV⟩:∃V,V=(lo+18446744073709551616*hi)*18446744073709551616 ^ i:=⟨_,rfl⟩;rw[<-hV];have HV:=hid hV;clear hV;obtain⟨x,y,c,hA⟩:=h.sub (i:=i) (b:=lo) (c:=0) Ω hlo Ω;have HX:=hid (ζp hi35 (ζp hlo hhi));have HA:=hid hA;have ha:∀W,(callFunc 82 #[.int .u64 x,.int .u64 lo,.int .u64 0]).run prog W=.ok (.value (.tuple #[.int .u64 (y:Nat),.int .u64 (c:Nat)])) W:=hA.ext;have z1:=hA.cell;have cl:=h.row.lt;have zf:=h.row.free;have HC:=hid (λ(W:World) (gg:Gr w W)=>h.gr gg);have b1:(i:Int)<35:=Ω
 have b2:(i:Int)+1<35:=Ω
 clear h hA hlo hhi;go_enter func75,ntmps75;go_upto_region 1 with(fail);obtain⟨Sx,hSx⟩:∃Sx:World->Prop,Sx=λW'=>Qnw W' ap s:=⟨_,rfl⟩;have y1:∀p:ZJV Sx,p.w.cell? ⟨ap,1+i,none⟩=some (.int .u64 (x:Nat)):=λp=>by have h:=ZJV.get hSx p;exact by rw[HA.o.ex];exact h.limb (by have:=HX.o.1;omega)
 have HS:Hid (∀W',Qnw W' ap s->Sx W'):=⟨λW' h=>by rw[hSx];exact h⟩;have hS0:=HS.o _ (HC.o _ (Gr.refl w).drew);have inst:Inhabited (ZJV Sx):=⟨⟨_,hS0⟩⟩;clear hSx;refine Ztp Sx 16 [([0,1,2,3,4,5,6,7,8,13,14],9),([10,11,12,15],16)] [17] (by kernel_rfl) (by kernel_rfl) hS0 ?_;refine VvO ?_
 try simp only[XZy,ξ,ζ]
 repeat(go_big_quiet_step (fail))
 refine φ ?_;go_wp2_with(fail);refine⟨.inr (ZJV.of (HS.o _ (HC.o _ (Gr.refl w).drew))),?_⟩;refine VvO ?_
 try simp only[XZy,ξ,ζ]
 repeat(go_big_quiet_step (fail))
 refine φ ?_;go_wp2_with(fail);refine⟨.inl trivial,?_⟩;refine JV4 ?_
 try simp only[XZy,ξ,ζ]
 repeat(go_big_quiet_step (fail))
 refine φ ?_;refine δ ?_;clear y1 hS0 inst;clear HS Sx;clear ha z1 cl zf HC;have h1:=HA.o.at';obtain⟨w1,hw1⟩:∃w1,w1=(w.setCell ⟨ap,1+i,none⟩ (.int .u64 (y:Nat))).drew:=⟨_,rfl⟩;have HT1:Hid (XF4 (λk=>k=ap) w w1):=⟨by rw[hw1];exact HA.o.t⟩;rw[<-hw1]at h1⊢;clear hw1;obtain⟨j,hj⟩:∃j,j=i+1:=⟨_,rfl⟩;have HJ:=hid hj;have j1:((i:Int)+1)=(j:Int):=Ω
 have j2:(j:Int)<35:=Ω
 obtain⟨x2,y2,d,hB⟩:=h1.sub (i:=j) (b:=hi) (c:=c) Ω HX.o.2.2 HA.o.d1;have HB:=hid hB;have ha:=hB.ext;have z1:=hB.cell;have cl:=h1.row.lt;have zf:=h1.row.free;have HC:=hid (λ(W:World) (gg:Gr w1 W)=>h1.gr gg);clear h1 hB hj b2;go_upto_region 2 with(fail);obtain⟨Sx,hSx⟩:∃Sx:World->Prop,Sx=λW'=>Qnw W' ap {s with n:=s.n.set i y}:=⟨_,rfl⟩;have y1:∀p:ZJV Sx,p.w.cell? ⟨ap,1+j,none⟩=some (.int .u64 (x2:Nat)):=λp=>by have h:=ZJV.get hSx p;exact by rw[HB.o.ex];exact h.limb Ω
 have HS:Hid (∀W',Qnw W' ap {s with n:=s.n.set i y}->Sx W'):=⟨λW' h=>by rw[hSx];exact h⟩;have hS0:=HS.o _ (HC.o _ (Gr.refl w1).drew);have inst:Inhabited (ZJV Sx):=⟨⟨_,hS0⟩⟩;clear hSx;refine Ztp Sx 19 [([0,1,2,3,4,5,6,7,8,9,10,11,16,17],12),([13,14,15,18],19)] [20] (by kernel_rfl) (by kernel_rfl) hS0 ?_;refine VvO ?_
 try simp only[XZy,ξ,ζ]
 repeat(go_big_quiet_step (fail))
 refine φ ?_;go_wp2_with(fail);refine⟨.inr (ZJV.of (HS.o _ (HC.o _ (Gr.refl w1).drew))),?_⟩;refine VvO ?_
 try simp only[XZy,ξ,ζ]
 repeat(go_big_quiet_step (fail))
 refine φ ?_;go_wp2_with(fail);refine⟨.inl trivial,?_⟩;refine JV4 ?_
 try simp only[XZy,ξ,ζ]
 repeat(go_big_quiet_step (fail))
 refine φ ?_;refine δ ?_;clear y1 hS0 inst;clear HS Sx;clear ha z1 cl zf HC;have h2:=HB.o.at';obtain⟨w2,hw2⟩:∃w2,w2=(w1.setCell ⟨ap,1+j,none⟩ (.int .u64 (y2:Nat))).drew:=⟨_,rfl⟩;have HT2:Hid (XF4 (λk=>k=ap) w w2):=⟨by rw[hw2];exact HT1.o.trans HB.o.t⟩;rw[<-hw2]at h2⊢
 have HIN:Hid (JZT w ap s V (i+2) d w2):=⟨HT2.o,HB.o.d1,_,h2,by
  have e1:=HA.o.sum;have e2:=HB.o.sum;rw[HJ.o]at e2⊢;rw[HV.o]
  exact VGC e1 e2⟩
 clear hw2 h2;clear HT1 HA HB HJ j1 j2 HT2 b1;go_wp2
 go_loopw [8,9] (λs8 s9 wr=>∃m d:Nat,m<=35/\Hid (JZT w ap s V m d wr)/\s8=.int .u64 d/\s9=.int .i64 m) (λ_ s9 _=>35-(intOf s9).toNat)
 case atStart=>exact⟨i+2,d,by omega,HIN,rfl,by go_num⟩
 case round=>
  clear HIN HX hi35;obtain⟨m,d',hm,HP,rfl,rfl⟩:=hrel;by_cases hm2:m<35
  ·have hmI:(m:Int)<35:=Ω
   by_cases hd0:0<d'
   ·have hdI:(0:Int)<d':=Ω
    obtain⟨n,h1,hsum⟩:=HP.o.2.2;obtain⟨x3,y3,d3,hB⟩:=h1.sub (i:=m) (b:=0) (c:=d') hm2 Ω HP.o.2.1;have HB:=hid hB;have ha:∀W,(callFunc 82 #[.int .u64 x3,.int .u64 0,.int .u64 d']).run prog W=.ok (.value (.tuple #[.int .u64 (y3:Nat),.int .u64 (d3:Nat)])) W:=hB.ext;have z1:=hB.cell;have cl:=h1.row.lt;have zf:=h1.row.free;have HC:=hid (λ(W:World) (gg:Gr wr W)=>h1.gr gg);have HS:=hid hsum;clear h1 hB hsum;go_upto_region 6 with(fail);obtain⟨Sx,hSx⟩:∃Sx:World->Prop,Sx=λW'=>Qnw W' ap {s with n:=n}:=⟨_,rfl⟩;have y1:∀p:ZJV Sx,p.w.cell? ⟨ap,1+m,none⟩=some (.int .u64 (x3:Nat)):=λp=>by have h:=ZJV.get hSx p;exact by rw[HB.o.ex];exact h.limb Ω
    have HS:Hid (∀W',Qnw W' ap {s with n:=n}->Sx W'):=⟨λW' h=>by rw[hSx];exact h⟩;have hS0:=HS.o _ (HC.o _ (Gr.refl wr).drew);have inst:Inhabited (ZJV Sx):=⟨⟨_,hS0⟩⟩;clear hSx;refine Ztp Sx 16 [([0,1,2,3,4,5,6,7,8,13,14],9),([10,11,12,15],16)] [17] (by kernel_rfl) (by kernel_rfl) hS0 ?_;refine VvO ?_
    try simp only[XZy,ξ,ζ]
    repeat(go_big_quiet_step (fail))
    refine φ ?_;go_wp2_with(fail);refine⟨.inr (ZJV.of (HS.o _ (HC.o _ (Gr.refl wr).drew))),?_⟩;refine VvO ?_
    try simp only[XZy,ξ,ζ]
    repeat(go_big_quiet_step (fail))
    refine φ ?_;go_wp2_with(fail);refine⟨.inl trivial,?_⟩;refine JV4 ?_
    try simp only[XZy,ξ,ζ]
    repeat(go_big_quiet_step (fail))
    refine φ ?_;refine δ ?_;clear y1 hS0 inst;clear HS Sx;clear ha z1 cl zf HC;go_wp2;go_round
    case rel=>
     refine⟨m+1,d3,by omega,⟨HP.o.1.trans HB.o.t,HB.o.d1,_,HB.o.at',?_⟩,rfl,by go_num⟩;have e2:=HB.o.sum;have e1:=HS.o;rw[ω]at e2
     show lv _ (n.set m y3)+_=_
     have e2:lv 18446744073709551616 (n.set m y3)+d' * 18446744073709551616 ^ m=lv 18446744073709551616 n+d3*18446744073709551616 ^ (m+1):=e2;omega
    case measure=>simp[intOf];omega
   ·obtain rfl:d'=0:=Ω
    have HZ:=HP;clear HP hd0;go_wp2;refine ζK (ζJ rfl _ _ _) rfl ⟨rfl,HZ.o.1,?_⟩;obtain⟨n,h1,hsum⟩:=HZ.o.2.2;rw[ζL]at hsum;exact⟨n,0,h1,by rw[ζL];exact hsum⟩
  ·have hmI:¬(m:Int)<35:=Ω
   obtain rfl:m=35:=Ω
   have HZ:=HP;clear HP;go_wp2;refine ζK (ζJ rfl _ _ _) rfl ⟨rfl,HZ.o.1,?_⟩;obtain⟨n,h1,hsum⟩:=HZ.o.2.2;exact⟨n,d',h1,hsum⟩
end
end
end Go.Proofs.Ytgmaanehcbnchaa
