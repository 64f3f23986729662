/- Part 1 of what ListNobody leans on: my own lemmas, merged by shake.py. -/
import Derived.WalkKit
import Derived.BigQuiet
import Derived.Deep.Cut
import Derived.RangeFuncNested
import Derived.RangeFuncBound
import Derived.RangeFuncCalls
import Derived.RangeFuncLeaves
import Derived.Deep.RegionHeld3
import Derived.OrdersIn
import Derived.Deep.AppendLies
import Derived.Test.YteihjlcmjecmfaaGreatDoorProg
import Derived.Test.YteihjlcmjecmfaaGreatDoorCards
import Derived.Test.YteihjlcmjecmfaaGreatDoorTie
import Derived.ProofKit
import Derived.OpenShut
import Derived.Deep.DeepHandedRow
import Derived.Deep.Slices
import Derived.Lib.SmallJoins
import Derived.Lib.LaidTab
namespace Go.Proofs.YteihjlcmjecmfaaGreatDoor
open _root_.Go.Proofs.Tryz
set_option maxHeartbeats 800000
theorem Ω {p:Prop}(h:p:=by omega):p:=h
theorem ζ:type_of% @List.getElem?_cons_zero:=List.getElem?_cons_zero
theorem ξ:type_of% @List.getElem?_cons_succ:=List.getElem?_cons_succ
theorem ψ:type_of% @decide_eq_false:=decide_eq_false
theorem φ:type_of% @List.getD_eq_getElem?_getD:=List.getD_eq_getElem?_getD
theorem θ:type_of% @wpQuiet_nil:=wpQuiet_nil
theorem ϑ:type_of% @if_neg:=if_neg
theorem κ:type_of% @decide_eq_true:=decide_eq_true
theorem μ:type_of% @if_pos:=if_pos
theorem ν:type_of% @And.intro:=And.intro
theorem π:type_of% @Nat.le_refl:=Nat.le_refl
theorem τ:type_of% @Int.toNat_natCast:=Int.toNat_natCast
theorem υ:type_of% @List.length_set:=List.length_set
theorem χ:type_of% @List.getElem_mem:=List.getElem_mem
theorem δ:type_of% @List.getElem?_eq_getElem:=List.getElem?_eq_getElem
theorem γ:type_of% @Nat.lt_or_ge:=Nat.lt_or_ge
theorem β:type_of% @NoPanic.normal:=NoPanic.normal
theorem ω:type_of% @Nat.lt_of_lt_of_le:=Nat.lt_of_lt_of_le
theorem η:type_of% @World.size_alloc:=World.size_alloc
theorem ζa:type_of% @callsIn_wide:=callsIn_wide
theorem ζb:type_of% @Nat.le_trans:=Nat.le_trans
theorem ζc:type_of% @Nat.div_le_div_right:=Nat.div_le_div_right
theorem ζd:type_of% @Bool.and_eq_true:=Bool.and_eq_true
theorem ζe:type_of% @decide_eq_true_eq:=decide_eq_true_eq
theorem ζf:type_of% @List.getElem?_eq_none:=List.getElem?_eq_none
theorem ζg:type_of% @List.mem_cons_self:=List.mem_cons_self
theorem ζh:type_of% @Nat.zero_le:=Nat.zero_le
theorem ζi:type_of% @List.setIfInBounds_toArray:=List.setIfInBounds_toArray
theorem ζj:type_of% @List.mem_append:=List.mem_append
theorem ζk:type_of% @List.length_append:=List.length_append
theorem ζl:type_of% @Nat.mul_le_mul_right:=Nat.mul_le_mul_right
theorem ζm:type_of% @Nat.div_mul_le_self:=Nat.div_mul_le_self
theorem ζn:type_of% @Array.getElem?_eq_some_iff:=Array.getElem?_eq_some_iff
theorem ζo:type_of% @List.mem_cons_of_mem:=List.mem_cons_of_mem
theorem ζp:type_of% @List.mem_or_eq_of_mem_set:=List.mem_or_eq_of_mem_set
theorem ζq:type_of% @World.cell?_alloc_new:=World.cell?_alloc_new
theorem ζr:type_of% @results_none:=results_none
theorem ζs:type_of% @List.mem_singleton:=List.mem_singleton
theorem ζt:type_of% @List.getElem_of_mem:=List.getElem_of_mem
theorem ζu:type_of% @World.putObj_heap_other:=World.putObj_heap_other
theorem ζv:type_of% @List.eq_nil_of_length_eq_zero:=List.eq_nil_of_length_eq_zero
theorem ζw:type_of% @List.set_cons_zero:=List.set_cons_zero
theorem ζx:type_of% @Nat.div_add_mod:=Nat.div_add_mod
theorem ζy:type_of% @beq_eq_false_iff_ne:=beq_eq_false_iff_ne
theorem ζz:type_of% @List.set_cons_succ:=List.set_cons_succ
theorem ζA:type_of% @IntWalk.i64_in:=IntWalk.i64_in
theorem ζB:type_of% @List.getElem?_append_left:=List.getElem?_append_left
theorem ζC:type_of% @List.length_replicate:=List.length_replicate
theorem ζD:type_of% @List.getElem?_replicate:=List.getElem?_replicate
theorem ζE:type_of% @Nat.eq_zero_or_pos:=Nat.eq_zero_or_pos
theorem ζF:type_of% @bodyPost_end:=bodyPost_end
theorem ζG:type_of% @World.cell?_alloc_at:=World.cell?_alloc_at
theorem ζH:type_of% @List.mem_cons:=List.mem_cons
theorem ζI:type_of% @List.getElem_append_left:=List.getElem_append_left
theorem ζJ:type_of% @Nat.mul_comm:=Nat.mul_comm
theorem ζK:type_of% @decide_eq_decide:=decide_eq_decide
theorem ζL:type_of% @List.cons_append:=List.cons_append
theorem ζM:type_of% @Int.natCast_ediv:=Int.natCast_ediv
theorem ζN:type_of% @Nat.lt_irrefl:=Nat.lt_irrefl
theorem ζO:type_of% @List.map_append:=List.map_append
theorem ζP:type_of% @List.mem_range:=List.mem_range
theorem ζQ:type_of% @List.getElem?_append_right:=List.getElem?_append_right
theorem ζR:type_of% @bodyPost_ret:=bodyPost_ret
theorem ζS:type_of% @Nat.le_add_right:=Nat.le_add_right
theorem ζT:type_of% @List.take_length:=List.take_length
theorem ζU:type_of% @List.length_cons:=List.length_cons
theorem ζV:type_of% @Nat.not_lt_zero:=Nat.not_lt_zero
theorem ζW:type_of% @Nat.lt_trichotomy:=Nat.lt_trichotomy
theorem ζX:type_of% @List.append_assoc:=List.append_assoc
theorem ζY:type_of% @Bool.or_eq_true:=Bool.or_eq_true
theorem ζZ:type_of% @beq_iff_eq:=beq_iff_eq
theorem ζ0:type_of% @Bool.and_eq_true_iff:=Bool.and_eq_true_iff
theorem ζ1:type_of% @Array.replicate_zero:=Array.replicate_zero
theorem ζ2:type_of% @Array.replicate_succ:=Array.replicate_succ
theorem ζ3:type_of% @Nat.le_div_iff_mul_le:=Nat.le_div_iff_mul_le
theorem ζ4:type_of% @Nat.div_lt_iff_lt_mul:=Nat.div_lt_iff_lt_mul
theorem ζ5:type_of% @List.length_singleton:=List.length_singleton
theorem ζ6:type_of% @Nat.succ_mul:=Nat.succ_mul
theorem ζ7:type_of% @List.append_toArray:=List.append_toArray
theorem ζ8:type_of% @Nat.div_le_self:=Nat.div_le_self
theorem ζ9:type_of% @List.ext_getElem:=List.ext_getElem
theorem ξa:type_of% @List.size_toArray:=List.size_toArray
theorem ξb:type_of% @List.nil_append:=List.nil_append
theorem ξc:type_of% @Nat.add_mul:=Nat.add_mul
theorem ξd:type_of% @World.frozen?_setCell:=World.frozen?_setCell
theorem ξe:type_of% @List.take_succ_eq_append_getElem:=List.take_succ_eq_append_getElem
theorem ξf:type_of% @List.push_toArray:=List.push_toArray
theorem ξg:type_of% @List.pairwise_cons:=List.pairwise_cons
theorem ξh:type_of% @List.mem_append_left:=List.mem_append_left
theorem ξi:type_of% @Nat.not_lt_of_le:=Nat.not_lt_of_le
theorem ξj:type_of% @Nat.add_zero:=Nat.add_zero
theorem ξk:type_of% @List.take_append_of_le_length:=List.take_append_of_le_length
theorem ξl:type_of% @Decidable.not_not:=Decidable.not_not
theorem ξm:type_of% @World.cell?_setCell_same:=World.cell?_setCell_same
theorem ξn:type_of% @List.eq_of_mem_replicate:=List.eq_of_mem_replicate
theorem ξo:type_of% @Nat.testBit_and:=Nat.testBit_and
theorem ξp:type_of% @List.mem_map:=List.mem_map
theorem ξq:type_of% @List.length_nil:=List.length_nil
theorem ξr:type_of% @Nat.lt_succ_self:=Nat.lt_succ_self
theorem ξs:type_of% @List.any_eq_true:=List.any_eq_true
theorem ξt:type_of% @List.all_eq_true:=List.all_eq_true
theorem ξu:type_of% @List.nodup_append:=List.nodup_append
theorem ξv:type_of% @List.getElem?_set:=List.getElem?_set
theorem ξw:type_of% @Array.getElem?_eq_none:=Array.getElem?_eq_none
theorem ξx:type_of% @Int.toNat_of_nonneg:=Int.toNat_of_nonneg
theorem ξy:type_of% @Nat.one_mul:=Nat.one_mul
theorem ξz:type_of% @Nat.mul_one:=Nat.mul_one
theorem ξA:type_of% @World.cell?_setCell_other:=World.cell?_setCell_other
theorem ξB:type_of% @List.drop_eq_getElem_cons:=List.drop_eq_getElem_cons
theorem ξC:type_of% @Nat.mod_lt:=Nat.mod_lt
theorem ξD:type_of% @Nat.mod_eq_of_lt:=Nat.mod_eq_of_lt
theorem ξE:type_of% @List.getElem?_take:=List.getElem?_take
theorem ξF:type_of% @IntKind.wrap_u64:=IntKind.wrap_u64
theorem ξG:type_of% @List.map_set:=List.map_set
theorem ξH:type_of% @Nat.eq_of_testBit_eq:=Nat.eq_of_testBit_eq
theorem ξI:type_of% @World.news_of_block:=World.news_of_block
theorem ξJ:type_of% @World.putObj_heap_same:=World.putObj_heap_same
theorem ξK:type_of% @Nat.mul_div_cancel:=Nat.mul_div_cancel
theorem ξL:type_of% @Nat.lt_of_le_of_lt:=Nat.lt_of_le_of_lt
theorem ξM:type_of% @World.alloc_heap_new:=World.alloc_heap_new
theorem ξN:type_of% @Nat.zero_add:=Nat.zero_add
theorem ξO:type_of% @Nat.add_assoc:=Nat.add_assoc
theorem ξP:type_of% @Bool.and_true:=Bool.and_true
theorem ξQ:type_of% @List.take_succ_cons:=List.take_succ_cons
theorem ξR:type_of% @List.map_congr_left:=List.map_congr_left
theorem ξS:type_of% @Nat.add_sub_cancel_left:=Nat.add_sub_cancel_left
theorem ξT:type_of% @Int.natCast_emod:=Int.natCast_emod
theorem ξU:type_of% @Int.le_refl:=Int.le_refl
theorem ξV:type_of% @Option.map_some:=Option.map_some
theorem ξW:type_of% @List.dropLast_concat_getLast:=List.dropLast_concat_getLast
theorem ξX:type_of% @List.map_cons:=List.map_cons
theorem ξY:type_of% @Bool.true_and:=Bool.true_and
theorem ξZ:type_of% @List.getElem?_map:=List.getElem?_map
theorem ξ0:type_of% @Array.getD_eq_getD_getElem?:=Array.getD_eq_getD_getElem?
theorem ξ1:type_of% @List.nodup_nil:=List.nodup_nil
theorem ξ2:type_of% @Bool.and_false:=Bool.and_false
theorem ξ3:type_of% @Nat.le_of_not_lt:=Nat.le_of_not_lt
theorem ξ4:type_of% @List.getElem?_range:=List.getElem?_range
theorem ξ5:type_of% @List.Pairwise.imp_of_mem:=List.Pairwise.imp_of_mem
theorem ξ6:type_of% @List.mem_filter:=List.mem_filter
theorem ξ7:type_of% @List.length_map:=List.length_map
theorem ξ8:type_of% @List.append_nil:=List.append_nil
theorem ξ9:type_of% @World.frozen?_alloc_new:=World.frozen?_alloc_new
theorem ψa:type_of% @Nat.le_mul_of_pos_right:=Nat.le_mul_of_pos_right
theorem ψb:type_of% @List.take_of_length_le:=List.take_of_length_le
theorem ψc:type_of% @List.take_append_drop:=List.take_append_drop
theorem ψd:type_of% @bne_iff_ne:=bne_iff_ne
theorem ψe:type_of% @Option.getD_some:=Option.getD_some
theorem ψf:type_of% @Nat.and_le_right:=Nat.and_le_right
theorem ψg:type_of% @List.getElem_set:=List.getElem_set
theorem ψh:type_of% @World.cell?_alloc_lt:=World.cell?_alloc_lt
theorem ψi:type_of% @Nat.mod_one:=Nat.mod_one
theorem ψj:type_of% @List.mem_of_mem_take:=List.mem_of_mem_take
theorem ψk:type_of% @Bool.or_eq_false_iff:=Bool.or_eq_false_iff
theorem ψl:type_of% @Option.map_none:=Option.map_none
theorem ψm:type_of% @Int.natCast_add:=Int.natCast_add
theorem ψn:type_of% @Bool.eq_iff_iff:=Bool.eq_iff_iff
theorem ψo:type_of% @List.toList_toArray:=List.toList_toArray
theorem ψp:type_of% @List.set_set:=List.set_set
theorem ψq:type_of% @List.map_replicate:=List.map_replicate
theorem ψr:type_of% @Int.natCast_nonneg:=Int.natCast_nonneg
theorem ψs:type_of% @List.getElem_append_right:=List.getElem_append_right
theorem ψt:type_of% @Array.getElem?_eq_getElem:=Array.getElem?_eq_getElem
theorem ψu:type_of% @List.pairwise_map:=List.pairwise_map
theorem ψv:type_of% @Array.setIfInBounds_comm:=Array.setIfInBounds_comm
theorem ψw:type_of% @Nat.div_eq_of_lt:=Nat.div_eq_of_lt
theorem ψx:type_of% @List.getElem_map:=List.getElem_map
theorem ψy:type_of% @List.getElem_cons_zero:=List.getElem_cons_zero
theorem ψz:type_of% @List.getElem_cons_succ:=List.getElem_cons_succ
theorem ψA:type_of% @List.getElem?_set_self:=List.getElem?_set_self
theorem ψB:type_of% @Nat.and_le_left:=Nat.and_le_left
theorem ψC:type_of% @List.range_succ:=List.range_succ
theorem ψD:type_of% @Nat.mul_le_mul:=Nat.mul_le_mul
theorem ψE:type_of% @Nat.le_zero:=Nat.le_zero
theorem ψF:type_of% @List.mem_iff_getElem:=List.mem_iff_getElem
theorem ψG:type_of% @List.getElem?_set_ne:=List.getElem?_set_ne
theorem ψH:type_of% @Bool.false_and:=Bool.false_and
set_option maxRecDepth 100000
section
open Go.RowKit
structure Hid(p:Prop):Prop where
 o:p
theorem hid{p:Prop}(h:p):Hid p:=⟨h⟩
def grow(w:World)(xs:Array Obj)(n:Nat):World:={w with heap:=w.heap++xs,drawn:=n}
theorem XQv(w:World)(xs:Array Obj)(n k:Nat)(h:k<w.heap.size):(grow w xs n).heap[k]?=w.heap[k]?:=by
 show (w.heap++xs)[k]?=_
 rw[Array.getElem?_append_left h]
theorem QG6(w:World)(xs:Array Obj)(n:Nat):(grow w xs n).heap.size=w.heap.size+xs.size:=by
 show (w.heap++xs).size=_;simp
theorem JyW(w:World)(xs ys:Array Obj)(n m:Nat):grow (grow w xs n) ys m=grow w (xs++ys) m:=by
 simp[grow,Array.append_assoc]
def Gr(w W:World):Prop:=∃xs n,W=grow w xs n
theorem JC8(w:World):grow w #[] w.drawn=w:=by cases w;simp[grow]
theorem Gr.refl(w:World):Gr w w:=⟨#[],w.drawn,(JC8 w).symm⟩
theorem Gr.trans{a b c:World}(h:Gr a b)(k:Gr b c):Gr a c:=by
 obtain⟨xs,n,rfl⟩:=h;obtain⟨ys,m,rfl⟩:=k;exact⟨xs++ys,m,JyW a xs ys n m⟩
theorem Gr.drewN{w W:World}(h:Gr w W)(n:Nat):Gr w (W.drewN n):=h.trans ⟨#[],W.drawn+n,by simp[Go.Proofs.YteihjlcmjecmfaaGreatDoor.grow,World.drewN]⟩
theorem Gr.drew{w W:World}(h:Gr w W):Gr w W.drew:=h.trans ⟨#[],W.drawn+1,by show _=({W with heap:=W.heap++#[],drawn:=W.drawn+1}:World);rw[Array.append_empty];rfl⟩
theorem Gr.alloc{w W:World}(h:Gr w W)(o:Obj):Gr w (W.alloc o):=h.trans ⟨#[o],W.drawn,by show _=({W with heap:=W.heap++#[o],drawn:=W.drawn}:World);rw[Array.append_singleton];rfl⟩
theorem Gr.size{w W:World}(h:Gr w W):w.heap.size<=W.heap.size:=by obtain⟨xs,n,rfl⟩:=h;rw[QG6];omega
theorem Gr.block{w W:World}(h:Gr w W){k:Nat}(hk:k<w.heap.size):W.heap[k]?=w.heap[k]?:=by obtain⟨xs,n,rfl⟩:=h;exact XQv w xs n k hk
theorem Gr.cell{w W:World}(h:Gr w W){b:Nat}(hb:b<w.heap.size)(o:Nat):W.cell? ⟨b,o,none⟩=w.cell? ⟨b,o,none⟩:=World.cell?_of_block (w:=w) (h.block hb)
theorem Gr.frozen{w W:World}(h:Gr w W){b:Nat}(hb:b<w.heap.size)(o:Nat):W.frozen? ⟨b,o,none⟩=w.frozen? ⟨b,o,none⟩:=World.frozen?_of_block (w:=w) (h.block hb)
structure XF4(S:Nat->Prop)(w w':World):Prop where
 os:w'.os=w.os
 tape:w'.tape=w.tape
 output:w'.output=w.output
 size:w.heap.size<=w'.heap.size
 block:∀k,k<w.heap.size->¬S k->w'.heap[k]?=w.heap[k]?
theorem XF4.refl(S:Nat->Prop)(w:World):XF4 S w w:=⟨rfl,rfl,rfl,π _,λ_ _ _=>rfl⟩
theorem Gr.touch{w W:World}(h:Gr w W)(S:Nat->Prop):XF4 S w W:=by
 refine⟨?_,?_,?_,h.size,λk hk _=>h.block hk⟩ <;> (obtain⟨xs,n,rfl⟩:=h;rfl)
theorem XF4.mono{S T:Nat->Prop}{w w':World}(h:XF4 S w w')(hs:∀k,k<w.heap.size->S k->T k):XF4 T w w':=
 ⟨h.os,h.tape,h.output,h.size,λk hk hn=>h.block k hk (λhS=>hn (hs k hk hS))⟩
theorem XF4.trans{S:Nat->Prop}{a b c:World}(h:XF4 S a b)(k:XF4 S b c):XF4 S a c:=
 ⟨k.os.trans h.os,k.tape.trans h.tape,k.output.trans h.output,ζb h.size k.size,λi hi hn=>(k.block i (ω hi h.size) hn).trans (h.block i hi hn)⟩
theorem XF4.trans'{S T:Nat->Prop}{a b c:World}(h:XF4 S a b)(k:XF4 T b c)(hT:∀i,i<a.heap.size->T i->S i):XF4 S a c:=
 ⟨k.os.trans h.os,k.tape.trans h.tape,k.output.trans h.output,ζb h.size k.size,λi hi hn=>(k.block i (ω hi h.size) (λht=>hn (hT i hi ht))).trans (h.block i hi hn)⟩
theorem XF4.cell{S:Nat->Prop}{w w':World}(h:XF4 S w w'){b:Nat}(hb:b<w.heap.size)(hS:¬S b)(o:Nat):w'.cell? ⟨b,o,none⟩=w.cell? ⟨b,o,none⟩:=World.cell?_of_block (w:=w) (h.block b hb hS)
theorem XF4.frozen{S:Nat->Prop}{w w':World}(h:XF4 S w w'){b:Nat}(hb:b<w.heap.size)(hS:¬S b)(o:Nat):w'.frozen? ⟨b,o,none⟩=w.frozen? ⟨b,o,none⟩:=World.frozen?_of_block (w:=w) (h.block b hb hS)
theorem XF4.setCell{S:Nat->Prop}{w w':World}(h:XF4 S w w'){a:Addr}(ha:a.block<w.heap.size->S a.block)(v:Value):XF4 S w (w'.setCell a v):=by
 refine h.trans' (T:=λk=>k=a.block) ⟨rfl,rfl,rfl,by simp[World.setCell],λk _ hn=>Below.heap_setCell _ _ _ _ hn⟩ ?_;rintro i hi rfl;exact ha hi
theorem XF4.alloc{S:Nat->Prop}{w w':World}(h:XF4 S w w')(o:Obj):XF4 S w (w'.alloc o):=h.trans (((Gr.refl w').alloc o).touch S)
theorem XF4.drew{S:Nat->Prop}{w w':World}(h:XF4 S w w'):XF4 S w w'.drew:=h.trans (((Gr.refl w').drew).touch S)
theorem XF4.drewN{S:Nat->Prop}{w w':World}(h:XF4 S w w')(n:Nat):XF4 S w (w'.drewN n):=h.trans (((Gr.refl w').drewN n).touch S)
theorem XF4.below{S:Nat->Prop}{w w':World}(h:XF4 S w w'){B:Nat}(hB:B<=w.heap.size)(hS:∀k,k<B->¬S k):Below B w w':=
 ⟨h.os,h.tape,h.output,h.size,λk hk=>h.block k Ω (hS k hk)⟩
theorem XF4.gr{w w':World}(h:XF4 (λ_=>False) w w'):Gr w w':=by
 refine⟨w'.heap.extract w.heap.size w'.heap.size,w'.drawn,?_⟩
 have hh:w'.heap=w.heap++w'.heap.extract w.heap.size w'.heap.size:=by
  have hs:=h.size;apply Array.ext_getElem?;intro i;rcases γ i w.heap.size with hi|hi
  ·rw[h.block i hi (λh=>h),Array.getElem?_append_left hi]
  ·rw[Array.getElem?_append_right hi,Array.getElem?_extract];by_cases hj:i<w'.heap.size
   ·rw[μ Ω];congr 1;omega
   ·rw[ϑ Ω,ξw Ω]
 obtain⟨h1,h2,h3,_,_⟩:=h;cases w;cases w';simp only[grow]at *
 subst h1 h2 h3;congr 1
def V4y(P:Program)(f:FuncId)(args:Array Value)(w:World)(v:Value):Prop:=Calls P f args w λe w'=>e=.returned v/\Gr w w'
theorem Y9c(P:Program)(k:IntKind)(x y:Int)(w:World):(Builtin.min2 (.int k x) (.int k y)).run P w=.ok (.int k (min x y)) w:=by
 show Result.ok (Value.int k (if y<x then y else x)) w=_
 have:(if y<x then y else x)=min x y:=by split <;> omega
 rw[this]
theorem YQd(P:Program)(k:IntKind)(x y:Int)(w:World):(Builtin.max2 (.int k x) (.int k y)).run P w=.ok (.int k (max x y)) w:=by
 show Result.ok (Value.int k (if x<y then y else x)) w=_
 have:(if x<y then y else x)=max x y:=by split <;> omega
 rw[this]
end
section
open Go.RowKit
structure YF9 where
 xs:Array Obj
 n:Nat
 deriving Inhabited
theorem XAX{P:Program}{id:Nat}{Q:Exit->Act->World->Prop}{a:Act}{w:World}{l:List Oper}(hm:P.follows .mixedOrders=true)(hB:Region.lexB .any l.toArray=true)
  (h:wpQuiet P l.toArray (λw'=>∃p:YF9,w'=grow w p.xs p.n) (λa'=>∀w',(∃p:YF9,w'=grow w p.xs p.n)->Q .normal a' w') l a):(Code.region id l.toArray true).wp P Q a w:=
 wp_region_quiet (C:=λw'=>∃p:YF9,w'=grow w p.xs p.n) hm hB ⟨⟨#[],w.drawn+1⟩,by obtain⟨xs,n,h⟩:=(Gr.refl w).drew;show w.drew=({w with heap:=w.heap++#[],drawn:=w.drawn+1}:World);rw[Array.append_empty];rfl⟩ (by rw[ψo];exact h)
theorem ZQf{w:World}{a:Addr}{v:Value}(h:w.cell? a=some v):a.block<w.heap.size:=by
 unfold World.cell? at h;rcases γ a.block w.heap.size with h1|h1
 ·exact h1
 ·rw[ξw h1]at h;cases h
theorem grown(w:World)(xs:Array Obj)(n:Nat):Gr w (grow w xs n):=⟨xs,n,rfl⟩
theorem V4y.grown{P:Program}{f:FuncId}{args:Array Value}{w:World}{xs:Array Obj}{n:Nat}{v:Value}(h:V4y P f args (grow w xs n) v):
  Calls P f args (grow w xs n) λe w''=>e=.returned v/\∃p:YF9,w''=Go.Proofs.YteihjlcmjecmfaaGreatDoor.grow w p.xs p.n:=
 h.mono λ_ _ ⟨he,ys,m,hw⟩=>⟨he,⟨xs++ys,m⟩,by rw[hw,JyW]⟩
theorem V4y.grown_same{P:Program}{f:FuncId}{args:Array Value}{w:World}{xs:Array Obj}{n:Nat}{v:Value}(h:Calls P f args (grow w xs n) λe w'=>e=.returned v/\grow w xs n=w'):
  Calls P f args (grow w xs n) λe w''=>e=.returned v/\∃p:YF9,w''=Go.Proofs.YteihjlcmjecmfaaGreatDoor.grow w p.xs p.n:=
 h.mono λ_ _ ⟨he,hw⟩=>⟨he,⟨xs,n⟩,hw.symm⟩
end
section
open Go.RowKit
section
variable {F:Fence} {n:Nat} {P:Program}
def ZAK{σ α:Type}(F:Fence)(n:Nat)(P:Program)(g:Nat)(lb:Array Value)(encs:α->Array Value)(Inv:σ->World->Prop)(gives:σ->α->Prop)(next:σ->α->σ->Prop)(fin:σ->Prop)(s0:σ)(w:World):Prop:=
 ∀(l:Nat) (J:σ->World->Prop) (Jx:World->Prop) (W:World),Gr w W->(∀s A B,J s A->Gr A B->J s B)->(∀A B,Jx A->Gr A B->Jx B)->(∀s A,J s A->Inv s A) →
  (∀s x W1,J s W1->gives s x->YieldAt F (n-1) P l (encs x) W1 λe W'=>(e=.returned (.bool true)/\∃s',next s x s'/\J s' W')\/(e=.returned (.bool false)/\Jx W')) →
  J s0 W->CallsIn F n P g (#[.func (.yield l) #[] #[]]++lb) W λe W'=>(∃v,e=.returned v)/\((∃s,fin s/\J s W')\/Jx W')
def YMR{σ α:Type}(B:Nat)(I:σ->World->Prop)(Ix:Code->World->Prop)(next:σ->α->σ->Prop)(s:σ)(x:α)(W:World):Exit->Act->World->Prop
 | .normal,_,W'=>XF4 (λk=>k<B) W W'/\∃s',next s x s'/\I s' W'
 | .ret,_,W'=>XF4 (λk=>k<B) W W'/\Ix .ret W'
 | .exit id,_,W'=>XF4 (λk=>k<B) W W'/\Ix (.exit id) W'
 | .goto t,_,W'=>XF4 (λk=>k<B) W W'/\Ix (.goto t) W'
 | _,_,_=>False
theorem Xau(W:World)(l:Nat)(o:Obj){B:Nat}(h:B<=l):XF4 (λk=>B<=k) W (W.putObj l o):=
 ⟨rfl,rfl,rfl,by simp,λk _ hn=>ζu (λe=>hn Ω)⟩
theorem Zu0{σ α:Type}{g:Operand}{ps:Array Tmp}{assign body:Code}{Q:Exit->Act->World->Prop}{a:Act}{w:World}
  (hro:F.round=none) (h1:1<=n) {gf:Nat} {lb:Array Value} (hg:a.eval g=.func (.func gf) #[] lb) (hFg:F.fn gf) (eg:∀args w,(callFunc gf args).run P w=.ok (.enter gf args) w)
  {encs:α->Array Value} {Inv:σ->World->Prop} {gives:σ->α->Prop} {next:σ->α->σ->Prop} {fin:σ->Prop} {s0:σ} (hseq:ZAK F (n-1) P gf lb encs Inv gives next fin s0 w)
  (hps:∀x,(encs x).size=ps.size)
  (I:σ->World->Prop) (Ix:Code->World->Prop) (hI:∀s A B,I s A->XF4 (λk=>w.heap.size<=k) A B->I s B) (hIx:∀c A B,Ix c A->XF4 (λk=>w.heap.size<=k) A B->Ix c B)
  (hInv:∀s A,I s A->Inv s A) (h0:I s0 w)
  (hround:∀(l:Nat) (s:σ) (x:α) (W:World),w.heap.size+2<=W.heap.size->I s W->gives s x →
   assign.wpIn (F.inRound l) (n-1-1) P (Exit.then (λa' Wa=>Gr W Wa/\∀W2,XF4 (λk=>k=w.heap.size+1) Wa W2->I s W2->body.wpIn (F.inRound l) (n-1-1) P (YMR w.heap.size I Ix next s x W2) a' W2) (λ_ _ _=>False))
    {tmps:=(ps.zip (encs x)).foldl (λt (p,v)=>t.setIfInBounds p v) a.tmps,defers:=[]} W)
  (hdone:∀(D:Nat) (s:σ) (W:World),w.heap.size<=D->fin s->I s W->W.heap[D]?=some (.deferred (some []))->Q .normal {a with defers:={target:=.collected D,args:=#[]} :: a.defers} W)
  (hstop:∀(D:Nat) (c:Code) (W:World),w.heap.size<=D->Ix c W->W.heap[D]?=some (.deferred (some []))->c.wpIn F n P Q {a with defers:={target:=.collected D,args:=#[]} :: a.defers} W):
  (Code.rangeFunc g ps assign body).wpIn F n P Q a w:=by
 refine wpIn_rangeFunc ?_;intro fn Xf;rw[hro];obtain⟨Y,Z⟩:∃Y:LoopState->Option Code->Loop,Y=λst pe=>{state:=st,pending:=pe,fn,tmps:=a.tmps,params:=ps,assign,body,defers:=w.heap.size}:=⟨_,rfl⟩;obtain⟨W1,E⟩:∃W1,(w.alloc (.deferred (some []))).alloc (.loop (Y .ready none))=W1:=⟨_,rfl⟩
 have Xe:W1.heap[w.heap.size+1]?=some (.loop (Y .ready none)):=by
  rw[<-E];have:=ξM (w.alloc (.deferred (some []))) (.loop (Y .ready none));rwa [η]at this
 have Xg:W1.heap[w.heap.size]?=some (.deferred (some [])):=by
  rw[<-E];exact(Below.heap_alloc _ _ _ (by simp)).trans (ξM w _)
 have G:Gr w W1:=by rw[<-E];exact((Gr.refl w).alloc _).alloc _
 have tt:∀{A B:World},Gr A B->XF4 (λk=>w.heap.size<=k) A B:=λh=>h.touch _;have X:∀{A:World} {k:Nat} {o:Obj},A.heap[k]?=some o->k<A.heap.size:=λh=>(ζn.1 h).1
 refine⟨w.heap.size+1,[{target:=.collected w.heap.size,args:=#[]}],W1,{target:=.fn (.func gf) lb,args:=#[.func (.yield (w.heap.size+1)) #[] #[]]},W1,gf,
  #[.func (.yield (w.heap.size + 1)) #[] #[]] ++ lb, W1, ?_, ?_, ?_, ?_, λ_ => h1, ?_⟩
 ·rw[<-E,Z];exact run_enterLoop_outer _ _ _ _ _
 ·simp only[resolve,hg];simp[go_sem]
 ·intro f' Xc;simp[Target.leads]at Xc;subst Xc;exact hFg
 ·simp[invoke,go_sem,eg]
 ·refine(hseq (w.heap.size+1)
   (λs W=>I s W/\W.heap[w.heap.size+1]?=some (.loop (Y .ready none))/\W.heap[w.heap.size]?=some (.deferred (some [])))
   (λW=>∃c,Ix c W/\W.heap[w.heap.size+1]?=some (.loop (Y .done (some c)))/\W.heap[w.heap.size]?=some (.deferred (some [])))
   W1 G
   (λs A B hs hg'=>⟨hI s A B hs.1 (tt hg'),(hg'.block (X hs.2.1)).trans hs.2.1,(hg'.block (X hs.2.2)).trans hs.2.2⟩)
   (λA B hs hg'=>by
    obtain⟨c,hc,hl,hk⟩:=hs
    exact⟨c,hIx c A B hc (tt hg'),(hg'.block (X hl)).trans hl,(hg'.block (X hk)).trans hk⟩)
   (λs A hs=>hInv s A hs.1) ?_ ⟨hI _ _ _ h0 (tt G),Xe,Xg⟩).mono ?_
  ·rintro s x W ⟨hi,hl,hk⟩ Xh;have L:w.heap.size+1<W.heap.size:=X hl;have hy:=run_yield (P:=P) (args:=encs x) hl (by rw[Z];exact hps x);rw[Z]at hy;refine⟨fn,_,assign,body,hy,roundIn_of_wpIn Xf (wpIn_mono (hround _ s x W Ω hi Xh) ?_)⟩;rintro e a' Wa hp;cases e with
   | normal=>?_
   | _=>exact False.elim hp
   obtain⟨O,N⟩:=hp
   replace hl:=(O.block L).trans hl
   replace hk:=(O.block Ω).trans hk
   replace L:=X hl
   replace hi:=hI _ _ _ hi (tt O)
   clear hy O;revert N;generalize W=W0;intro N;obtain⟨W,rfl⟩:∃W,W=Wa:=⟨_,rfl⟩;refine⟨_,run_beginRound hl (by rw[Z]),?_⟩;have Xb:(W.putObj (w.heap.size+1) (.loop {Y .ready none with state:=.busy})).heap[w.heap.size+1]?=some (.loop {Y .ready none with state:=.busy}):=ξJ L;have Xd:(W.putObj (w.heap.size+1) (.loop {Y .ready none with state:=.busy})).heap[w.heap.size]?=some (.deferred (some [])):=(ζu Ω).trans hk;refine wpIn_mono (N _ ⟨rfl,rfl,rfl,by simp,λk _ hn=>ζu hn⟩ (hI _ _ _ hi (Xau W _ _ Ω))) ?_
   have fin:∀(jump:Option Code) (W3:World),XF4 (λk=>k<w.heap.size) (W.putObj (w.heap.size+1) (.loop {Y .ready none with state:=.busy})) W3 →
     (Instr.endRound (w.heap.size+1) jump).run P W3=.ok (.bool jump.isNone) (W3.putObj (w.heap.size+1) (.loop (Y (if jump.isNone then .ready else .done) jump))) ∧
     (W3.putObj (w.heap.size+1) (.loop (Y (if jump.isNone then .ready else .done) jump))).heap[w.heap.size+1]?=some (.loop (Y (if jump.isNone then .ready else .done) jump)) ∧
     (W3.putObj (w.heap.size+1) (.loop (Y (if jump.isNone then .ready else .done) jump))).heap[w.heap.size]?=some (.deferred (some [])):=λjump W3 J=>by
    have Xa:=(J.block _ (X Xb) Ω).trans Xb;have:=run_endRound (P:=P) jump Xa;rw[Z]at this⊢;exact⟨this,ξJ (X Xa),(ζu Ω).trans ((J.block _ (X Xd) Ω).trans Xd)⟩
   rintro e a3 W3 hp;cases e with
   | normal=>
    obtain⟨J,s',Xi,V⟩:=hp;obtain⟨hr,M,U⟩:=fin none W3 J;exact⟨_,_,hr,.inl ⟨rfl,s',Xi,hI _ _ _ V (Xau W3 _ _ Ω),M,U⟩⟩
   | ret=>
    obtain⟨J,V⟩:=hp;obtain⟨hr,M,U⟩:=fin (some .ret) W3 J;exact⟨_,_,hr,.inr ⟨rfl,.ret,hIx _ _ _ V (Xau W3 _ _ Ω),M,U⟩⟩
   | exit id=>
    obtain⟨J,V⟩:=hp;obtain⟨hr,M,U⟩:=fin (some (.exit id)) W3 J;exact⟨_,_,hr,.inr ⟨rfl,.exit id,hIx _ _ _ V (Xau W3 _ _ Ω),M,U⟩⟩
   | goto t=>
    obtain⟨J,V⟩:=hp;obtain⟨hr,M,U⟩:=fin (some (.goto t)) W3 J;exact⟨_,_,hr,.inr ⟨rfl,.goto t,hIx _ _ _ V (Xau W3 _ _ Ω),M,U⟩⟩
   | panic ch=>exact hp.elim
   | outgrown=>exact hp.elim
  ·rintro e W2 ⟨⟨v,rfl⟩,(⟨s,hS,hi,hl,hk⟩|⟨c,hi,hl,hk⟩)⟩
   ·exact⟨none,_,by have:=run_endLoop (P:=P) hl (by rw[Z];simp);rw[Z]at this;exact this,hdone _ s _ (π _) hS (hI _ _ _ hi (Xau W2 _ _ Ω)) ((ζu Ω).trans hk)⟩
   ·exact⟨some c,_,by have:=run_endLoop (P:=P) hl (by rw[Z];simp);rw[Z]at this;exact this,hstop _ c _ (π _) (hIx _ _ _ hi (Xau W2 _ _ Ω)) ((ζu Ω).trans hk)⟩
end
end
section
open Go.RowKit
section
variable {F:Fence} {n:Nat} {P:Program}
def Vwu{σ α:Type}(F:Fence)(n:Nat)(P:Program)(g:Nat)(lb:Array Value)(encs:α->Array Value)(Inv:σ->World->Prop)(gives:σ->α->Prop)(next:σ->α->σ->Prop)(fin:σ->Prop)(s0:σ)(w:World):Prop:=
 ∀(l:Nat) (J:σ->World->Prop) (Jx:World->Prop) (W:World),Gr w W->(∀s A B,J s A->XF4 (λk=>W.heap.size<=k) A B->J s B)->(∀A B,Jx A->XF4 (λk=>W.heap.size<=k) A B->Jx B)->(∀s A,J s A->Inv s A) →
  (∀s x W1,J s W1->W.heap.size<=W1.heap.size->gives s x->YieldAt F (n-1) P l (encs x) W1 λe W'=>((e=.returned (.bool true)/\∃s',next s x s'/\J s' W')\/(e=.returned (.bool false)/\Jx W'))/\XF4 (λk=>k<W.heap.size) W1 W') →
  J s0 W->CallsIn F n P g (#[.func (.yield l) #[] #[]]++lb) W λe W'=>(∃v,e=.returned v)/\((∃s,fin s/\J s W')\/Jx W')
theorem Vx3(W:World)(l:Nat)(o:Obj):XF4 (λk=>k=l) W (W.putObj l o):=
 ⟨rfl,rfl,rfl,by simp,λ_ _ hn=>ζu hn⟩
theorem ZAK.toT{σ α:Type}{g:Nat}{lb:Array Value}{encs:α->Array Value}{Inv:σ->World->Prop}{gives:σ->α->Prop}{next:σ->α->σ->Prop}{fin:σ->Prop}{s0:σ}{w:World}(h:ZAK F n P g lb encs Inv gives next fin s0 w):Vwu F n P g lb encs Inv gives next fin s0 w:=by
 intro l J Jx W hg hJ Z hI hY h0;refine h l (λs A=>J s A/\W.heap.size<=A.heap.size) Jx W hg (λs A B hs hAB=>⟨hJ s A B hs.1 (hAB.touch _),ζb hs.2 hAB.size⟩) (λA B hs hAB=>Z A B hs (hAB.touch _)) (λs A hs=>hI s A hs.1) ?_ ⟨h0,π _⟩ |>.mono ?_
 ·rintro s x W1 ⟨hs,Y⟩ hx;refine(hY s x W1 hs Y hx).mono ?_;rintro e W' ⟨⟨he,s',hn,X⟩|⟨he,U⟩,ht⟩
  ·exact .inl ⟨he,s',hn,X,ζb Y ht.size⟩
  ·exact .inr ⟨he,U⟩
 ·rintro e W' ⟨hv,⟨s,hs,X,_⟩|hx⟩
  ·exact⟨hv,.inl ⟨s,hs,X⟩⟩
  ·exact⟨hv,.inr hx⟩
theorem JQ9{σ α:Type}{g:Operand}{ps:Array Tmp}{assign body:Code}{Q:Exit->Act->World->Prop}{a:Act}{w:World}
  (hro:F.round=none) (h1:1<=n) {gf:Nat} {lb:Array Value} (hg:a.eval g=.func (.func gf) #[] lb) (hFg:F.fn gf) (eg:∀args w,(callFunc gf args).run P w=.ok (.enter gf args) w)
  {encs:α->Array Value} {Inv:σ->World->Prop} {gives:σ->α->Prop} {next:σ->α->σ->Prop} {fin:σ->Prop} {s0:σ} (hseq:Vwu F (n-1) P gf lb encs Inv gives next fin s0 w)
  (hps:∀x,(encs x).size=ps.size)
  (I:σ->World->Prop) (Ix:Code->World->Prop) (hI:∀s A B,I s A->XF4 (λk=>w.heap.size<=k) A B->I s B) (hIx:∀c A B,Ix c A->XF4 (λk=>w.heap.size<=k) A B->Ix c B)
  (hInv:∀s A,I s A->Inv s A) (h0:I s0 w)
  (hround:∀(l:Nat) (s:σ) (x:α) (W:World),w.heap.size+2<=W.heap.size->I s W->gives s x →
   assign.wpIn (F.inRound l) (n-1-1) P (Exit.then (λa' Wa=>Gr W Wa/\∀W2,XF4 (λk=>k=w.heap.size+1) Wa W2->I s W2->body.wpIn (F.inRound l) (n-1-1) P (YMR w.heap.size I Ix next s x W2) a' W2) (λ_ _ _=>False))
    {tmps:=(ps.zip (encs x)).foldl (λt (p,v)=>t.setIfInBounds p v) a.tmps,defers:=[]} W)
  (hdone:∀(D:Nat) (s:σ) (W:World),w.heap.size<=D->fin s->I s W->W.heap[D]?=some (.deferred (some []))->Q .normal {a with defers:={target:=.collected D,args:=#[]} :: a.defers} W)
  (hstop:∀(D:Nat) (c:Code) (W:World),w.heap.size<=D->Ix c W->W.heap[D]?=some (.deferred (some []))->c.wpIn F n P Q {a with defers:={target:=.collected D,args:=#[]} :: a.defers} W):
  (Code.rangeFunc g ps assign body).wpIn F n P Q a w:=by
 refine wpIn_rangeFunc ?_;intro fn Xg;rw[hro];obtain⟨Y,Z⟩:∃Y:LoopState->Option Code->Loop,Y=λst pe=>{state:=st,pending:=pe,fn,tmps:=a.tmps,params:=ps,assign,body,defers:=w.heap.size}:=⟨_,rfl⟩;obtain⟨W1,E⟩:∃W1,(w.alloc (.deferred (some []))).alloc (.loop (Y .ready none))=W1:=⟨_,rfl⟩
 have Xf:W1.heap[w.heap.size+1]?=some (.loop (Y .ready none)):=by
  rw[<-E];have:=ξM (w.alloc (.deferred (some []))) (.loop (Y .ready none));rwa [η]at this
 have Xh:W1.heap[w.heap.size]?=some (.deferred (some [])):=by
  rw[<-E];exact(Below.heap_alloc _ _ _ (by simp)).trans (ξM w _)
 have Xa:Gr w W1:=by rw[<-E];exact((Gr.refl w).alloc _).alloc _
 have tt:∀{A B:World},Gr A B->XF4 (λk=>w.heap.size<=k) A B:=λh=>h.touch _;have X:∀{A:World} {k:Nat} {o:Obj},A.heap[k]?=some o->k<A.heap.size:=λh=>(ζn.1 h).1
 refine⟨w.heap.size+1,[{target:=.collected w.heap.size,args:=#[]}],W1,{target:=.fn (.func gf) lb,args:=#[.func (.yield (w.heap.size+1)) #[] #[]]},W1,gf,
  #[.func (.yield (w.heap.size + 1)) #[] #[]] ++ lb, W1, ?_, ?_, ?_, ?_, λ_ => h1, ?_⟩
 ·rw[<-E,Z];exact run_enterLoop_outer _ _ _ _ _
 ·simp only[resolve,hg];simp[go_sem]
 ·intro f' Xd;simp[Target.leads]at Xd;subst Xd;exact hFg
 ·simp[invoke,go_sem,eg]
 ·have hs1:W1.heap.size=w.heap.size+2:=by rw[<-E];simp
  refine(hseq (w.heap.size+1)
   (λs W=>I s W/\W.heap[w.heap.size+1]?=some (.loop (Y .ready none))/\W.heap[w.heap.size]?=some (.deferred (some [])))
   (λW=>∃c,Ix c W/\W.heap[w.heap.size+1]?=some (.loop (Y .done (some c)))/\W.heap[w.heap.size]?=some (.deferred (some [])))
   W1 Xa
   (λs A B hs ht=>⟨hI s A B hs.1 (ht.mono (λk _ h=>by omega)),(ht.block _ (X hs.2.1) Ω).trans hs.2.1,(ht.block _ (X hs.2.2) Ω).trans hs.2.2⟩)
   (λA B hs ht=>by
    obtain⟨c,hc,hl,hk⟩:=hs
    exact⟨c,hIx c A B hc (ht.mono (λk _ h=>by omega)),(ht.block _ (X hl) Ω).trans hl,(ht.block _ (X hk) Ω).trans hk⟩)
   (λs A hs=>hInv s A hs.1) ?_ ⟨hI _ _ _ h0 (tt Xa),Xf,Xh⟩).mono ?_
  ·rintro s x W ⟨hi,hl,hk⟩-Xi;have G:w.heap.size+1<W.heap.size:=X hl;have hy:=run_yield (P:=P) (args:=encs x) hl (by rw[Z];exact hps x);rw[Z]at hy;refine⟨fn,_,assign,body,hy,roundIn_of_wpIn Xg (wpIn_mono (hround _ s x W Ω hi Xi) ?_)⟩;rintro e a' Wa hp;cases e with
   | normal=>?_
   | _=>exact False.elim hp
   obtain⟨O,N⟩:=hp
   replace hl:=(O.block G).trans hl
   replace hk:=(O.block Ω).trans hk
   replace G:=X hl
   replace hi:=hI _ _ _ hi (tt O)
   clear hy;revert N O;generalize W=W0;intro O N;obtain⟨W,rfl⟩:∃W,W=Wa:=⟨_,rfl⟩;refine⟨_,run_beginRound hl (by rw[Z]),?_⟩;have Xc:(W.putObj (w.heap.size+1) (.loop {Y .ready none with state:=.busy})).heap[w.heap.size+1]?=some (.loop {Y .ready none with state:=.busy}):=ξJ G;have Xe:(W.putObj (w.heap.size+1) (.loop {Y .ready none with state:=.busy})).heap[w.heap.size]?=some (.deferred (some [])):=(ζu Ω).trans hk;refine wpIn_mono (N _ ⟨rfl,rfl,rfl,by simp,λk _ hn=>ζu hn⟩ (hI _ _ _ hi (Xau W _ _ Ω))) ?_
   have fin:∀(jump:Option Code) (W3:World),XF4 (λk=>k<w.heap.size) (W.putObj (w.heap.size+1) (.loop {Y .ready none with state:=.busy})) W3 →
     (Instr.endRound (w.heap.size+1) jump).run P W3=.ok (.bool jump.isNone) (W3.putObj (w.heap.size+1) (.loop (Y (if jump.isNone then .ready else .done) jump))) ∧
     (W3.putObj (w.heap.size+1) (.loop (Y (if jump.isNone then .ready else .done) jump))).heap[w.heap.size+1]?=some (.loop (Y (if jump.isNone then .ready else .done) jump)) ∧
     (W3.putObj (w.heap.size+1) (.loop (Y (if jump.isNone then .ready else .done) jump))).heap[w.heap.size]?=some (.deferred (some [])):=λjump W3 J=>by
    have Xb:=(J.block _ (X Xc) Ω).trans Xc;have:=run_endRound (P:=P) jump Xb;rw[Z]at this⊢;exact⟨this,ξJ (X Xb),(ζu Ω).trans ((J.block _ (X Xe) Ω).trans Xe)⟩
   have L:∀(o:Obj) (W3:World),XF4 (λk=>k<w.heap.size) (W.putObj (w.heap.size+1) (.loop {Y .ready none with state:=.busy})) W3->XF4 (λk=>k<W1.heap.size) W0 (W3.putObj (w.heap.size+1) o):=λo W3 h3=>
    (((O.touch _).trans ((Vx3 W (w.heap.size+1) _).mono (λk _ h=>by omega))).trans (h3.mono (λk _ h=>by omega))).trans ((Vx3 W3 (w.heap.size+1) o).mono (λk _ h=>by omega))
   rintro e a3 W3 hp;cases e with
   | normal=>
    obtain⟨J,s',Xj,V⟩:=hp;obtain⟨hr,M,U⟩:=fin none W3 J;exact⟨_,_,hr,.inl ⟨rfl,s',Xj,hI _ _ _ V (Xau W3 _ _ Ω),M,U⟩,L _ _ J⟩
   | ret=>
    obtain⟨J,V⟩:=hp;obtain⟨hr,M,U⟩:=fin (some .ret) W3 J;exact⟨_,_,hr,.inr ⟨rfl,.ret,hIx _ _ _ V (Xau W3 _ _ Ω),M,U⟩,L _ _ J⟩
   | exit id=>
    obtain⟨J,V⟩:=hp;obtain⟨hr,M,U⟩:=fin (some (.exit id)) W3 J;exact⟨_,_,hr,.inr ⟨rfl,.exit id,hIx _ _ _ V (Xau W3 _ _ Ω),M,U⟩,L _ _ J⟩
   | goto t=>
    obtain⟨J,V⟩:=hp;obtain⟨hr,M,U⟩:=fin (some (.goto t)) W3 J;exact⟨_,_,hr,.inr ⟨rfl,.goto t,hIx _ _ _ V (Xau W3 _ _ Ω),M,U⟩,L _ _ J⟩
   | panic ch=>exact hp.elim
   | outgrown=>exact hp.elim
  ·rintro e W2 ⟨⟨v,rfl⟩,(⟨s,hS,hi,hl,hk⟩|⟨c,hi,hl,hk⟩)⟩
   ·exact⟨none,_,by have:=run_endLoop (P:=P) hl (by rw[Z];simp);rw[Z]at this;exact this,hdone _ s _ (π _) hS (hI _ _ _ hi (Xau W2 _ _ Ω)) ((ζu Ω).trans hk)⟩
   ·exact⟨some c,_,by have:=run_endLoop (P:=P) hl (by rw[Z];simp);rw[Z]at this;exact this,hstop _ c _ (π _) (hIx _ _ _ hi (Xau W2 _ _ Ω)) ((ζu Ω).trans hk)⟩
end
end
section
open Go.RowKit
section
variable {P:Program} {ops:Array Oper} {Q:Exit->Act->World->Prop} {md:Region.Mode} {S:World->Prop}
def Vnh(P:Program)(md:Region.Mode)(ops:Array Oper)(Q:Exit->Act->World->Prop)(S:World->Prop)(z:Nat):Nat->Array Bool->Act->World->Prop
 | 0,listed,a,w=>Region.ready md ops listed=[]/\Q .normal a w
 | f+1,listed,a,w=>
  (Region.ready md ops listed=[]->Q .normal a w) ∧
  ∀i∈Region.ready md ops listed,wpOp P ops Q i (λa' w'=>(i=z\/S w')/\Vnh P md ops Q S z f (listed.setIfInBounds i true) a' w') a w
theorem Zmi{z:Nat}:∀(f:Nat) (listed:Array Bool) (a:Act) (w:World),Vnh P md ops Q S z f listed a w->wpAny P md ops Q f listed a w
 | 0,_,_,_,h=>h
 | f+1,_,_,_,h=>⟨h.1,λi hi=>wpOp_mono (λa' w' h'=>Zmi f _ a' w' h'.2) (h.2 i hi)⟩
def ZVQ(md:Region.Mode)(ops:Array Oper)(listed:Array Bool):Prop:=
 ∀j oj,ops[j]?=some oj->listed.getD j false=true->∀e∈oj.after,Region.binds md e=true->listed.getD e.on false=true
theorem ZVQ.none(md:Region.Mode)(ops:Array Oper):ZVQ md ops (Array.replicate ops.size false):=λj oj _ hl=>by
 simp only[ξ0,Array.getElem?_replicate]at hl
 split at hl <;> simp at hl
theorem ZVQ.set{listed:Array Bool}{i:Nat}(h:ZVQ md ops listed)(hi:i∈Region.ready md ops listed):ZVQ md ops (listed.setIfInBounds i true):=by
 obtain⟨_,oi,Z,X⟩:=mem_ready.1 hi;intro j oj hj hl e he hb;by_cases Y:i=j
 ·subst Y;obtain rfl:oj=oi:=Option.some.inj (hj.symm.trans Z);exact getD_set_true (X e he hb)
 ·rw[getD_set_ne false Y]at hl;exact getD_set_true (h j oj hj hl e he hb)
def anc(md:Region.Mode)(ops:Array Oper):Nat->Nat->Nat->Bool
 | 0,_,_=>false
 | f+1,j,i=>match ops[j]? with
  | none=>false
  | some o=>o.after.any λe=>Region.binds md e&&(e.on==i||anc md ops f e.on i)
theorem JZc{listed:Array Bool}(h:ZVQ md ops listed):∀(f j i:Nat) (o:Oper),ops[j]?=some o->(∀e∈o.after,Region.binds md e=true->listed.getD e.on false=true)->anc md ops f j i=true->listed.getD i false=true
 | 0,_,_,_,_,_,ha=>by cases ha
 | f+1,j,i,o,ho,hall,ha=>by
  simp only[anc,ho]at ha;obtain⟨e,he,hb⟩:=Array.any_eq_true'.1 ha;simp only[ζd,ζY,ζZ]at hb;have hl:=hall e he hb.1;rcases hb.2 with h1|h1
  ·rw[<-h1];exact hl
  ·cases hoe:ops[e.on]? with
   | none=>cases f <;> simp[anc,hoe]at h1
   | some oe=>exact JZc h f e.on i oe hoe (h e.on oe hoe hl) h1
def Xzl(md:Region.Mode)(ops:Array Oper)(z:Nat):Bool:=decide (ops.size<=z)||(List.range ops.size).all λi=>i==z||anc md ops ops.size z i
theorem Q9R{listed:Array Bool}{z i:Nat}(hz:Xzl md ops z=true)(h:ZVQ md ops listed)(hr:z∈Region.ready md ops listed)(hi:i<ops.size)(hne:i≠z):listed.getD i false=true:=by
 obtain⟨_,oz,X,Y⟩:=mem_ready.1 hr;simp only[Xzl,ζY,ζe,ξt,ζP,ζZ]at hz;rcases hz with hz|hz
 ·rw[ξw hz]at X;cases X
 ·exact JZc h _ z i oz X Y ((hz i hi).resolve_left hne)
theorem X2k{listed:Array Bool}{i:Nat}(h1:listed.getD i true=false)(h2:listed.getD i false=true):False:=by
 rcases γ i listed.size with h|h
 ·simp[h]at h1 h2;rw[h1]at h2;cases h2
 ·simp[ξw h]at h1
theorem JDV{z i:Nat}{oi:Oper}{v:Value}(hi:ops[i]?=some oi)(hsel:∀(j:Nat) (o:Oper) cs b,ops[j]?=some o->o.op≠.select cs b)
  (hQ:∀c a w,Q (.panic c) (a.put oi.dst v) w->Q (.panic c) a w) (hz:Xzl md ops z=true):
  ∀(f:Nat) (listed:Array Bool) (a:Act) (w:World),ZVQ md ops listed →
   (∀j oj,ops[j]?=some oj->j≠i->listed.getD j true=false->(∀e∈oj.after,Region.binds md e=true->e.on≠i)->oi.apart ops oj=true) →
   i∈Region.ready md ops listed->YieldsIf P ops S oi v a->S w →
   Vnh P md ops Q S z f (listed.setIfInBounds i true) (a.put oi.dst v) w->Vnh P md ops Q S z (f+1) listed a w:=by
 intro f
 induction f with
 | zero=>
  intro listed a w _ _ hr hy hS H;refine⟨λh=>(by rw[h]at hr;cases hr),λj hj=>?_⟩;by_cases X:j=i
  ·subst X;exact hy.wpOp hi hS ⟨.inr hS,H⟩
  ·have:=ready_mono hj X;rw[H.1]at this;cases this
 | succ f ih=>
  intro listed a w I Y hr hy hS H;refine⟨λh=>(by rw[h]at hr;cases hr),λj hj=>?_⟩;by_cases X:j=i
  ·subst X;exact hy.wpOp hi hS ⟨.inr hS,H⟩
  ·have h1:=H.2 j (ready_mono hj X);obtain⟨U,oj,V,O⟩:=mem_ready.1 hj;have Z:=(mem_ready.1 hr).1;have M:i<ops.size:=(ζn.1 hi).1
   have L:j≠z:=λe=>by
    subst e;exact X2k Z (Q9R hz I hj M (Ne.symm X))
   have N:∀e∈oj.after,Region.binds md e=true->e.on≠i:=λe he hb heq=>X2k Z (heq▸O e he hb);have h2:=wpOp_putIf V (Y j oj V X U N) (λcs b=>hsel i oi cs b hi) (λcs b=>hsel j oj cs b V) hQ hy h1
   have J:∀k ok,ops[k]?=some ok->k≠i->(listed.setIfInBounds j true).getD k true=false →
     (∀e∈ok.after,Region.binds md e=true->e.on≠i)->oi.apart ops ok=true:=λk ok hk hki Z hno=>by
    refine Y k ok hk hki ?_ hno;by_cases E:j=k
    ·subst E;exact U
    ·rw[getD_set_ne true E]at Z;exact Z
   refine wpOp_mono (λa' w' h3=>?_) h2;obtain⟨h3,h4,h5⟩:=h3;have D:S w':=h4.resolve_left L;refine⟨h4,ih (listed.setIfInBounds j true) a' w' (I.set hj) J (ready_mono hr (Ne.symm X)) h3 D ?_⟩;rw[ψv _ _ X];exact h5
def QK6(o:Oper):Bool:=
 match o.op with
 | .move _| .assign _| .pick .. | .build .. | .load .. | .nilCheck _| .binOp .. | .unOp .. | .convert .. | .sliceToArrayPointer .. | .makeInterface .. | .makeFunc .. | .slice .. | .fieldAddr .. | .field .. | .indexAddr .. | .index .. | .lookup .. | .typeAssert .. | .extract ..=>true
 | .call {callee:=.builtin .len,..} | .call {callee:=.builtin .cap,..} | .call {callee:=.builtin .min,..} | .call {callee:=.builtin .max,..}=>true
 | _=>false
theorem JUT{s:Sem Value}{w w':World}{n:Next}(h:(do pure (Next.value (<-s)):Sem Next).run P w=.ok n w'):∃v,n=.value v:=by
 rw[Sem.run_bind]at h;cases hs:s.run P w with
 | ok v w1=>rw[hs]at h;simp only[Result.andThen_ok,Sem.run_pure]at h;cases h;exact⟨v,rfl⟩
 | halt x w1=>rw[hs]at h;simp only[Result.andThen]at h;cases h
theorem ZLh{w w':World}{n:Next}(h:(runtimePanic .nilDeref:Sem Next).run P w=.ok n w'):False:=by
 simp[runtimePanic,goPanic,go_sem]at h
theorem Y9U{o:Oper}{ρ:Operand->Value}{w w':World}{n:Next}(hq:QK6 o=true)(h:(execOp ρ o).run P w=.ok n w'):∃v,n=.value v:=by
 obtain⟨dst,op,type,pos,after,guard⟩:=o;cases op
 case move x=>simp only[execOp,Sem.run_pure]at h;cases h;exact⟨_,rfl⟩
 case assign x=>simp only[execOp,Sem.run_pure]at h;cases h;exact⟨_,rfl⟩
 case pick c a b=>exact JUT (s:=do pure (if <-asBool (ρ c)then ρ a else ρ b)) (by simpa[execOp,Sem.run_bind]using h)
 case nilCheck x=>
  simp only[execOp]at h
  split at h
  ·exact(ZLh h).elim
  ·exact(ZLh h).elim
  ·exact(ZLh h).elim
  ·split at h
   ·exact(ZLh h).elim
   ·rw[Sem.run_bind]at h;cases h1:(program:Sem Program).run P w with
    | halt x w1=>rw[h1]at h;simp only[Result.andThen]at h;cases h
    | ok p w1=>
     rw[h1]at h;simp only[Result.andThen_ok]at h;rw[Sem.run_bind]at h;cases h2:(nilAhead (p.types.size+Made.depth) _ _ _).run P w1 with
     | halt x w2=>rw[h2]at h;simp only[Result.andThen]at h;cases h
     | ok r w2=>
      rw[h2]at h;simp only[Result.andThen_ok]at h
      split at h
      ·rw[Sem.run_bind]at h;simp[unsupported,go_sem]at h
      ·simp only[Sem.run_pure]at h;cases h;exact⟨_,rfl⟩
   ·simp only[Sem.run_pure]at h;cases h;exact⟨_,rfl⟩
  ·simp only[Sem.run_pure]at h;cases h;exact⟨_,rfl⟩
 case call c=>
  obtain⟨X,args,ts⟩:=c;cases X
  case builtin b=>
   cases b <;> simp[QK6]at hq <;> exact JUT h
  all_goals simp[QK6]at hq
 all_goals first
  | (simp[QK6]at hq;done)
  | exact JUT h
def XZy(l:List Oper):List Nat->List Oper
 | []=>[]
 | k :: ks=>match l[k]? with
  | some o=>o :: XZy l ks
  | none=>XZy l ks
def Jrg(md:Region.Mode)(ops:Array Oper)(z:Nat):List (Bool×Nat)->Array Bool->Bool
 | [],listed=>(Region.ready md ops listed).isEmpty
 | (true,k) :: r,listed=>decide (Region.ready md ops listed=[k])&&(k !=z||r.isEmpty)&&Jrg md ops z r (listed.setIfInBounds k true)
 | (false,k) :: r,listed=>(Region.ready md ops listed).contains k&&Region.free md ops listed k&&((ops[k]?).any QK6)&&Jrg md ops z r (listed.setIfInBounds k true)
def XA5:List (List Nat×Nat)->List Nat->List (Bool×Nat)
 | [],fin=>fin.map (λk=>(false,k))
 | (qs,k) :: r,fin=>qs.map (λk=>(false,k))++(true,k) :: XA5 r fin
def ZxC(P:Program)(l:List Oper)(S:World->Prop)(z:Nat)(Q:Exit->Act->World->Prop):List (List Nat×Nat)->List Nat->Act->World->Prop
 | [],fin,a,w=>wpQuiet P l.toArray S (λa'=>Q .normal a' w) (XZy l fin) a
 | (qs,k) :: r,fin,a,w=>wpQuiet P l.toArray S (λa'=>wpList P l.toArray (Exit.then (λa2 w2=>(k=z\/S w2)/\ZxC P l S z Q r fin a2 w2) Q) (XZy l [k]) a' w) (XZy l qs) a
theorem XJH{l:List Oper}{k:Nat}{o:Oper}(h:l.toArray[k]?=some o)(ks:List Nat):XZy l (k :: ks)=o :: XZy l ks:=by
 have h':l[k]?=some o:=by simpa using h
 simp[XZy,h']
end
section
variable {P:Program} {l:List Oper} {Q:Exit->Act->World->Prop} {md:Region.Mode} {S:World->Prop} {z:Nat}
theorem XIs{o:Oper}{a:Act}{v:Value}{ops:Array Oper}(hq:QK6 o=true)(hw:Region.wanted o (yielded ops a.tmps)=true)(h:∀w,S w->o.quietAt P a S w v):YieldsIf P ops S o v a:=by
 refine .inl ⟨hw,λw hS=>?_⟩;have h1:=h w hS;unfold Oper.quietAt at h1;cases hr:(execOp a.eval o).run P w with
 | halt x w'=>rw[hr]at h1;exact h1.elim
 | ok n w'=>
  obtain⟨u,rfl⟩:=Y9U hq hr;rw[hr]at h1;obtain⟨rfl,rfl⟩:=h1;rfl
theorem QNc(hsel:Region.noSelect l.toArray=true)(hQ:∀c a b w,Q (.panic c) b w->Q (.panic c) a w)(hz:Xzl md l.toArray z=true){w:World}(hS:S w){K:Act->Prop}{R:List (Bool×Nat)}{f:Nat}
  (hK:∀listed a,Jrg md l.toArray z R listed=true->ZVQ md l.toArray listed->K a->Vnh P md l.toArray Q S z f listed a w):
  ∀(qs:List Nat) (listed:Array Bool) (a:Act),Jrg md l.toArray z (qs.map (λk=>(false,k))++R) listed=true->ZVQ md l.toArray listed->wpQuiet P l.toArray S K (XZy l qs) a →
   Vnh P md l.toArray Q S z (qs.length+f) listed a w
 | [],listed,a,hB,hc,h=>by simpa using hK listed a hB hc h
 | k :: qs,listed,a,hB,hc,h=>by
  simp only[ξX,ζL,Jrg,ζd]at hB;obtain⟨⟨⟨hr,hf⟩,hq⟩,hB'⟩:=hB;cases ho:l.toArray[k]? with
  | none=>rw[ho]at hq;cases hq
  | some o=>
   rw[ho]at hq;have hq:QK6 o=true:=hq;have Y:k∈Region.ready md l.toArray listed:=by simpa using hr
   rw[XJH ho]at h;simp only[wpQuiet]at h
   have hy:∃v,YieldsIf P l.toArray S o v a/\wpQuiet P l.toArray S K (XZy l qs) (a.put o.dst v):=by
    split at h
    ·rename_i hw;obtain⟨v,h1,h2⟩:=h;exact⟨v,XIs hq hw h1,h2⟩
    ·rename_i hw;exact⟨undef,.inr ⟨by simpa using hw,rfl⟩,h⟩
   obtain⟨v,hy,Z⟩:=hy;have X:(k :: qs).length+f=(qs.length+f)+1:=by simp;omega
   rw[X];exact JDV ho (Region.noSelect_spec hsel) (λc a w h=>hQ c a _ w h) hz _ listed a w hc (Region.free_spec ho hf) Y hy hS (QNc hsel hQ hz hS hK qs _ _ hB' (hc.set Y) Z)
theorem X8H{ops:Array Oper}{k:Nat}{N K:Act->World->Prop}{a:Act}{w:World}{o:Oper}(ho:ops[k]?=some o)(hN:∀a w,N a w->K a w)
  (h:wpList P ops (Exit.then N Q) [o] a w):wpOp P ops Q k K a w:=by
 unfold wpOp;simp only[ho];simp only[wpList,Exit.then]at h
 split
 ·rename_i hw;rw[μ hw]at h;rcases h with h|⟨h1,h2⟩
  ·refine .inl ?_;unfold Oper.wp at *
   generalize (execOp a.eval o).run P w=r at *
   cases r with
   | ok n w'=>
    cases n <;> simp only[Oper.upon]at h⊢
    case value u=>exact hN _ _ h
    case skip=>exact hN _ _ h
    case defer d=>exact hN _ _ h
    case enter f args=>
     refine Calls.mono h λe w'' he=>?_;cases e with
     | returned u=>exact hN _ _ he
     | panicked c=>exact he
     | outgrown=>exact he
    case row row args=>exact Rows.mono h λu w'' he=>hN _ _ he
   | halt x w'=>cases x <;> simp only[Oper.upon]at h⊢;exact h
  ·exact .inr ⟨h1,h2⟩
 ·rename_i hw;rw[ϑ hw]at h;exact hN _ _ h
theorem YPT(hsel:Region.noSelect l.toArray=true)(hQ:∀c a b w,Q (.panic c) b w->Q (.panic c) a w)(hz:Xzl md l.toArray z=true):
  ∀(segs:List (List Nat×Nat)) (fin:List Nat) (listed:Array Bool) (a:Act) (w:World),Jrg md l.toArray z (XA5 segs fin) listed=true->ZVQ md l.toArray listed->(S w\/XA5 segs fin=[])->ZxC P l S z Q segs fin a w →
   Vnh P md l.toArray Q S z (XA5 segs fin).length listed a w
 | [],fin,listed,a,w,hB,hc,hS,h=>by
  rcases hS with hS|hS
  ·have:=QNc (R:=[]) (f:=0) (K:=λa'=>Q .normal a' w) hsel hQ hz hS (λlisted a hB _ h=>⟨by simpa[Jrg]using hB,h⟩) fin listed a (by simpa[XA5]using hB) hc h;simpa[XA5]using this
  ·have hf:fin=[]:=by simpa[XA5]using hS
   subst hf;exact⟨by simpa[XA5,Jrg]using hB,h⟩
 | (qs,k) :: r,fin,listed,a,w,hB,hc,hS,h=>by
  have hS:S w:=hS.resolve_right (by simp[XA5]);have Y:(XA5 ((qs,k) :: r) fin).length=qs.length+((XA5 r fin).length+1):=by simp[XA5]
  rw[Y];refine QNc hsel hQ hz hS (λlisted a hB hc h=>?_) qs listed a (by simpa[XA5]using hB) hc h;simp only[Jrg,ζd,ζe]at hB;obtain⟨⟨hr,J⟩,Z⟩:=hB;have X:k∈Region.ready md l.toArray listed:=by rw[hr];simp
  refine⟨λh0=>(by rw[hr]at h0;cases h0),λi hi=>?_⟩;rw[hr]at hi;obtain rfl:i=k:=by simpa using hi
  obtain⟨_,o,ho,_⟩:=mem_ready.1 X;rw[XJH ho]at h;refine X8H ho (λa2 w2 h2=>⟨h2.1,YPT hsel hQ hz r fin _ a2 w2 Z (hc.set X) ?_ h2.2⟩) h;rcases h2.1 with h3|h3
  ·right;subst h3;simpa using J
  ·exact .inl h3
theorem ZgW{id:Nat}{a:Act}{w:World}(S:World->Prop)(z:Nat)(segs:List (List Nat×Nat))(fin:List Nat)(hm:P.follows .mixedOrders=true)
  (hB:(Region.noSelect l.toArray&&Xzl .any l.toArray z&&Jrg .any l.toArray z (XA5 segs fin) (Array.replicate l.toArray.size false)&&(XA5 segs fin).length==l.toArray.size)=true) (hS:S w.drew)
  (h:ZxC P l S z (NoPanic Q) segs fin a w.drew):(Code.region id l.toArray true).wp P Q a w:=by
 simp only[ζd,ζZ]at hB;obtain⟨⟨⟨Y,hz⟩,hB⟩,X⟩:=hB;refine wp_region_noPanic (wp_region_any hm ?_);have:=YPT (P:=P) (Q:=NoPanic Q) (md:=.any) Y (λc a b w h=>h) hz segs fin _ a w.drew hB (ZVQ.none .any l.toArray) (.inl hS) h;rw[X]at this;exact Zmi _ _ _ _ this
theorem XGW{qs:List Nat}{k:Nat}{r:List (List Nat×Nat)}{fin:List Nat}{a:Act}{w:World}
  (h:wpQuiet P l.toArray S (λa'=>wpList P l.toArray (Exit.then (λa2 w2=>(k=z\/S w2)/\ZxC P l S z Q r fin a2 w2) Q) (XZy l [k]) a' w) (XZy l qs) a):ZxC P l S z Q ((qs,k) :: r) fin a w:=h
theorem Z9U{fin:List Nat}{a:Act}{w:World}(h:wpQuiet P l.toArray S (λa'=>Q .normal a' w) (XZy l fin) a):ZxC P l S z Q [] fin a w:=h
structure ZJV(S:World->Prop) where
 w:World
 h:S w
theorem ZJV.get{S T:World->Prop}(h:S=T)(p:ZJV S):T p.w:=h▸p.h
theorem ZJV.start(C:World->Prop):∃S:World->Prop,S=C/\Hid (∀W,C W->S W):=⟨_,rfl,⟨λ_ h=>h⟩⟩
theorem ZJV.fact{S C F:World->Prop}(hS:S=C)(h:∀w,C w->F w)(p:ZJV S):F p.w:=h _ (hS▸p.h)
theorem JmE{P:Program}{f:FuncId}{a:Array Value}{w:World}{v:Value}{R:Ending->World->Prop}(h:Calls P f a w λe w'=>e=.returned v/\w=w')(k:R (.returned v) w):Calls P f a w R:=h.mono (λ_ _ h=>h.1▸h.2▸k)
theorem ZJV.of{S:World->Prop}{w:World}(h:S w):∃p:ZJV S,w=p.w:=⟨⟨w,h⟩,rfl⟩
theorem Vv2{id:Nat}{a:Act}{w:World}(S:World->Prop)(z:Nat)(segs:List (List Nat×Nat))(fin:List Nat)(hm:P.follows .mixedOrders=true)
  (hB:(Region.noSelect l.toArray&&Xzl .any l.toArray z&&Jrg .any l.toArray z (XA5 segs fin) (Array.replicate l.toArray.size false)&&(XA5 segs fin).length==l.toArray.size)=true) (hS:S w.drew)
  (h:ZxC P l (λw'=>∃p:ZJV S,w'=p.w) z (NoPanic Q) segs fin a w.drew):(Code.region id l.toArray true).wp P Q a w:=
 ZgW (λw'=>∃p:ZJV S,w'=p.w) z segs fin hm hB (ZJV.of hS) h
end
end
section
open Go.RowKit
section
variable {F:Fence} {n:Nat} {P:Program} {ops:Array Oper} {Q:Exit->Act->World->Prop} {md:Region.Mode} {S:World->Prop}
def Vxn(F:Fence)(n:Nat)(P:Program)(md:Region.Mode)(ops:Array Oper)(Q:Exit->Act->World->Prop)(S:World->Prop)(z:Nat):Nat->Array Bool->Act->World->Prop
 | 0,listed,a,w=>Region.ready md ops listed=[]/\Q .normal a w
 | f+1,listed,a,w=>
  (Region.ready md ops listed=[]->Q .normal a w) ∧
  ∀i∈Region.ready md ops listed,wpOpIn F n P ops Q i (λa' w'=>(i=z\/S w')/\Vxn F n P md ops Q S z f (listed.setIfInBounds i true) a' w') a w
theorem J9t{z:Nat}:∀(f:Nat) (listed:Array Bool) (a:Act) (w:World),Vxn F n P md ops Q S z f listed a w->wpAnyIn F n P md ops Q f listed a w
 | 0,_,_,_,h=>h
 | f+1,_,_,_,h=>⟨h.1,λi hi=>wpOpIn_mono (λa' w' h'=>J9t f _ a' w' h'.2) (h.2 i hi)⟩
def XH2(ops:Array Oper):Bool:=ops.all λo=>match o.op with| .defer _=>false|_=>true
theorem VJL(h:XH2 ops=true){j:Nat}{o:Oper}(ho:ops[j]?=some o)(c:Call):o.op≠.defer c:=by
 intro X;have:=Array.all_eq_true_iff_forall_mem.1 h o (Array.mem_of_getElem? ho);simp[X]at this
theorem XQe{i:Nat}{o:Oper}{v:Value}{a:Act}(hF:∀f,F.fn f)(hi:ops[i]?=some o)(hd:∀c,o.op≠.defer c)(hy:YieldsIf P ops S o v a)
  {K:Act->World->Prop} {w:World} (hS:S w) (h:K (a.put o.dst v) w):wpOpIn F n P ops Q i K a w:=by
 unfold wpOpIn;simp only[hi];rcases hy with⟨hw,hv⟩|⟨hw,rfl⟩
 ·simp only[hw,if_true,Oper.wpIn,Oper.semAt_eq F.round a.eval o hd,hv w hS,Oper.uponIn];exact⟨λf _=>hF f,h⟩
 ·simp only[hw,Bool.false_eq_true,if_false];exact⟨λf _=>hF f,h⟩
theorem Y6B{j:Nat}{oi oj:Oper}{v:Value}(hF:∀f,F.fn f)(hj:ops[j]?=some oj)(hap:oi.apart ops oj=true)
  (hsi:∀cs b,oi.op≠.select cs b) (hsj:∀cs b,oj.op≠.select cs b) (hd:∀c,oj.op≠.defer c)
  (hQ:∀c a w,Q (.panic c) (a.put oi.dst v) w->Q (.panic c) a w) {K:Act->World->Prop} {a:Act} {w:World}
  (hy:YieldsIf P ops S oi v a) (h:wpOpIn F n P ops Q j K (a.put oi.dst v) w):
  wpOpIn F n P ops Q j (λa' w'=>YieldsIf P ops S oi v a'/\K (a'.put oi.dst v) w') a w:=by
 obtain⟨h1,h2,h3⟩:=Oper.apart_spec hap
 have X:∀(a:Act),YieldsIf P ops S oi v a->∀u,YieldsIf P ops S oi v (a.put oj.dst u):=λa hy u=>
  hy.of_same (execOp_put oi hsi a oj.dst u h3) (wanted_put oi a oj.dst u h3)
 unfold wpOpIn at *
 simp only[hj]at *
 rw[wanted_put oj a oi.dst v h1]at h
 split
 ·rename_i hw;simp only[hw,if_true]at h;unfold Oper.wpIn at *
  refine⟨λf _=>hF f,?_⟩;have h:=h.2;rw[Oper.semAt_eq F.round _ oj hd,execOp_put oj hsj a oi.dst v h1]at h;rw[Oper.semAt_eq F.round _ oj hd];generalize (execOp a.eval oj).run P w=r at *
  cases r with
  | ok x w'=>
   cases x <;> simp only[Oper.uponIn]at h⊢
   case value u=>exact⟨X a hy u,by rw[<-Act.put_comm a v u h2];exact h⟩
   case skip=>exact⟨X a hy _,by rw[<-Act.put_comm a v undef h2];exact h⟩
   case defer d=>
    have Y:YieldsIf P ops S oi v {a with defers:=d :: a.defers}:=hy.of_same rfl rfl;refine⟨X _ Y _,?_⟩;rw[<-Act.put_comm _ v undef h2,<-Act.put_defers];exact h
   case enter f args=>
    refine⟨h.1,CallsIn.mono h.2 λe w'' he=>?_⟩;cases e with
    | returned u=>exact⟨X a hy u,by rw[<-Act.put_comm a v u h2];exact he⟩
    | panicked c=>exact hQ _ _ _ he
    | outgrown=>exact he
   case row row args=>exact⟨h.1,RowsIn.mono h.2 λu w'' he=>⟨X a hy u,by rw[<-Act.put_comm a v u h2];exact he⟩⟩
   case round l f tmps assign body=>
    refine⟨h.1,RoundIn.mono h.2 λe w'' he=>?_⟩;cases e with
    | returned u=>exact⟨X a hy u,by rw[<-Act.put_comm a v u h2];exact he⟩
    | panicked c=>exact hQ _ _ _ he
    | outgrown=>exact he
  | halt x w'=>
   cases x <;> simp only[Oper.uponIn]at h⊢
   case panic u=>exact hQ _ _ _ h
 ·rename_i hw;simp only[hw]at h;exact⟨λf _=>hF f,X a hy _,by rw[<-Act.put_comm a v undef h2];exact h.2⟩
theorem Qio{z i:Nat}{oi:Oper}{v:Value}(hF:∀f,F.fn f)(hnd:XH2 ops=true)(hi:ops[i]?=some oi)(hsel:∀(j:Nat) (o:Oper) cs b,ops[j]?=some o->o.op≠.select cs b)
  (hQ:∀c a w,Q (.panic c) (a.put oi.dst v) w->Q (.panic c) a w) (hz:Xzl md ops z=true):
  ∀(f:Nat) (listed:Array Bool) (a:Act) (w:World),ZVQ md ops listed →
   (∀j oj,ops[j]?=some oj->j≠i->listed.getD j true=false->(∀e∈oj.after,Region.binds md e=true->e.on≠i)->oi.apart ops oj=true) →
   i∈Region.ready md ops listed->YieldsIf P ops S oi v a->S w →
   Vxn F n P md ops Q S z f (listed.setIfInBounds i true) (a.put oi.dst v) w->Vxn F n P md ops Q S z (f+1) listed a w:=by
 intro f
 induction f with
 | zero=>
  intro listed a w _ _ hr hy hS H;refine⟨λh=>(by rw[h]at hr;cases hr),λj hj=>?_⟩;by_cases X:j=i
  ·subst X;exact XQe hF hi (VJL hnd hi) hy hS ⟨.inr hS,H⟩
  ·have:=ready_mono hj X;rw[H.1]at this;cases this
 | succ f ih=>
  intro listed a w I Y hr hy hS H;refine⟨λh=>(by rw[h]at hr;cases hr),λj hj=>?_⟩;by_cases X:j=i
  ·subst X;exact XQe hF hi (VJL hnd hi) hy hS ⟨.inr hS,H⟩
  ·have h1:=H.2 j (ready_mono hj X);obtain⟨V,oj,J,O⟩:=mem_ready.1 hj;have Z:=(mem_ready.1 hr).1;have M:i<ops.size:=(ζn.1 hi).1
   have L:j≠z:=λe=>by
    subst e;exact X2k Z (Q9R hz I hj M (Ne.symm X))
   have N:∀e∈oj.after,Region.binds md e=true->e.on≠i:=λe he hb heq=>X2k Z (heq▸O e he hb);have h2:=Y6B hF J (Y j oj J X V N) (λcs b=>hsel i oi cs b hi) (λcs b=>hsel j oj cs b J) (VJL hnd J) hQ hy h1
   have U:∀k ok,ops[k]?=some ok->k≠i->(listed.setIfInBounds j true).getD k true=false →
     (∀e∈ok.after,Region.binds md e=true->e.on≠i)->oi.apart ops ok=true:=λk ok hk hki Z hno=>by
    refine Y k ok hk hki ?_ hno;by_cases E:j=k
    ·subst E;exact V
    ·rw[getD_set_ne true E]at Z;exact Z
   refine wpOpIn_mono (λa' w' h3=>?_) h2;obtain⟨h3,h4,h5⟩:=h3;have D:S w':=h4.resolve_left L;refine⟨h4,ih (listed.setIfInBounds j true) a' w' (I.set hj) U (ready_mono hr (Ne.symm X)) h3 D ?_⟩;rw[ψv _ _ X];exact h5
def JqC(F:Fence)(n:Nat)(P:Program)(l:List Oper)(S:World->Prop)(z:Nat)(Q:Exit->Act->World->Prop):List (List Nat×Nat)->List Nat->Act->World->Prop
 | [],fin,a,w=>wpQuiet P l.toArray S (λa'=>Q .normal a' w) (XZy l fin) a
 | (qs,k) :: r,fin,a,w=>wpQuiet P l.toArray S (λa'=>wpListIn F n P l.toArray (Exit.then (λa2 w2=>(k=z\/S w2)/\JqC F n P l S z Q r fin a2 w2) Q) (XZy l [k]) a' w) (XZy l qs) a
end
section
variable {F:Fence} {n:Nat} {P:Program} {l:List Oper} {Q:Exit->Act->World->Prop} {md:Region.Mode} {S:World->Prop} {z:Nat}
theorem Z5Q(hF:∀f,F.fn f)(hnd:XH2 l.toArray=true)(hsel:Region.noSelect l.toArray=true)(hQ:∀c a b w,Q (.panic c) b w->Q (.panic c) a w)(hz:Xzl md l.toArray z=true){w:World}(hS:S w){K:Act->Prop}{R:List (Bool×Nat)}{f:Nat}
  (hK:∀listed a,Jrg md l.toArray z R listed=true->ZVQ md l.toArray listed->K a->Vxn F n P md l.toArray Q S z f listed a w):
  ∀(qs:List Nat) (listed:Array Bool) (a:Act),Jrg md l.toArray z (qs.map (λk=>(false,k))++R) listed=true->ZVQ md l.toArray listed->wpQuiet P l.toArray S K (XZy l qs) a →
   Vxn F n P md l.toArray Q S z (qs.length+f) listed a w
 | [],listed,a,hB,hc,h=>by simpa using hK listed a hB hc h
 | k :: qs,listed,a,hB,hc,h=>by
  simp only[ξX,ζL,Jrg,ζd]at hB;obtain⟨⟨⟨hr,hf⟩,hq⟩,hB'⟩:=hB;cases ho:l.toArray[k]? with
  | none=>rw[ho]at hq;cases hq
  | some o=>
   rw[ho]at hq;have hq:QK6 o=true:=hq;have Y:k∈Region.ready md l.toArray listed:=by simpa using hr
   rw[XJH ho]at h;simp only[wpQuiet]at h
   have hy:∃v,YieldsIf P l.toArray S o v a/\wpQuiet P l.toArray S K (XZy l qs) (a.put o.dst v):=by
    split at h
    ·rename_i hw;obtain⟨v,h1,h2⟩:=h;exact⟨v,XIs hq hw h1,h2⟩
    ·rename_i hw;exact⟨undef,.inr ⟨by simpa using hw,rfl⟩,h⟩
   obtain⟨v,hy,Z⟩:=hy;have X:(k :: qs).length+f=(qs.length+f)+1:=by simp;omega
   rw[X];exact Qio hF hnd ho (Region.noSelect_spec hsel) (λc a w h=>hQ c a _ w h) hz _ listed a w hc (Region.free_spec ho hf) Y hy hS (Z5Q hF hnd hsel hQ hz hS hK qs _ _ hB' (hc.set Y) Z)
theorem ZRK{ops:Array Oper}{k:Nat}{N K:Act->World->Prop}{a:Act}{w:World}{o:Oper}(ho:ops[k]?=some o)(hN:∀a w,N a w->K a w)
  (h:wpListIn F n P ops (Exit.then N Q) [o] a w):wpOpIn F n P ops Q k K a w:=by
 unfold wpOpIn;simp only[ho];simp only[wpListIn,Exit.then]at h
 split
 ·rename_i hw;rw[μ hw]at h;unfold Oper.wpIn at *
  refine⟨h.1,?_⟩;have h:=h.2;generalize (o.semAt F.round a.eval).run P w=r at *
  cases r with
  | ok n w'=>
   cases n <;> simp only[Oper.uponIn]at h⊢
   case value u=>exact hN _ _ h
   case skip=>exact hN _ _ h
   case defer d=>exact hN _ _ h
   case enter f args=>
    refine⟨h.1,CallsIn.mono h.2 λe w'' he=>?_⟩;cases e with
    | returned u=>exact hN _ _ he
    | panicked c=>exact he
    | outgrown=>exact he
   case row row args=>exact⟨h.1,RowsIn.mono h.2 λu w'' he=>hN _ _ he⟩
   case round l f tmps assign body=>
    refine⟨h.1,RoundIn.mono h.2 λe w'' he=>?_⟩;cases e with
    | returned u=>exact hN _ _ he
    | panicked c=>exact he
    | outgrown=>exact he
  | halt x w'=>cases x <;> simp only[Oper.uponIn]at h⊢;exact h
 ·rename_i hw;rw[ϑ hw]at h;exact⟨h.1,hN _ _ h.2⟩
theorem Qj2(hF:∀f,F.fn f)(hnd:XH2 l.toArray=true)(hsel:Region.noSelect l.toArray=true)(hQ:∀c a b w,Q (.panic c) b w->Q (.panic c) a w)(hz:Xzl md l.toArray z=true):
  ∀(segs:List (List Nat×Nat)) (fin:List Nat) (listed:Array Bool) (a:Act) (w:World),Jrg md l.toArray z (XA5 segs fin) listed=true->ZVQ md l.toArray listed->(S w\/XA5 segs fin=[])->JqC F n P l S z Q segs fin a w →
   Vxn F n P md l.toArray Q S z (XA5 segs fin).length listed a w
 | [],fin,listed,a,w,hB,hc,hS,h=>by
  rcases hS with hS|hS
  ·have:=Z5Q (n:=n) (R:=[]) (f:=0) (K:=λa'=>Q .normal a' w) hF hnd hsel hQ hz hS (λlisted a hB _ h=>⟨by simpa[Jrg]using hB,h⟩) fin listed a (by simpa[XA5]using hB) hc h;simpa[XA5]using this
  ·have hf:fin=[]:=by simpa[XA5]using hS
   subst hf;exact⟨by simpa[XA5,Jrg]using hB,h⟩
 | (qs,k) :: r,fin,listed,a,w,hB,hc,hS,h=>by
  have hS:S w:=hS.resolve_right (by simp[XA5]);have Y:(XA5 ((qs,k) :: r) fin).length=qs.length+((XA5 r fin).length+1):=by simp[XA5]
  rw[Y];refine Z5Q hF hnd hsel hQ hz hS (λlisted a hB hc h=>?_) qs listed a (by simpa[XA5]using hB) hc h;simp only[Jrg,ζd,ζe]at hB;obtain⟨⟨hr,J⟩,Z⟩:=hB;have X:k∈Region.ready md l.toArray listed:=by rw[hr];simp
  refine⟨λh0=>(by rw[hr]at h0;cases h0),λi hi=>?_⟩;rw[hr]at hi;obtain rfl:i=k:=by simpa using hi
  obtain⟨_,o,ho,_⟩:=mem_ready.1 X;rw[XJH ho]at h;refine ZRK ho (λa2 w2 h2=>⟨h2.1,Qj2 hF hnd hsel hQ hz r fin _ a2 w2 Z (hc.set X) ?_ h2.2⟩) h;rcases h2.1 with h3|h3
  ·right;subst h3;simpa using J
  ·exact .inl h3
theorem V0Y{id:Nat}{a:Act}{w:World}(S:World->Prop)(z:Nat)(segs:List (List Nat×Nat))(fin:List Nat)(hF:∀f,F.fn f)(hm:P.follows .mixedOrders=true)
  (hB:(XH2 l.toArray&&Region.noSelect l.toArray&&Xzl .any l.toArray z&&Jrg .any l.toArray z (XA5 segs fin) (Array.replicate l.toArray.size false)&&(XA5 segs fin).length==l.toArray.size)=true) (hS:S w.drew)
  (h:JqC F n P l (λw'=>∃p:ZJV S,w'=p.w) z (NoPanic Q) segs fin a w.drew):(Code.region id l.toArray true).wpIn F n P Q a w:=by
 simp only[ζd,ζZ]at hB;obtain⟨⟨⟨⟨Z,Y⟩,hz⟩,hB⟩,X⟩:=hB;refine wpIn_mono (wpIn_region_any hm ?_) NoPanic.imp;have:=Qj2 (F:=F) (n:=n) (P:=P) (Q:=NoPanic Q) (md:=.any) hF Z Y (λc a b w h=>h) hz segs fin _ a w.drew hB (ZVQ.none .any l.toArray) (.inl (ZJV.of hS)) h;rw[X]at this;exact J9t _ _ _ _ this
theorem QgQ{qs:List Nat}{k:Nat}{r:List (List Nat×Nat)}{fin:List Nat}{a:Act}{w:World}
  (h:wpQuiet P l.toArray S (λa'=>wpListIn F n P l.toArray (Exit.then (λa2 w2=>(k=z\/S w2)/\JqC F n P l S z Q r fin a2 w2) Q) (XZy l [k]) a' w) (XZy l qs) a):JqC F n P l S z Q ((qs,k) :: r) fin a w:=h
theorem X0q{fin:List Nat}{a:Act}{w:World}(h:wpQuiet P l.toArray S (λa'=>Q .normal a' w) (XZy l fin) a):JqC F n P l S z Q [] fin a w:=h
theorem JBz(f:FuncId):Fence.wide.fn f:=trivial
end
end
section
open Go.RowKit
theorem ZIq{w w':World}{base E size:Nat}{v:Value}{n:Nat}{xs:List Value}(h:w.ownsRow base E size v n xs)(hb:∀g,v.ownBlock=some g->w'.heap[g]?=w.heap[g]?):w'.ownsRow base E size v n xs:=by
 obtain⟨h1,h2|⟨g,Y,X,e1,e2,e3,e4,e5,e6,e7⟩⟩:=h
 ·exact⟨h1,.inl h2⟩
 ·exact⟨h1,.inr ⟨g,Y,X,e1,e2,by rw[hb g (by rw[e1];rfl)];exact e3,e4,e5,e6,e7⟩⟩
theorem Vvr{w:World}{base E size:Nat}{v:Value}{n:Nat}{xs:List Value}(h:w.ownsRow base E size v n xs){g:Nat}(hg:v.ownBlock=some g):base<=g/\g<w.heap.size:=by
 obtain⟨h1,⟨rfl,_⟩|⟨g',cap,cur,e1,e2,e3,e4,e5,e6,e7⟩⟩:=h
 ·cases hg
 ·rw[e1]at hg;obtain rfl:g'=g:=Option.some.inj hg;refine⟨e2,?_⟩;rcases γ g' w.heap.size with h|h
  ·exact h
  ·rw[ξw h]at e3;cases e3
theorem Zs2{S:Nat->Prop}{w w':World}{base E size:Nat}{v:Value}{n:Nat}{xs:List Value}(h:w.ownsRow base E size v n xs)(t:XF4 S w w')(hS:∀g,v.ownBlock=some g->¬S g):w'.ownsRow base E size v n xs:=
 ZIq h (λg hg=>t.block g (Vvr h hg).2 (hS g hg))
theorem Y9I{w w':World}{base E size:Nat}{v:Value}{n:Nat}{xs:List Value}(h:w.ownsRow base E size v n xs)(t:Gr w w'):w'.ownsRow base E size v n xs:=
 Zs2 h (t.touch (λ_=>False)) (λ_ _ h=>h)
theorem Vm9(w:World)(base E size:Nat):w.ownsRow base E size (.slice none 0 0) 0 []:=⟨by simp,.inl ⟨rfl,rfl⟩⟩
theorem ZBn{w:World}{base E size:Nat}{g n c:Nat}{xs:List Value}(h:w.ownsRow base E size (.slice (some ⟨g,0,none⟩) n c) n xs){j:Nat}{u:Value}(hj:xs[j]?=some u):
  w.cell? ⟨g,j,none⟩=some u:=by
 obtain⟨h1,⟨h,_⟩|⟨g',cap,X,e1,e2,e3,e4,e5,e6,e7⟩⟩:=h
 ·cases h
 ·simp only[Value.slice.injEq,Option.some.injEq,Addr.mk.injEq,and_true,true_and]at e1;obtain⟨rfl,rfl⟩:=e1;unfold World.cell?;simp only[e3]
  have hlt:j<xs.length:=by
   rcases γ j xs.length with h|h
   ·exact h
   ·rw[ζf h]at hj;cases hj
  have:X[j]?=xs[j]?:=by rw[<-e7,ξE,μ Ω,Array.getElem?_toList]
  rw[ϑ (by simp),this,hj]
theorem QxS{w:World}{base E size:Nat}{g n c:Nat}{xs:List Value}(h:w.ownsRow base E size (.slice (some ⟨g,0,none⟩) n c) n xs)(j:Nat):w.frozen? ⟨g,j,none⟩=false:=by
 obtain⟨h1,⟨h,_⟩|⟨g',cap,cur,e1,e2,e3,e4,e5,e6,e7⟩⟩:=h
 ·cases h
 ·simp only[Value.slice.injEq,Option.some.injEq,Addr.mk.injEq,and_true,true_and]at e1;obtain⟨rfl,rfl⟩:=e1;unfold World.frozen?;simp only[e3];simp
theorem YTP{w:World}{base E size:Nat}{v:Value}{n:Nat}{xs:List Value}(h:w.ownsRow base E size v n xs)(hn:n≠0):∃g c,v=.slice (some ⟨g,0,none⟩) n c/\base<=g/\n<=c/\c<=maxLen/\g<w.heap.size:=by
 have h':=h;obtain⟨_,⟨_,h⟩|⟨g,c,cur,e1,e2,e3,e4,e5,_⟩⟩:=h
 ·exact absurd h hn
 ·exact⟨g,c,e1,e2,e4,e5,(Vvr h' (by rw[e1];rfl)).2⟩
theorem VxQ{w w':World}{row:Option Nat}(h:w.grownBy w' row)(S:Nat->Prop)(hS:∀k,row=some k->k<w.heap.size->S k):XF4 S w w':=
 ⟨h.os,h.tape,h.output,h.size,λk hk hn=>h.block k hk (λe=>hn (hS k e.symm hk))⟩
end
namespace Word
def XaE(n:Int):Int:=min (max n 0) 64
theorem JZS(n:Int):0<=XaE n/\XaE n<=64:=by unfold XaE;omega
def VOs(lo hi:Nat):Nat:=if hi<=lo then 0 else 2 ^ hi-2 ^ lo
theorem J4c(lo hi:Nat)(h:hi<=64):VOs lo hi<2 ^ 64:=by
 unfold VOs;split
 ·decide
 ·have:=Nat.pow_le_pow_right (n:=2) (by decide) h;have:=Nat.two_pow_pos lo;omega
theorem ZmB(lo hi:Nat)(h:lo<hi):VOs lo hi=2 ^ lo*(2 ^ (hi-lo)-1):=by
 unfold VOs;rw[ϑ Ω,Nat.mul_sub,<-Nat.pow_add,ξz,Nat.add_sub_cancel' Ω]
theorem Vvq(lo hi i:Nat):(VOs lo hi).testBit i=decide (lo<=i/\i<hi):=by
 by_cases h:lo<hi
 ·rw[ZmB lo hi h,Nat.testBit_two_pow_mul,Nat.testBit_two_pow_sub_one];by_cases h1:lo<=i <;> by_cases h2:i<hi <;> simp[h1,h2] <;> omega
 ·unfold VOs;rw[μ Ω];simp;omega
def XEJ(a b:Int):Nat:=VOs (XaE a).toNat (XaE b).toNat
theorem YPt(a b:Int):XEJ a b<2 ^ 64:=J4c _ _ (by have:=JZS b;omega)
theorem QvP(a b:Int)(i:Nat):(XEJ a b).testBit i=decide (a<=i/\(i:Int)<b/\i<64):=by
 unfold XEJ;rw[Vvq];apply ζK.2;unfold XaE;omega
theorem ZbW(a b:Int)(h:XaE a<XaE b):
  (18446744073709551615/2 ^ (64-XaE b+XaE a).toNat*2 ^ (XaE a).toNat:Int)=(XEJ a b:Nat):=by
 have ha:=JZS a;have hb:=JZS b;unfold XEJ;generalize XaE a=A at *
 generalize XaE b=B at *
 obtain⟨x,rfl⟩:∃x:Nat,A=x:=⟨A.toNat,by omega⟩;obtain⟨y,rfl⟩:∃y:Nat,B=y:=⟨B.toNat,by omega⟩;have h1:(64-(y:Int)+x).toNat=64-(y-x):=Ω
 rw[h1,τ,τ,ZmB x y Ω]
 have hp:18446744073709551615/2 ^ (64-(y-x))=2 ^ (y-x)-1:=by
  have e1:(18446744073709551615:Nat)=2 ^ (64-(y-x))*(2 ^ (y-x)-1)+(2 ^ (64-(y-x))-1):=by
   rw[Nat.mul_sub,<-Nat.pow_add,ξz,show 64-(y-x)+(y-x)=64 by omega];have:2 ^ (64-(y-x))<=2 ^ 64:=Nat.pow_le_pow_right (by decide) Ω;have:=Nat.two_pow_pos (64-(y-x));have e:(2:Nat) ^ 64=18446744073709551616:=by decide
   omega
  rw[e1];have X:=Nat.two_pow_pos (64-(y-x));rw[Nat.mul_add_div X,ψw Ω,ξj]
 have:((18446744073709551615/2 ^ (64-(y-x))*2 ^ x:Nat):Int)=((2 ^ x*(2 ^ (y-x)-1):Nat):Int):=by rw[hp,ζJ]
 rw[<-this];simp
def cnt(f:Nat->Bool)(n:Nat):Nat:=(List.range n).countP f
theorem YAO(f:Nat->Bool):cnt f 0=0:=rfl
theorem Z10(f:Nat->Bool)(n:Nat):cnt f (n+1)=cnt f n+(f n).toNat:=by
 unfold cnt;rw[ψC,List.countP_append];cases h:f n <;> simp[h]
theorem XmU{f g:Nat->Bool}{n:Nat}(h:∀i,i<n->f i=g i):cnt f n=cnt g n:=by
 induction n with
 | zero=>rfl
 | succ n ih=>rw[Z10,Z10,ih (λi hi=>h i Ω),h n Ω]
theorem Qzo(f:Nat->Bool)(m n:Nat):cnt f (m+n)=cnt f m+cnt (λi=>f (m+i)) n:=by
 induction n with
 | zero=>simp[YAO]
 | succ n ih=>rw[<-ξO,Z10,Z10,ih];omega
theorem QMh(f:Nat->Bool)(n:Nat):cnt f n<=n:=by
 unfold cnt;have:=List.countP_le_length (p:=f) (l:=List.range n);simpa using this
theorem ZoC(f:Nat->Bool){m n:Nat}(h:m<=n):cnt f m<=cnt f n:=by
 obtain⟨k,rfl⟩:∃k,n=m+k:=⟨n-m,by omega⟩;rw[Qzo];omega
theorem Z6o{f:Nat->Bool}{n:Nat}(h:∀i,i<n->f i=false):cnt f n=0:=by
 induction n with
 | zero=>rfl
 | succ n ih=>rw[Z10,ih (λi hi=>h i Ω),h n Ω];rfl
theorem VMy{f:Nat->Bool}{n:Nat}(h:cnt f n=0):∀i,i<n->f i=false:=by
 induction n with
 | zero=>intro i hi;omega
 | succ n ih=>
  rw[Z10]at h;intro i hi;by_cases e:i=n
  ·subst e;cases hf:f i with
   | false=>rfl
   | true=>rw[hf]at h;simp at h
  ·exact ih Ω i Ω
theorem Jjp{f g:Nat->Bool}(h:∀i,(f i&&g i)=false)(n:Nat):cnt (λi=>f i||g i) n=cnt f n+cnt g n:=by
 induction n with
 | zero=>rfl
 | succ n ih=>
  rw[Z10,Z10,Z10,ih];have:=h n;cases hf:f n <;> cases hg:g n <;> simp_all <;> omega
def pc(x:Nat):Nat:=cnt x.testBit 64
theorem Qn1(x:Nat):pc x<=64:=QMh _ _
def rep(m:Nat):Nat->Nat
 | 0=>0
 | k+1=>m+256*rep m k
theorem Yoe(b m y n:Nat)(hb:b<256)(hm:m<256):(b+256*y) &&& (m+256*n)=(b &&& m)+256*(y &&& n):=by
 apply ξH;intro i
 have e:∀c z:Nat,c<256->(c+256*z).testBit i=if i<8 then c.testBit i else z.testBit (i-8):=by
  intro c z hc;have:=Nat.testBit_two_pow_mul_add z (i:=8) (b:=c) (by simpa using hc) i;rw[show c+256*z=2 ^ 8*z+c by omega];exact this
 have X:b &&& m<256:=ξL ψB hb;rw[ξo,e b y hb,e m n hm,e _ _ X]
 split <;> rw[ξo]
def s1(k x:Nat):Nat:=((x/2) &&& rep 0x55 k)+(x &&& rep 0x55 k)
def s2(k x:Nat):Nat:=((x/4) &&& rep 0x33 k)+(x &&& rep 0x33 k)
def s3(k x:Nat):Nat:=(x/16+x) &&& rep 0x0f k
def b1(b:Nat):Nat:=((b/2) &&& 0x55)+(b &&& 0x55)
def b2(b:Nat):Nat:=((b/4) &&& 0x33)+(b &&& 0x33)
def b3(b:Nat):Nat:=(b/16+b) &&& 0x0f
theorem JHM(k b y:Nat)(hb:b<256):s1 (k+1) (b+256*y)=b1 b+256*s1 k y:=by
 unfold s1 b1;rw[show rep 0x55 (k+1)=0x55+256*rep 0x55 k from rfl];have e:(b+256*y)/2=(b/2+128*(y%2))+256*(y/2):=Ω
 have h2:y%2<2:=Ω
 rw[e,Yoe _ _ _ _ Ω (by decide),Yoe _ _ _ _ hb (by decide)]
 have:((b/2+128*(y%2)) &&& 0x55)=(b/2) &&& 0x55:=by
  generalize y%2=c at h2;have X:∀b,b<256->∀c,c<2->((b/2+128*c) &&& 0x55)=(b/2) &&& 0x55:=by decide +kernel
  exact X b hb c h2
 rw[this];omega
theorem Zt5(k b y:Nat)(hb:b<256):s2 (k+1) (b+256*y)=b2 b+256*s2 k y:=by
 unfold s2 b2;rw[show rep 0x33 (k+1)=0x33+256*rep 0x33 k from rfl];have e:(b+256*y)/4=(b/4+64*(y%4))+256*(y/4):=Ω
 have h2:y%4<4:=Ω
 rw[e,Yoe _ _ _ _ Ω (by decide),Yoe _ _ _ _ hb (by decide)]
 have:((b/4+64*(y%4)) &&& 0x33)=(b/4) &&& 0x33:=by
  generalize y%4=c at h2;have X:∀b,b<256->∀c,c<4->((b/4+64*c) &&& 0x33)=(b/4) &&& 0x33:=by decide +kernel
  exact X b hb c h2
 rw[this];omega
theorem ZYF(k b y:Nat)(hb:b<=0x44)(h16:b%16<=4)(hy:y%16<=4):s3 (k+1) (b+256*y)=b3 b+256*s3 k y:=by
 unfold s3 b3;rw[show rep 0x0f (k+1)=0x0f+256*rep 0x0f k from rfl];have e:(b+256*y)/16+(b+256*y)=(b/16+16*(y%16)+b)+256*(y/16+y):=Ω
 rw[e,Yoe _ _ _ _ Ω (by decide)]
 have:((b/16+16*(y%16)+b) &&& 0x0f)=(b/16+b) &&& 0x0f:=by
  generalize y%16=c at hy;have X:∀b,b<69->∀c,c<5->((b/16+16*c+b) &&& 0x0f)=(b/16+b) &&& 0x0f:=by decide +kernel
  exact X b Ω c Ω
 rw[this]
def t(k x:Nat):Nat:=s3 k (s2 k (s1 k x))
theorem QZP:∀b,b<256->b1 b<256/\b2 (b1 b)<=0x44/\b2 (b1 b)%16<=4/\b3 (b2 (b1 b))=(List.range 8).countP b.testBit:=by decide +kernel
theorem ZTi(k y:Nat):s2 k (s1 k y)%16<=4:=by
 cases k with
 | zero=>simp[s2,rep]
 | succ k=>
  have e:y=y%256+256*(y/256):=Ω
  have hb:y%256<256:=Ω
  obtain⟨h1,h2,h3,_⟩:=QZP _ hb;rw[e,JHM k _ _ hb,Zt5 k _ _ h1];omega
theorem VAv(k b y:Nat)(hb:b<256):t (k+1) (b+256*y)=(List.range 8).countP b.testBit+256*t k y:=by
 obtain⟨h1,h2,h3,h4⟩:=QZP b hb;unfold t;rw[JHM k b y hb,Zt5 k _ _ h1,ZYF k _ _ h2 h3 (ZTi k y),h4]
def XZq:Nat->Nat->Nat
 | 0,_=>0
 | k+1,x=>(List.range 8).countP (x%256).testBit+256*XZq k (x/256)
theorem ZO3(k:Nat):∀x,t k x=XZq k x:=by
 induction k with
 | zero=>intro x;simp[t,s3,rep,XZq]
 | succ k ih=>
  intro x;have e:x=x%256+256*(x/256):=Ω
  rw[e,VAv k _ _ Ω,ih,XZq];congr 3 <;> omega
theorem Jjs(k:Nat):∀x,cnt x.testBit (8*(k+1))=(List.range 8).countP (x%256).testBit+cnt (x/256).testBit (8*k):=by
 intro x;rw[show 8*(k+1)=8+8*k by omega,Qzo];congr 1
 ·apply XmU;intro i hi;have:=Nat.testBit_mod_two_pow x 8 i;simp only[show (2:Nat) ^ 8=256 from rfl]at this;rw[this];simp[hi]
 ·apply XmU;intro i _;have:=Nat.testBit_div_two_pow (x:=x) (n:=8) (i:=i);simp only[show (2:Nat) ^ 8=256 from rfl]at this;rw[this,Nat.add_comm]
theorem Y4E(b:Nat):(List.range 8).countP b.testBit<=8:=by
 have:=List.countP_le_length (p:=b.testBit) (l:=List.range 8);simpa using this
theorem Yjs(lo q m:Nat)(h:lo<m):(lo+m*q)/m=q:=by
 rw[Nat.add_mul_div_left _ _ Ω,ψw h];omega
theorem Yfd(y c0 c1 c2 c3 c4 c5 c6 c7:Nat)
  (hy:y=c0+256*(c1+256*(c2+256*(c3+256*(c4+256*(c5+256*(c6+256*(c7+256*0))))))))
  (a0:c0<=8) (a1:c1<=8) (a2:c2<=8) (a3:c3<=8) (a4:c4<=8) (a5:c5<=8) (a6:c6<=8) (a7:c7<=8):
  let z1:=(y+y/256)%18446744073709551616
  let z2:=(z1+z1/65536)%18446744073709551616
  let z3:=(z2+z2/4294967296)%18446744073709551616
  z3%128=c0+(c1+(c2+(c3+(c4+(c5+(c6+(c7+0))))))):=by
 have e1:y/256=c1+256*(c2+256*(c3+256*(c4+256*(c5+256*(c6+256*c7))))):=by
  rw[hy,Yjs _ _ _ Ω];omega
 have m1:(y+y/256)%18446744073709551616=(c0+c1)+256*(c1+c2)+65536*((c2+c3)+256*(c3+c4)+65536*((c4+c5)+256*(c5+c6)+65536*((c6+c7)+256*c7))):=by
  rw[e1,ξD Ω];omega
 simp only[m1];clear m1 e1 hy y
 have d2:((c0+c1)+256*(c1+c2)+65536*((c2+c3)+256*(c3+c4)+65536*((c4+c5)+256*(c5+c6)+65536*((c6+c7)+256*c7))))/65536=(c2+c3)+256*(c3+c4)+65536*((c4+c5)+256*(c5+c6)+65536*((c6+c7)+256*c7)):=
  Yjs _ _ _ Ω
 rw[d2]
 have m2:((c0+c1)+256*(c1+c2)+65536*((c2+c3)+256*(c3+c4)+65536*((c4+c5)+256*(c5+c6)+65536*((c6+c7)+256*c7)))+((c2+c3)+256*(c3+c4)+65536*((c4+c5)+256*(c5+c6)+65536*((c6+c7)+256*c7))))%18446744073709551616 =
   ((c0+c1+c2+c3)+256*(c1+c2+c3+c4)+65536*(c2+c3+c4+c5)+16777216*(c3+c4+c5+c6))+4294967296*((c4+c5+c6+c7)+256*(c5+c6+c7)+65536*(c6+c7)+16777216*c7):=by
  rw[ξD Ω];omega
 rw[m2];clear m2 d2;rw[Yjs _ _ 4294967296 Ω];have hm:∀X:Nat,X<18446744073709551616->X%18446744073709551616%128=X%128:=λX h=>by rw[ξD h]
 rw[hm _ Ω];omega
theorem YtC(y:Nat)(x:Nat)(hy:y=t 8 x):
  let z1:=(y+y/256)%18446744073709551616
  let z2:=(z1+z1/65536)%18446744073709551616
  let z3:=(z2+z2/4294967296)%18446744073709551616
  z3%128=pc x:=by
 rw[ZO3]at hy;have hp:pc x=cnt x.testBit (8*8):=rfl;rw[hp];rw[Jjs 7,Jjs 6,Jjs 5,Jjs 4,Jjs 3,Jjs 2,Jjs 1,Jjs 0];rw[XZq,XZq,XZq,XZq,XZq,XZq,XZq,XZq,XZq]at hy;simp only[Nat.mul_zero,YAO]at *
 have h:=Y4E;have a0:=h (x%256);have a1:=h (x/256%256);have a2:=h (x/256/256%256);have a3:=h (x/256/256/256%256);have a4:=h (x/256/256/256/256%256);have a5:=h (x/256/256/256/256/256%256);have a6:=h (x/256/256/256/256/256/256%256);have a7:=h (x/256/256/256/256/256/256/256%256);revert hy a0 a1 a2 a3 a4 a5 a6 a7;generalize (List.range 8).countP (x%256).testBit=c0;generalize (List.range 8).countP (x/256%256).testBit=c1;generalize (List.range 8).countP (x/256/256%256).testBit=c2;generalize (List.range 8).countP (x/256/256/256%256).testBit=c3;generalize (List.range 8).countP (x/256/256/256/256%256).testBit=c4;generalize (List.range 8).countP (x/256/256/256/256/256%256).testBit=c5;generalize (List.range 8).countP (x/256/256/256/256/256/256%256).testBit=c6;generalize (List.range 8).countP (x/256/256/256/256/256/256/256%256).testBit=c7;intro hy a0 a1 a2 a3 a4 a5 a6 a7;exact Yfd y c0 c1 c2 c3 c4 c5 c6 c7 hy a0 a1 a2 a3 a4 a5 a6 a7
end Word
namespace Word
def first(f:Nat->Bool):Nat->Nat
 | 0=>0
 | n+1=>if first f n<n then first f n else if f n then n else n+1
theorem Xgi(f:Nat->Bool)(n:Nat):first f n<=n:=by
 induction n with
 | zero=>simp[first]
 | succ n ih=>unfold first;split <;> (try split) <;> omega
theorem ZGm(f:Nat->Bool)(n:Nat):∀i,i<first f n->f i=false:=by
 induction n with
 | zero=>intro i hi;simp[first]at hi
 | succ n ih=>
  intro i hi;unfold first at hi
  have hl:=Xgi f n
  split at hi
  ·exact ih i hi
  ·have e:first f n=n:=Ω
   split at hi
   ·exact ih i Ω
   ·rename_i hf;by_cases h:i<n
    ·exact ih i Ω
    ·obtain rfl:i=n:=Ω
     simpa using hf
theorem JyT(f:Nat->Bool)(n:Nat)(h:first f n<n):f (first f n)=true:=by
 induction n with
 | zero=>omega
 | succ n ih=>
  unfold first at h⊢
  split
  ·rename_i hl;exact ih hl
  ·split
   ·assumption
   ·rename_i h1 h2;rw[ϑ h1,ϑ h2]at h;omega
theorem XFN{f:Nat->Bool}{n k:Nat}(hk:k<=n)(hn:∀i,i<k->f i=false)(ha:k<n->f k=true):first f n=k:=by
 have h1:=Xgi f n;have h2:=ZGm f n;have h3:=JyT f n;rcases ζW (first f n) k with h|h|h
 ·have:=hn _ h;rw[h3 Ω]at this;cases this
 ·exact h
 ·have:=h2 _ h;rw[ha Ω]at this;cases this
theorem Jyj{f g:Nat->Bool}{n:Nat}(h:∀i,i<n->f i=g i):first f n=first g n:=
 XFN (Xgi g n) (λi hi=>by rw[h i (by have:=Xgi g n;omega)];exact ZGm g n i hi) (λhl=>by rw[h _ hl];exact JyT g n hl)
def last(f:Nat->Bool):Nat->Int
 | 0=>-1
 | n+1=>if f n then n else last f n
theorem QAO(f:Nat->Bool)(n:Nat):-1<=last f n/\last f n<n:=by
 induction n with
 | zero=>simp[last]
 | succ n ih=>unfold last;split <;> omega
theorem X6C(f:Nat->Bool)(n:Nat):∀i:Nat,last f n<i->i<n->f i=false:=by
 induction n with
 | zero=>intro i _ hi;omega
 | succ n ih=>
  intro i h hi;unfold last at h
  split at h
  ·omega
  ·rename_i hf;by_cases e:i<n
   ·exact ih i h e
   ·obtain rfl:i=n:=Ω
    simpa using hf
theorem Y1s(f:Nat->Bool)(n:Nat)(h:0<=last f n):f (last f n).toNat=true:=by
 induction n with
 | zero=>simp[last]at h
 | succ n ih=>
  unfold last at h⊢
  split
  ·simpa using ‹f n=true›
  ·rename_i hf;rw[ϑ hf]at h;exact ih h
theorem VPe{f:Nat->Bool}{n:Nat}{k:Int}(hk:-1<=k)(hkn:k<n)(hn:∀i:Nat,k<i->i<n->f i=false)(ha:0<=k->f k.toNat=true):last f n=k:=by
 have h1:=QAO f n;have h2:=X6C f n;have h3:=Y1s f n;by_cases e:last f n=k
 ·exact e
 ·by_cases h:last f n<k
  ·have:=h2 k.toNat Ω Ω;rw[ha Ω]at this;cases this
  ·have:=hn (last f n).toNat Ω Ω;rw[h3 Ω]at this;cases this
theorem V3e{f g:Nat->Bool}{n:Nat}(h:∀i,i<n->f i=g i):last f n=last g n:=by
 induction n with
 | zero=>rfl
 | succ n ih=>unfold last;rw[h n Ω,ih (λi hi=>h i Ω)]
def tz(x:Nat):Nat:=first x.testBit 64
theorem YYy:tz 0=64:=by decide +kernel
theorem ZtG(x:Nat):tz x<=64:=Xgi _ _
theorem Yif{x:Nat}(hx:x<2 ^ 64)(h:∀i,i<64->x.testBit i=false):x=0:=by
 apply ξH;intro i;by_cases hi:i<64
 ·rw[h i hi];simp
 ·rw[Nat.testBit_lt_two_pow (ω hx (Nat.pow_le_pow_right (by decide) Ω))];simp
theorem XIB{x:Nat}(hx:x<2 ^ 64)(h0:x≠0):tz x<64:=by
 have:=ZtG x;rcases γ (tz x) 64 with h|h
 ·exact h
 ·exact absurd (Yif hx (λi hi=>ZGm _ 64 i (by unfold tz at h;omega))) h0
theorem V3V(a b k:Nat):(2 ^ k*a) &&& (2 ^ k*b)=2 ^ k*(a &&& b):=by
 apply ξH;intro i;rw[ξo,Nat.testBit_two_pow_mul,Nat.testBit_two_pow_mul,Nat.testBit_two_pow_mul,ξo];by_cases h:k<=i <;> simp[h]
theorem JoZ(k n m:Nat)(h:2 ^ k*(2*m+1)<2 ^ n):(2 ^ k*(2*m+1)) &&& (2 ^ n-2 ^ k*(2*m+1))=2 ^ k:=by
 have hp:=Nat.two_pow_pos k
 have hkn:k<n:=by
  rcases γ k n with h1|h1
  ·exact h1
  ·have:=Nat.pow_le_pow_right (n:=2) (by decide) h1;have:2 ^ k*1<=2 ^ k*(2*m+1):=Nat.mul_le_mul_left _ Ω;omega
 have hm:2*m+1<2 ^ (n-k):=by
  have e:2 ^ n=2 ^ k*2 ^ (n-k):=by rw[<-Nat.pow_add];congr 1;omega
  rw[e]at h;exact Nat.lt_of_mul_lt_mul_left h
 have e1:2 ^ n-2 ^ k*(2*m+1)=2 ^ k*(2 ^ (n-k)-(2*m+1)):=by
  rw[Nat.mul_sub,<-Nat.pow_add];congr 2;omega
 rw[e1,V3V];have e2:2 ^ (n-k)=2*2 ^ (n-k-1):=by rw[<-Nat.pow_succ'];congr 1;omega
 have e3:2 ^ (n-k)-(2*m+1)=2*(2 ^ (n-k-1)-(m+1))+1:=Ω
 rw[e3]
 have:(2*m+1) &&& (2*(2 ^ (n-k-1)-(m+1))+1)=1:=by
  apply ξH;intro i;cases i with
  | zero=>simp[Nat.testBit_zero]
  | succ i=>
   rw[ξo,Nat.testBit_succ,Nat.testBit_succ,Nat.testBit_succ];rw[show (2*m+1)/2=m by omega,show (2*(2 ^ (n-k-1)-(m+1))+1)/2=2 ^ (n-k-1)-(m+1)by omega];rw[Nat.testBit_two_pow_sub_succ Ω];cases h:m.testBit i <;> simp
 rw[this,ξz]
theorem Yv1{x:Nat}(hx:x<2 ^ 64)(h0:x≠0):∃m,x=2 ^ tz x*(2*m+1):=by
 have hl:=XIB hx h0;have h1:=ZGm x.testBit 64;have h2:=JyT x.testBit 64 (by unfold tz at hl;exact hl);change ∀i,i<tz x->_ at h1;change x.testBit (tz x)=true at h2;generalize tz x=k at *
 have hd:x%2 ^ k=0:=by
  apply ξH;intro i;rw[Nat.testBit_mod_two_pow];by_cases hi:i<k
  ·simp[h1 i hi]
  ·simp[hi]
 have hq:(x/2 ^ k)%2=1:=by
  rw[Nat.testBit_eq_decide_div_mod_eq]at h2;simpa using h2
 refine⟨x/2 ^ k/2,?_⟩;have:=ζx x (2 ^ k);rw[hd,ξj]at this;have e:2*(x/2 ^ k/2)+1=x/2 ^ k:=Ω
 rw[e];exact this.symm
theorem Vtj{x:Nat}(hx:x<2 ^ 64)(h0:x≠0):x &&& (2 ^ 64-x)=2 ^ tz x:=by
 obtain⟨m,hm⟩:=Yv1 hx h0;have:=JoZ (tz x) 64 m (by rw[<-hm];exact hx)
 rwa [<-hm]at this
def tab:List Nat:=[0,1,56,2,57,49,28,3,61,58,42,50,38,29,17,4,62,47,59,36,45,43,51,22,53,39,33,30,24,18,12,5,63,55,48,27,60,41,37,16,46,35,44,21,52,32,23,11,54,26,40,15,34,20,31,10,25,14,19,9,13,8,7,6]
theorem YYA:∀k,k<64->2 ^ k*285870213051353865%18446744073709551616/288230376151711744<64/\tab.getD (2 ^ k*285870213051353865%18446744073709551616/288230376151711744) 0=k:=by decide +kernel
def XaI(x:Nat):Nat:=(x &&& (18446744073709551616-x))*285870213051353865%18446744073709551616/288230376151711744
theorem VnA{x:Nat}(hx:x<18446744073709551616)(h0:x≠0):XaI x<64/\tab.getD (XaI x) 0=tz x:=by
 unfold XaI;have:=Vtj (show x<2 ^ 64 from hx) h0;rw[show (2:Nat) ^ 64=18446744073709551616 from rfl]at this;rw[this];exact YYA _ (XIB hx h0)
def len(x:Nat):Int:=last x.testBit 64+1
theorem Y6K(x:Nat):0<=len x/\len x<=64:=by unfold len;have:=QAO x.testBit 64;omega
theorem Jm1{x j:Nat}(hx:x<2 ^ 64)(h:2 ^ j<=x):len x=j+len (x/2 ^ j):=by
 have hq:1<=x/2 ^ j:=(ζ3 (Nat.two_pow_pos j)).2 Ω;have Z:x/2 ^ j<2 ^ 64:=ξL (ζ8 _ _) hx
 have tb:∀i,(x/2 ^ j).testBit i=x.testBit (i+j):=λi=>by
  rw[Nat.testBit_div_two_pow]
 have b:=QAO (x/2 ^ j).testBit 64;have nn:=X6C (x/2 ^ j).testBit 64;have at_:=Y1s (x/2 ^ j).testBit 64
 have h0:0<=last (x/2 ^ j).testBit 64:=by
  rcases Int.lt_or_le (last (x/2 ^ j).testBit 64) 0 with h|h
  ·have:=Yif Z (λi hi=>nn i Ω hi);omega
  ·exact h
 have X:=at_ h0;unfold len;generalize last (x/2 ^ j).testBit 64=L at *
 have Y:∀i,64<=i->x.testBit i=false:=λi hi=>Nat.testBit_lt_two_pow (ω hx (Nat.pow_le_pow_right (by decide) hi));rw[tb]at X
 have hlt:L.toNat+j<64:=by
  rcases γ (L.toNat+j) 64 with h|h
  ·exact h
  ·rw[Y _ h]at X;cases X
 have:last x.testBit 64=L+j:=by
  refine VPe Ω Ω (λi hi hi2=>?_) (λ_=>?_)
  ·have:=nn (i-j) Ω Ω;rw[tb]at this
   rwa [show i-j+j=i by omega]at this
  ·rwa [show (L+(j:Int)).toNat=L.toNat+j by omega]
 rw[this];omega
def Xjs(f:Nat->Bool)(n k:Nat):Nat:=first (λi=>f i&&cnt f i==k) n
theorem Yj6{f:Nat->Bool}{i j:Nat}(hij:i<j)(hi:f i=true):cnt f i<cnt f j:=by
 have:=ZoC f (show i+1<=j from hij);rw[Z10,hi]at this;simp at this;omega
theorem ZiF{f:Nat->Bool}{n k i:Nat}(hi:i<n)(hf:f i=true)(hc:cnt f i=k):Xjs f n k=i:=by
 refine XFN Ω (λj hj=>?_) (λ_=>by simp[hf,hc]);cases hfj:f j with
 | false=>simp
 | true=>have:=Yj6 hj hfj;simp;omega
theorem YoZ{f:Nat->Bool}{n k:Nat}(h:k<cnt f n):∃i,i<n/\f i=true/\cnt f i=k:=by
 induction n with
 | zero=>simp[YAO]at h
 | succ n ih=>
  by_cases h2:k<cnt f n
  ·obtain⟨i,a,b,c⟩:=ih h2;exact⟨i,by omega,b,c⟩
  ·rw[Z10]at h;cases hf:f n with
   | false=>rw[hf]at h;simp at h;omega
   | true=>rw[hf]at h;simp at h;exact⟨n,by omega,hf,by omega⟩
theorem X9n{f:Nat->Bool}{n k:Nat}(h:k<cnt f n):Xjs f n k<n/\f (Xjs f n k)=true/\cnt f (Xjs f n k)=k:=by
 obtain⟨i,a,b,c⟩:=YoZ h;rw[ZiF a b c];exact⟨a,b,c⟩
theorem Vit{f:Nat->Bool}{n k:Nat}(h:cnt f n<=k):Xjs f n k=n:=by
 refine XFN Ω (λj hj=>?_) (λh=>by omega);cases hfj:f j with
 | false=>simp
 | true=>have:=Yj6 hj hfj;simp;omega
theorem Qfr:XEJ 0 64=18446744073709551615:=by decide +kernel
theorem XiT(x:Nat)(hx:x<18446744073709551616):x &&& XEJ 0 64=x:=by
 rw[Qfr];exact Nat.and_two_pow_sub_one_of_lt_two_pow (n:=64) hx
end Word
namespace Word
def ZqC(f:Nat->Bool):Nat->Nat
 | 0=>0
 | n+1=>ZqC f n+(f n).toNat*2 ^ n
theorem Z1q(f:Nat->Bool)(n:Nat):ZqC f n<2 ^ n:=by
 induction n with
 | zero=>simp[ZqC]
 | succ n ih=>unfold ZqC;rw[Nat.pow_succ];cases f n <;> simp <;> omega
theorem Jaa(f:Nat->Bool)(n i:Nat):(ZqC f n).testBit i=(decide (i<n)&&f i):=by
 induction n with
 | zero=>simp[ZqC]
 | succ n ih=>
  unfold ZqC;have hl:=Z1q f n;have e:ZqC f n+(f n).toNat*2 ^ n=2 ^ n*(f n).toNat+ZqC f n:=by rw[ζJ];omega
  rw[e,Nat.testBit_two_pow_mul_add _ hl]
  split
  ·rename_i h;rw[ih];simp[h];omega
  ·rename_i h;by_cases hi:i=n
   ·subst hi;cases h2:f i <;> simp
   ·have h3:¬i<n+1:=Ω
    simp only[h3,decide_false,ψH];have h4:i-n≠0:=Ω
    cases f n
    ·simp
    ·simp only[Bool.toNat_true];rw[Nat.testBit_lt_two_pow];exact Nat.one_lt_two_pow h4
def nw(l:List Bool):Nat:=(l.length+63)/64
def Zgh(l:List Bool)(i:Nat):Nat:=ZqC (λj=>l.getD (64*i+j) false) 64
theorem Vhd(l:List Bool)(i:Nat):Zgh l i<18446744073709551616:=Z1q _ 64
theorem QgF(l:List Bool)(i j:Nat):(Zgh l i).testBit j=(decide (j<64)&&l.getD (64*i+j) false):=Jaa _ _ _
theorem Zfx{x y:Nat}(hx:x<18446744073709551616)(hy:y<18446744073709551616)(h:∀j,j<64->x.testBit j=y.testBit j):x=y:=by
 apply ξH;intro i;by_cases hi:i<64
 ·exact h i hi
 ·have hp:2 ^ 64<=2 ^ i:=Nat.pow_le_pow_right (by decide) Ω;rw[Nat.testBit_lt_two_pow (ω hx hp),Nat.testBit_lt_two_pow (ω hy hp)]
theorem VEf{l:List Bool}{i x:Nat}(hx:x<18446744073709551616)(h:∀j,j<64->x.testBit j=l.getD (64*i+j) false):x=Zgh l i:=
 Zfx hx (Vhd l i) (λj hj=>by rw[h j hj,QgF];simp[hj])
theorem Vjn{l m:List Bool}{i:Nat}(h:∀j,j<64->l.getD (64*i+j) false=m.getD (64*i+j) false):Zgh l i=Zgh m i:=
 VEf (Vhd l i) (λj hj=>by rw[QgF,<-h j hj];simp[hj])
def Xxg(a b:Nat):Nat:=a &&& (18446744073709551615-b%18446744073709551616)
theorem YVd(a b:Nat)(ha:a<18446744073709551616):Xxg a b<18446744073709551616:=ξL ψB ha
theorem QSR(a b j:Nat)(hj:j<64):(Xxg a b).testBit j=(a.testBit j&&!b.testBit j):=by
 unfold Xxg;rw[ξo];have h:b%18446744073709551616<2 ^ 64:=ξC _ (by decide);have:=Nat.testBit_two_pow_sub_succ h j;rw[show 2 ^ 64-(b%18446744073709551616+1)=18446744073709551615-b%18446744073709551616 by omega]at this;rw[this,show (18446744073709551616:Nat)=2 ^ 64 from rfl,Nat.testBit_mod_two_pow];simp[hj]
theorem VOD{a b:Nat}(ha:a<18446744073709551616)(hb:b<18446744073709551616):a ||| b<18446744073709551616:=Nat.or_lt_two_pow (n:=64) ha hb
theorem XRU(l:List Bool)(k i:Nat)(x:Bool)(hk:k<l.length):(l.set k x).getD i false=if i=k then x else l.getD i false:=by
 simp only[φ,ξv];by_cases h:k=i
 ·subst h;simp[hk]
 ·rw[ϑ h,ϑ Ω]
theorem YiX(k j:Nat):(2 ^ k).testBit j=decide (k=j):=by
 rw[Nat.testBit_two_pow]
theorem Qvn(k:Nat):2 ^ (k%64)<18446744073709551616:=Nat.pow_lt_pow_right (by decide) (show k%64<64 by omega)
theorem JLE(l:List Bool)(k:Nat)(hk:k<l.length):Zgh (l.set k true) (k/64)=Zgh l (k/64) ||| 2 ^ (k%64):=by
 refine(VEf (VOD (Vhd _ _) (Qvn k)) (λj hj=>?_)).symm;rw[Nat.testBit_or,QgF,YiX,XRU l k _ _ hk];by_cases h:64*(k/64)+j=k
 ·rw[μ h,κ (show k%64=j by omega)];simp
 ·rw[ϑ h,ψ (show ¬k%64=j by omega)];simp[hj]
theorem Ywt(l:List Bool)(k i:Nat)(x:Bool)(hk:k<l.length)(hi:i≠k/64):Zgh (l.set k x) i=Zgh l i:=
 Vjn (λj hj=>by rw[XRU l k _ _ hk,ϑ Ω])
theorem Qmp(l:List Bool)(k:Nat)(x:Bool):nw (l.set k x)=nw l:=by unfold nw;simp
def at_(l:List Bool)(i:Nat):Bool:=l.getD i false
theorem XaX{l:List Bool}{i:Nat}(h:at_ l i=true):i<l.length:=by
 unfold at_ at h;rcases γ i l.length with h1|h1
 ·exact h1
 ·rw[φ,ζf h1]at h;simp at h
def Xkh(l:List Bool)(a b:Int)(i:Nat):Bool:=at_ l i&&decide (a<=i/\(i:Int)<b)
def QnT(l:List Bool)(a b:Int):Nat:=cnt (Xkh l a b) l.length
def XCN(l:List Bool)(a b:Int)(x:Bool):List Bool:=l.mapIdx λi y=>if a<=i/\(i:Int)<b then x else y
theorem J8M(l:List Bool)(a b:Int)(x:Bool):(XCN l a b x).length=l.length:=by unfold XCN;simp
theorem QTG(l:List Bool)(a b:Int)(x:Bool)(i:Nat)(hi:i<l.length):at_ (XCN l a b x) i=if a<=i/\(i:Int)<b then x else at_ l i:=by
 unfold at_ XCN;simp[φ,hi]
theorem JWT{l:List Bool}{i:Nat}(h:l.length<=i):at_ l i=false:=by
 unfold at_;rw[φ,ζf h];rfl
theorem J2X{l m:List Bool}(hn:l.length=m.length)(h:∀i,i<l.length->at_ l i=at_ m i):l=m:=by
 apply ζ9 hn;intro i h1 h2;have:=h i h1;unfold at_ at this;simpa[φ,h1,h2]using this
def ZJd(l:List Bool)(a b:Int)(x:Bool):Nat:=cnt (λi=>decide (a<=i/\(i:Int)<b)&&(at_ l i !=x)) l.length
def ZnF(l:List Bool)(a:Int):Nat:=first (λi=>at_ l i&&decide (a<=i)) l.length
def JJU(l:List Bool)(b:Int):Int:=last (λi=>at_ l i&&decide ((i:Int)<b)) l.length
def X5b(l:List Bool)(k:Nat):Nat:=Xjs (at_ l) l.length k
end Word
namespace Word
theorem VFw(l:List Bool)(k j:Nat)(hj:j<64):(Zgh l k).testBit j=at_ l (64*k+j):=by
 rw[QgF];simp[hj,at_]
theorem ZEC(l:List Bool)(k fr j:Nat)(hj:j<64):(Zgh l k &&& XEJ fr 64).testBit j=(at_ l (64*k+j)&&decide (fr<=j)):=by
 rw[ξo,QvP,VFw l k j hj];congr 1;apply ζK.2;omega
theorem V3W(l:List Bool)(k j:Nat)(b:Int)(hj:j<64):(Zgh l k &&& XEJ 0 b).testBit j=(at_ l (64*k+j)&&decide ((j:Int)<b)):=by
 rw[ξo,QvP,VFw l k j hj];congr 1;apply ζK.2;omega
def JXz(l:List Bool)(a m:Nat):Prop:=∀i,a<=i->i<m->at_ l i=false
theorem X3L(l:List Bool)(a:Nat):JXz l a (64*(a/64)+a%64):=λi h1 h2=>by omega
theorem YeH{l:List Bool}{a k fr:Nat}(h:JXz l a (64*k+fr))(ha:a<=64*k+fr)(ht:tz (Zgh l k &&& XEJ fr 64)<64):
  ZnF l a=64*k+tz (Zgh l k &&& XEJ fr 64)/\ZnF l a<l.length:=by
 have h1:=JyT _ 64 ht;have h2:=ZGm (Zgh l k &&& XEJ fr 64).testBit 64;change (Zgh l k &&& XEJ fr 64).testBit (tz _)=true at h1;change ∀i,i<tz _->_ at h2;generalize tz (Zgh l k &&& XEJ fr 64)=t at *
 rw[ZEC l k fr t ht]at h1;simp only[ζd,ζe]at h1;have hl:=XaX h1.1
 have e:ZnF l a=64*k+t:=by
  refine XFN Ω (λi hi=>?_) (λ_=>by simp[h1.1];omega);by_cases X:a<=i
  ·by_cases hf:i<64*k+fr
   ·rw[h i X hf];simp
   ·have:=h2 (i-64*k) Ω;rw[ZEC l k fr _ Ω,show 64*k+(i-64*k)=i by omega,κ (show fr<=i-64*k by omega),ξP]at this;rw[this];simp
  ·have:¬((a:Int)<=i):=Ω
   simp[this]
 exact⟨e,by omega⟩
theorem ZMX{l:List Bool}{a k fr:Nat}(h:JXz l a (64*k+fr))(hfr:fr<=64)(ht:¬tz (Zgh l k &&& XEJ fr 64)<64):JXz l a (64*(k+1)+0):=by
 intro i h1 h2;by_cases hf:i<64*k+fr
 ·exact h i h1 hf
 ·have hn:=ZGm (Zgh l k &&& XEJ fr 64).testBit 64 (i-64*k) (by have:=ZtG (Zgh l k &&& XEJ fr 64);unfold tz at *;omega);rw[ZEC l k fr _ Ω,show 64*k+(i-64*k)=i by omega,κ (show fr<=i-64*k by omega),ξP]at hn;exact hn
theorem JRu{l:List Bool}{a k fr:Nat}(h:JXz l a (64*k+fr))(hk:nw l<=k):ZnF l a=l.length:=by
 refine XFN Ω (λi hi=>?_) (λh=>by omega);by_cases X:a<=i
 ·rw[h i X (by unfold nw at hk;omega)];simp
 ·have:¬((a:Int)<=i):=Ω
  simp[this]
theorem ZMZ(l:List Bool)(a:Int):ZnF l a=ZnF l (a.toNat:Int):=
 Jyj (λi _=>by congr 1;apply ζK.2;omega)
theorem Z5e{l:List Bool}{a:Int}(h:(l.length:Int)<=a):ZnF l a=l.length:=
 XFN Ω (λi hi=>by rw[ψ (show ¬a<=(i:Int)by omega)];simp) (λh=>by omega)
def JHm(n k:Nat):Int:=if k<n then k else 0
theorem Jpj{n k:Nat}(h:k<n):JHm n k=k:=μ h
theorem JEJ{n k:Nat}(h:¬k<n):JHm n k=0:=ϑ h
def ZoR(l:List Bool)(b m:Int):Prop:=∀i:Nat,m<=i->(i:Int)<b->at_ l i=false
theorem Vu4{l:List Bool}{b:Int}{k:Nat}(h:ZoR l b (64*k+64))(ht:0<=len (Zgh l k &&& XEJ 0 (b-64*k))-1):
  JJU l b=64*k+(len (Zgh l k &&& XEJ 0 (b-64*k))-1):=by
 unfold len at *
 have h0:=QAO (Zgh l k &&& XEJ 0 (b-64*k)).testBit 64;have h1:=Y1s (Zgh l k &&& XEJ 0 (b-64*k)).testBit 64 Ω;have h2:=X6C (Zgh l k &&& XEJ 0 (b-64*k)).testBit 64;generalize last (Zgh l k &&& XEJ 0 (b-64*k)).testBit 64=t at *
 obtain⟨t,rfl⟩:∃n:Nat,t=n:=⟨t.toNat,by omega⟩;rw[τ]at h1;rw[V3W l k t _ Ω]at h1;simp only[ζd,ζe]at h1;have hl:=XaX h1.1
 have e:JJU l b=((64*k+t:Nat):Int):=by
  refine VPe Ω Ω (λi hi hi2=>?_) (λ_=>?_)
  ·by_cases X:(i:Int)<b
   ·by_cases hf:64*k+64<=i
    ·rw[h i Ω X];simp
    ·have:=h2 (i-64*k) Ω Ω;rw[V3W l k _ _ Ω,show 64*k+(i-64*k)=i by omega,κ (show ((i-64*k:Nat):Int)<b-64*k by omega),ξP]at this;rw[this];simp
   ·simp[X]
  ·rw[τ,h1.1];simp;omega
 rw[e];omega
theorem JlV{l:List Bool}{b:Int}{k:Nat}(h:ZoR l b (64*k+64))(ht:¬0<=len (Zgh l k &&& XEJ 0 (b-64*k))-1):ZoR l b (64*k):=by
 intro i h1 h2;by_cases hf:64*k+64<=i
 ·exact h i Ω h2
 ·unfold len at ht;have:=X6C (Zgh l k &&& XEJ 0 (b-64*k)).testBit 64 (i-64*k) Ω Ω;rw[V3W l k _ _ Ω,show 64*k+(i-64*k)=i by omega,κ (show ((i-64*k:Nat):Int)<b-64*k by omega),ξP]at this;exact this
theorem JS8{l:List Bool}{b m:Int}(h:ZoR l b m)(hm:m<=0):JJU l b = -1:=by
 refine VPe Ω Ω (λi _ _=>?_) (λh=>by omega);by_cases X:(i:Int)<b
 ·rw[h i Ω X];simp
 ·simp[X]
theorem Q9t{l:List Bool}{b:Int}(h:b<=0):JJU l b = -1:=JS8 (m:=0) (λi _ h2=>by omega) Ω
theorem ZAa(l:List Bool)(b:Int):JJU l b=JJU l (min b l.length):=
 V3e (λi hi=>by congr 1;apply ζK.2;omega)
def Jvh(k:Int):Int:=if 0<=k then k else 0
end Word
namespace Word
theorem ZC7{f:Nat->Bool}{m n:Nat}(h:m<=n)(hf:∀i,m<=i->i<n->f i=false):cnt f n=cnt f m:=by
 obtain⟨k,rfl⟩:∃k,n=m+k:=⟨n-m,by omega⟩;rw[Qzo,Z6o (f:=λi=>f (m+i)) (λi hi=>hf _ Ω Ω)];omega
def ZIf(g:Nat->Bool)(a b:Int)(n:Nat):Nat:=cnt (λi=>decide (a<=i/\(i:Int)<b)&&g i) n
theorem JR4(g:Nat->Bool){a b:Int}(n:Nat)(h:b<=a):ZIf g a b n=0:=
 Z6o (λi _=>by rw[ψ Ω];rfl)
theorem ZVB{g h:Nat->Bool}{a b a' b':Int}{n:Nat}(H:∀i:Nat,i<n->(decide (a<=i/\(i:Int)<b)&&g i)=(decide (a'<=i/\(i:Int)<b')&&h i)):ZIf g a b n=ZIf h a' b' n:=XmU H
theorem X8G{g:Nat->Bool}{lo hi:Int}{k n y:Nat}(hk:(64*k:Int)<hi)(hn:hi<=n)
  (hy:∀j,j<64->y.testBit j=(decide (lo<=(64*k+j:Nat)/\((64*k+j:Nat):Int)<hi)&&g (64*k+j))):
  ZIf g lo (min hi (64*k)) n+pc y=ZIf g lo (min hi (64*(k+1:Nat))) n:=by
 unfold ZIf;obtain⟨r,rfl⟩:∃r,n=64*k+r:=⟨n-64*k,by omega⟩;rw[Qzo,Qzo _ (64*k) r]
 have e1:cnt (λi=>decide (lo<=(i:Nat)/\((i:Nat):Int)<min hi (64*k))&&g i) (64*k)=cnt (λi=>decide (lo<=(i:Nat)/\((i:Nat):Int)<min hi (64*(k+1:Nat)))&&g i) (64*k):=
  XmU (λi hi'=>by congr 1;apply ζK.2;omega)
 have e2:cnt (λi=>decide (lo<=(64*k+i:Nat)/\((64*k+i:Nat):Int)<min hi (64*k))&&g (64*k+i)) r=0:=
  Z6o (λi _=>by rw[ψ Ω];rfl)
 have e3:cnt (λi=>decide (lo<=(64*k+i:Nat)/\((64*k+i:Nat):Int)<min hi (64*(k+1:Nat)))&&g (64*k+i)) r=pc y:=by
  unfold pc;rcases γ r 64 with h|h
  ·rw[ZC7 (f:=y.testBit) (show r<=64 by omega) (λi h1 h2=>by rw[hy i h2,ψ Ω];rfl)];exact XmU (λi hi'=>by rw[hy i Ω];congr 1;apply ζK.2;omega)
  ·rw[ZC7 h (λi h1 h2=>by rw[ψ Ω];rfl)];exact XmU (λi hi'=>by rw[hy i Ω];congr 1;apply ζK.2;omega)
 rw[e1,e2,e3];omega
theorem Y7X(l:List Bool)(a b:Int):QnT l a b=ZIf (at_ l) a b l.length:=XmU (λi _=>by unfold Xkh;rw[Bool.and_comm])
theorem YbQ(l:List Bool)(a b:Int)(x:Bool):ZJd l a b x=ZIf (λi=>at_ l i !=x) a b l.length:=rfl
theorem QvE{l:List Bool}{a b:Int}(x:Bool)(h:b<=a):XCN l a b x=l:=
 J2X (J8M ..) (λi hi=>by rw[QTG _ _ _ _ _ (by rwa [J8M]at hi),ϑ Ω])
theorem XD7(l:List Bool)(f t:Int)(x:Bool):XCN l (max f 0) (min t l.length) x=XCN l f t x:=
 J2X (by rw[J8M,J8M]) (λi hi=>by
  rw[J8M]at hi;rw[QTG _ _ _ _ _ hi,QTG _ _ _ _ _ hi];by_cases h:f<=i/\(i:Int)<t
  ·rw[μ h,μ Ω]
  ·rw[ϑ h,ϑ Ω])
theorem Xl3(g:Nat->Bool)(f t:Int)(n:Nat):ZIf g (max f 0) (min t n) n=ZIf g f t n:=
 ZVB (λi hi=>by congr 1;apply ζK.2;omega)
theorem XuD(lo hi:Int)(k j:Nat)(hj:j<64):(XEJ (lo-64*k) (hi-64*k)).testBit j=decide (lo<=(64*k+j:Nat)/\((64*k+j:Nat):Int)<hi):=by
 rw[QvP];apply ζK.2;omega
theorem Jbc(l:List Bool)(lo hi:Int)(x:Bool)(i:Nat)(hh:hi<=l.length):at_ (XCN l lo hi x) i=if lo<=i/\(i:Int)<hi then x else at_ l i:=by
 by_cases h:i<l.length
 ·exact QTG _ _ _ _ _ h
 ·rw[JWT (by rw[J8M];omega),ϑ Ω,JWT Ω]
theorem QG7{l:List Bool}{lo hi:Int}{k:Nat}(hk:(64*k:Int)<hi)(hh:hi<=l.length)(x:Bool)(j:Nat)(hj:j<64):(Zgh (XCN l lo (min hi (64*k)) x) k).testBit j=at_ l (64*k+j):=by
 rw[VFw _ _ _ hj,Jbc _ _ _ _ _ Ω,ϑ Ω]
theorem XEq{l:List Bool}{lo hi:Int}{k:Nat}(hh:hi<=l.length)(x:Bool)(j:Nat)(hj:j<64):(Zgh (XCN l lo (min hi (64*(k+1:Nat))) x) k).testBit j=if lo<=(64*k+j:Nat)/\((64*k+j:Nat):Int)<hi then x else at_ l (64*k+j):=by
 rw[VFw _ _ _ hj,Jbc _ _ _ _ _ Ω];by_cases h:lo<=(64*k+j:Nat)/\((64*k+j:Nat):Int)<hi
 ·rw[μ h,μ Ω]
 ·rw[ϑ h,ϑ Ω]
theorem VeX{l:List Bool}{lo hi:Int}{k:Nat}(hk:(64*k:Int)<hi)(hh:hi<=l.length):Zgh (XCN l lo (min hi (64*k)) true) k ||| XEJ (lo-64*k) (hi-64*k)=Zgh (XCN l lo (min hi (64*(k+1:Nat))) true) k:=by
 refine Zfx (VOD (Vhd _ _) (YPt _ _)) (Vhd _ _) (λj hj=>?_);rw[Nat.testBit_or,QG7 hk hh true j hj,XuD lo hi k j hj,XEq hh true j hj];by_cases h:lo<=(64*k+j:Nat)/\((64*k+j:Nat):Int)<hi
 ·rw[μ h,κ h];simp
 ·rw[ϑ h,ψ h];simp
theorem QlU{l:List Bool}{lo hi:Int}{k:Nat}(hk:(64*k:Int)<hi)(hh:hi<=l.length):Xxg (Zgh (XCN l lo (min hi (64*k)) false) k) (XEJ (lo-64*k) (hi-64*k))=Zgh (XCN l lo (min hi (64*(k+1:Nat))) false) k:=by
 refine Zfx (YVd _ _ (Vhd _ _)) (Vhd _ _) (λj hj=>?_);rw[QSR _ _ _ hj,QG7 hk hh false j hj,XuD lo hi k j hj,XEq hh false j hj];by_cases h:lo<=(64*k+j:Nat)/\((64*k+j:Nat):Int)<hi
 ·rw[μ h,κ h];simp
 ·rw[ϑ h,ψ h];simp
theorem X3E{l:List Bool}{lo hi:Int}{k:Nat}(hk:(64*k:Int)<hi)(hh:hi<=l.length)(x:Bool){i:Nat}(hi':i≠k):Zgh (XCN l lo (min hi (64*k)) x) i=Zgh (XCN l lo (min hi (64*(k+1:Nat))) x) i:=by
 refine Zfx (Vhd _ _) (Vhd _ _) (λj hj=>?_);rw[VFw _ _ _ hj,VFw _ _ _ hj,Jbc _ _ _ _ _ Ω,Jbc _ _ _ _ _ Ω];by_cases h:lo<=(64*i+j:Nat)/\((64*i+j:Nat):Int)<min hi (64*k)
 ·rw[μ h,μ Ω]
 ·rw[ϑ h,ϑ Ω]
theorem XOq{l:List Bool}{lo hi:Int}{k:Nat}(hk:(64*k:Int)<hi)(hh:hi<=l.length):ZJd l lo (min hi (64*k)) true+pc (Xxg (XEJ (lo-64*k) (hi-64*k)) (Zgh (XCN l lo (min hi (64*k)) true) k))=ZJd l lo (min hi (64*(k+1:Nat))) true:=
 X8G hk hh (λj hj=>by rw[QSR _ _ _ hj,XuD lo hi k j hj,QG7 hk hh true j hj];cases at_ l (64*k+j) <;> simp)
theorem YDx{l:List Bool}{lo hi:Int}{k:Nat}(hk:(64*k:Int)<hi)(hh:hi<=l.length):ZJd l lo (min hi (64*k)) false+pc (XEJ (lo-64*k) (hi-64*k) &&& Zgh (XCN l lo (min hi (64*k)) false) k)=ZJd l lo (min hi (64*(k+1:Nat))) false:=
 X8G hk hh (λj hj=>by rw[ξo,XuD lo hi k j hj,QG7 hk hh false j hj];cases at_ l (64*k+j) <;> simp)
theorem YpL{l:List Bool}{lo hi:Int}{k:Nat}(hk:(64*k:Int)<hi)(hh:hi<=l.length):ZIf (at_ l) lo (min hi (64*k)) l.length+pc (XEJ (lo-64*k) (hi-64*k) &&& Zgh l k)=ZIf (at_ l) lo (min hi (64*(k+1:Nat))) l.length:=
 X8G hk hh (λj hj=>by rw[ξo,XuD lo hi k j hj,VFw l k j hj])
theorem Qa9(g:Nat->Bool)(a b:Int)(n:Nat):ZIf g a b n<=n:=QMh _ _
theorem XP8(l:List Bool)(a b:Int)(x:Bool):nw (XCN l a b x)=nw l:=by unfold nw;rw[J8M]
end Word
section
open Go.RowKit Word
theorem ZzN{k:IntKind}{a b:Int}(h:a=b):Ending.returned (.int k a)=.returned (.int k b):=by rw[h]
theorem Zbf{a b:Bool}(h:a=b):Ending.returned (.bool a)=.returned (.bool b):=by rw[h]
theorem Jp7(a b:Nat)(ha:a<18446744073709551616)(hb:b<18446744073709551616):bits .and .u64 (a:Int) (b:Int)=((a &&& b:Nat):Int):=bits_and_u64_nat a b ha hb
theorem XN7(x:Nat)(hx:x<18446744073709551616):IntKind.u64.wrap (x:Int)=(x:Int):=IntWalk.u64_in _ Ω
theorem Xgm(x:Nat):IntKind.u64.wrap (x:Int)=((x%18446744073709551616:Nat):Int):=by rw[ξF];omega
theorem YLE(n:Int)(w:World):
  Calls prog 234 #[.int .i64 n] w λe w'=>e=.returned (.int .i64 (XaE n))/\w=w':=by
 go_enter func234,ntmps234;go_wp2
 all_goals (go_ret;exact⟨ZzN (by unfold XaE;omega),rfl⟩)
theorem JOY(a b:Int)(w:World):
  Calls prog 217 #[.int .i64 a,.int .i64 b] w λe w'=>e=.returned (.int .u64 (XEJ a b:Nat))/\w=w':=by
 have ha:=JZS a;have hb:=JZS b;go_enter func217,ntmps217;go_wp2_with(go_at_call 234;refine(YLE _ _).mono ?_;rintro e w' ⟨rfl,rfl⟩)
 ·go_ret;have h:XaE b<=XaE a:=by assumption
  refine⟨ZzN ?_,rfl⟩;have:XEJ a b=0:=by unfold XEJ VOs;rw[μ Ω]
  rw[this];rfl
 ·go_ret;have h:XaE a<XaE b:=by assumption
  refine⟨ZzN ?_,rfl⟩;rw[ZbW a b h];exact XN7 _ (YPt a b)
theorem X6o(x:Nat):s1 8 x<18446744073709551616:=by
 unfold s1;have h1:(x/2) &&& rep 85 8<=rep 85 8:=ψf;have h2:x &&& rep 85 8<=rep 85 8:=ψf;have e:rep 85 8=6148914691236517205:=by decide +kernel
 omega
theorem ZAG(x:Nat):s2 8 x<18446744073709551616/2:=by
 unfold s2;have h1:(x/4) &&& rep 51 8<=rep 51 8:=ψf;have h2:x &&& rep 51 8<=rep 51 8:=ψf;have e:rep 51 8=3689348814741910323:=by decide +kernel
 omega
theorem Xhk(x:Nat):s3 8 x<18446744073709551616/2:=by
 unfold s3;have h2:(x/16+x) &&& rep 15 8<=rep 15 8:=ψf;have e:rep 15 8=1085102592571150095:=by decide +kernel
 omega
theorem oc1(x:Nat)(hx:x<18446744073709551616):
  IntKind.u64.wrap (bits .and .u64 ((x:Int)/2) 6148914691236517205+bits .and .u64 (x:Int) 6148914691236517205)=((s1 8 x:Nat):Int):=by
 have a1:=Jp7 (x/2) 6148914691236517205 Ω (by decide);have a2:=Jp7 x 6148914691236517205 hx (by decide);rw[show ((x:Int)/2)=((x/2:Nat):Int)by omega,show (6148914691236517205:Int)=((6148914691236517205:Nat):Int)from rfl,a1,a2];have e:rep 85 8=6148914691236517205:=by decide +kernel
 rw[<-ψm,<-e];exact XN7 _ (X6o x)
theorem oc2(x:Nat)(hx:x<18446744073709551616):
  IntKind.u64.wrap (bits .and .u64 ((x:Int)/4) 3689348814741910323+bits .and .u64 (x:Int) 3689348814741910323)=((s2 8 x:Nat):Int):=by
 have a1:=Jp7 (x/4) 3689348814741910323 Ω (by decide);have a2:=Jp7 x 3689348814741910323 hx (by decide);rw[show ((x:Int)/4)=((x/4:Nat):Int)by omega,show (3689348814741910323:Int)=((3689348814741910323:Nat):Int)from rfl,a1,a2];have e:rep 51 8=3689348814741910323:=by decide +kernel
 rw[<-ψm,<-e];exact XN7 _ (by have:=ZAG x;unfold s2 at this;omega)
theorem oc3(x:Nat)(hx:x<18446744073709551616/2):
  bits .and .u64 (IntKind.u64.wrap ((x:Int)/16+(x:Int))) 1085102592571150095=((s3 8 x:Nat):Int):=by
 have a1:=Jp7 (x/16+x) 1085102592571150095 Ω (by decide);rw[show ((x:Int)/16+(x:Int))=((x/16+x:Nat):Int)by omega,XN7 _ Ω,show (1085102592571150095:Int)=((1085102592571150095:Nat):Int)from rfl,a1];have e:rep 15 8=1085102592571150095:=by decide +kernel
 unfold s3;rw[e]
theorem oc4(x d:Nat)(D:Int)(hD:D=(d:Int)):IntKind.u64.wrap ((x:Int)+(x:Int)/D)=(((x+x/d)%18446744073709551616:Nat):Int):=by
 rw[hD,<-ζM,<-ψm,Xgm]
theorem oc5(x:Nat)(hx:x<18446744073709551616):bits .and .i64 (wrap64 (x:Int)) 127=((x%128:Nat):Int):=by
 rw[<-IntWalk.i64_left]
 have h2:(BitVec.ofInt 64 (IntKind.i64.wrap (x:Int))).toNat=x:=by
  rw[IntKind.wrap_i64,BitVec.toNat_ofInt];simp;omega
 have h3:(BitVec.ofInt 64 (127:Int)).toNat=127:=by decide
 show IntKind.i64.wrap ((BitVec.ofInt 64 (IntKind.i64.wrap (x:Int)) &&& BitVec.ofInt 64 127).toNat:Int)=_
 rw[BitVec.toNat_and,h2,h3];have:x &&& 127=x%128:=Nat.and_two_pow_sub_one_eq_mod x 7;rw[this];exact ζA _ Ω
theorem JDA(x:Nat)(hx:x<18446744073709551616)(w:World):
  Calls prog 218 #[.int .u64 (x:Nat)] w λe w'=>e=.returned (.int .i64 (pc x:Nat))/\w=w':=by
 have HF:=YtC _ x rfl;obtain⟨y1,h1⟩:∃y,y=s1 8 x:=⟨_,rfl⟩;obtain⟨y2,h2⟩:∃y,y=s2 8 y1:=⟨_,rfl⟩;obtain⟨y3,h3⟩:∃y,y=s3 8 y2:=⟨_,rfl⟩;have ht:t 8 x=y3:=by rw[h3,h2,h1];rfl
 rw[ht]at HF;have K1:=hid (h1▸oc1 x hx);have K2:=hid (h2▸oc2 y1 (h1▸X6o x));have K3:=hid (h3▸oc3 y2 (h2▸ZAG y1));obtain⟨z1,g1⟩:∃z,z=(y3+y3/256)%18446744073709551616:=⟨_,rfl⟩;obtain⟨z2,g2⟩:∃z,z=(z1+z1/65536)%18446744073709551616:=⟨_,rfl⟩;obtain⟨z3,g3⟩:∃z,z=(z2+z2/4294967296)%18446744073709551616:=⟨_,rfl⟩;simp only[<-g1,<-g2,<-g3]at HF;have K4:=hid (g1▸oc4 y3 256 256 Ω);have K5:=hid (g2▸oc4 z1 65536 65536 Ω);have K6:=hid (g3▸oc4 z2 4294967296 4294967296 Ω);have K7:=hid (oc5 z3 Ω);clear h1 h2 h3 ht g1 g2 g3 hx;have X:=hid HF;clear HF;go_enter func218,ntmps218;go_upto_region 2 with(fail);rw[K1.o];go_upto_region 3 with(fail);rw[K2.o];go_upto_region 4 with(fail);rw[K3.o];go_upto_region 5 with(fail);rw[K4.o];go_upto_region 6 with(fail);rw[K5.o];go_upto_region 7 with(fail);rw[K6.o];go_wp2;go_ret;refine⟨ZzN ?_,rfl⟩;rw[<-X.o,<-K7.o]
def VRW(w:World):Prop:=∀i,i<64->w.cell? ⟨1,i,none⟩=some (.int .u8 (tab.getD i 0:Nat))
theorem VvC(x:Nat)(h0:x≠0)(hx:x<18446744073709551616):IntKind.u64.wrap (-(x:Int))=((18446744073709551616-x:Nat):Int):=by
 rw[ξF];omega
theorem JZD(x:Nat)(hx:x<18446744073709551616)(w:World)(ht:x≠0->VRW w):
  Calls prog 236 #[.int .u64 (x:Nat)] w λe w'=>e=.returned (.int .i64 (tz x:Nat))/\w=w':=by
 by_cases h0:x=0
 ·subst h0;clear ht hx;go_enter func236,ntmps236;go_wp2;go_ret;exact⟨ZzN (by rw[YYy];rfl),rfl⟩
 ·have hT:=ht h0;obtain⟨i1,i2⟩:=VnA hx h0;have hc:=hT _ i1;rw[i2]at hc;have hle:=ZtG x;have hb0:¬((x:Int)=0):=Ω
  obtain⟨nx,X⟩:∃n,n=18446744073709551616-x:=⟨_,rfl⟩;obtain⟨m,hm⟩:∃n,n=x &&& nx:=⟨_,rfl⟩;obtain⟨q,hq⟩:∃n,n=m*285870213051353865%18446744073709551616:=⟨_,rfl⟩;obtain⟨ix,Y⟩:∃n,n=q/288230376151711744:=⟨_,rfl⟩;have e:XaI x=ix:=by unfold XaI;rw[Y,hq,hm,X]
  have h7:IntKind.u64.wrap (-(x:Int))=(nx:Int):=by rw[X];exact VvC x h0 hx
  have h8:bits .and .u64 (x:Int) (nx:Int)=(m:Int):=by rw[hm];exact Jp7 x nx hx Ω
  have h9:IntKind.u64.wrap ((m:Int)*285870213051353865)=(q:Int):=by
   rw[hq,show (m:Int)*285870213051353865=((m*285870213051353865:Nat):Int)by omega,Xgm]
  have h10:(q:Int)/288230376151711744=(ix:Int):=Ω
  rw[e]at hc i1;generalize tz x=k at *
  clear hx ht hT X hm hq Y e h0 i2;go_enter func236,ntmps236;go_wp2;go_ret;exact⟨rfl,rfl⟩
theorem Xm9(s:ByteArray)(v:Nat)(h:v<s.size)(hs:s.data.toList.map (λc=>(c.toNat:Int))=(List.range 256).map (λi=>len i)):((s[v]'h).toNat:Int)=len v:=by
 have h1:(s.data.toList.map (λc=>(c.toNat:Int)))[v]?=some ((s[v]'h).toNat:Int):=by
  rw[ξZ,δ (show v<s.data.toList.length from h)];rfl
 have hl:s.data.toList.length=256:=by have:=congrArg List.length hs;simpa using this
 have hv:v<256:=by rw[<-hl];exact h
 rw[hs,ξZ,ξ4 hv]at h1;simpa using h1.symm
def XkC(x y:Nat)(n:Int)(k:Nat):Prop:=y<2 ^ k/\len x=n+len y/\0<=n/\n+k<=64
theorem VGE{x y:Nat}{n:Int}{k j:Nat}(h:XkC x y n k)(hk:k<=64)(hy:2 ^ j<=y)(hj2:k=2*j):XkC x (y/2 ^ j) (n+j) j:=by
 obtain⟨h1,h2,h3,h4⟩:=h;refine⟨?_,?_,?_,?_⟩
 ·refine(ζ4 (Nat.two_pow_pos j)).2 (ω h1 ?_);rw[<-Nat.pow_add];exact Nat.pow_le_pow_right (by decide) Ω
 ·rw[h2,Jm1 (ω h1 (Nat.pow_le_pow_right (by decide) hk)) hy];omega
 ·omega
 ·omega
theorem Vv0{x y:Nat}{n:Int}{k j:Nat}(h:XkC x y n k)(hj:j<=k)(hy:¬2 ^ j<=y):XkC x y n j:=by
 obtain⟨h1,h2,h3,h4⟩:=h;exact⟨by omega,h2,h3,by omega⟩
theorem Z4f(x:Nat)(hx:x<18446744073709551616)(w:World):
  Calls prog 240 #[.int .u64 (x:Nat)] w λe w'=>e=.returned (.int .i64 (len x))/\w=w':=by
 have X:XkC x x 0 64:=⟨hx,by omega,by omega,by omega⟩;clear hx;go_enter func240,ntmps240;go_upto_if 4 with(fail);go_cut [0,2]from 3 (λa b w'=>w'=w/\∃(y:Nat) (n:Int),XkC x y n 32/\a=.int .u64 y/\b=.int .i64 n)
 case first=>
  rcases γ x (2 ^ 32)with h|h
  ·have L:=Vv0 X (show 32<=64 by decide) Ω;have hd:decide ((4294967296:Int)<=(x:Int))=false:=by simp;omega
   clear h X;rw[hd];go_wp2
   go_meet
   case rel=>exact⟨rfl,x,0,L,rfl,rfl⟩
  ·have L:=VGE (j:=32) X (by decide) h (by rfl);have hd:decide ((4294967296:Int)<=(x:Int))=true:=by simp;omega
   clear h X;rw[hd];go_wp2
   go_meet
   case rel=>exact⟨rfl,_,_,L,by simp,by simp⟩
 case rest=>
  obtain⟨rfl,y,n,hy,rfl,rfl⟩:=hcut;go_upto_if 8 with(fail);go_cut [0,2]from 3 (λa b w'=>w'=wc/\∃(y:Nat) (n:Int),XkC x y n 16/\a=.int .u64 y/\b=.int .i64 n)
  case first=>
   rcases γ y (2 ^ 16)with h|h
   ·have L:=Vv0 hy (show 16<=32 by decide) Ω;have hd:decide ((65536:Int)<=(y:Int))=false:=by simp;omega
    clear h hy;rw[hd];go_wp2
    go_meet
    case rel=>exact⟨rfl,_,_,L,rfl,rfl⟩
   ·have L:=VGE (j:=16) hy (by decide) h (by rfl);have hd:decide ((65536:Int)<=(y:Int))=true:=by simp;omega
    have hb:=hy.2.2;clear h hy;rw[hd];go_wp2
    go_meet
    case rel=>exact⟨rfl,_,_,L,by simp,by simp⟩
  case rest=>
   obtain⟨rfl,z,n2,hz,rfl,rfl⟩:=hcut;go_upto_if 14 with(fail);go_cut [0,2]from 3 (λa b w'=>w'=wc/\∃(y:Nat) (n:Int),XkC x y n 8/\a=.int .u64 y/\b=.int .i64 n)
   case first=>
    rcases γ z (2 ^ 8)with h|h
    ·have L:=Vv0 hz (show 8<=16 by decide) Ω;have hd:decide ((256:Int)<=(z:Int))=false:=by simp;omega
     clear h hz;rw[hd];go_wp2
     go_meet
     case rel=>exact⟨rfl,_,_,L,rfl,rfl⟩
    ·have L:=VGE (j:=8) hz (by decide) h (by rfl);have hd:decide ((256:Int)<=(z:Int))=true:=by simp;omega
     have hb:=hz.2.2;clear h hz;rw[hd];go_wp2
     go_meet
     case rel=>exact⟨rfl,_,_,L,by simp,by simp⟩
   case rest=>
    obtain⟨rfl,v,n3,hv,rfl,rfl⟩:=hcut;have hb:=hv.2.2;have hv1:(v:Int)<256:=by have:=hv.1;omega
    go_wp2;go_ret;refine⟨ZzN ?_,rfl⟩;rw[Xm9 _ v _ (by decide +kernel)];have b:=Y6K v;rw[IntWalk.wrap64_in (len v) Ω,IntWalk.wrap64_in _ Ω];have:=hv.2.1;omega
theorem X9g(x y:Nat)(hx:x<18446744073709551616):x &&& y<18446744073709551616:=ξL ψB hx
theorem Jj6(x:Nat)(hx:x<18446744073709551616)(a b:Int)(w:World):
  Calls prog 186 #[.int .u64 (x:Nat),.int .i64 a,.int .i64 b] w λe w'=>e=.returned (.int .i64 (pc (x &&& XEJ a b):Nat))/\w=w':=by
 have K:=hid (Jp7 x (XEJ a b) hx (YPt a b));have hm:=hid (X9g x (XEJ a b) hx);clear hx;go_enter func186,ntmps186
 go_wp2_with(first
  | (go_at_call 217;refine(JOY _ _ _).mono ?_;rintro e w' ⟨rfl,rfl⟩;have K':=K.o)
  | (go_at_call 218;clear K';refine(JDA _ hm.o _).mono ?_;rintro e w' ⟨rfl,rfl⟩))
 go_ret;exact⟨rfl,rfl⟩
theorem QaB(x:Nat)(hx:x<18446744073709551616)(a:Int)(w:World)(ht:VRW w):
  Calls prog 226 #[.int .u64 (x:Nat),.int .i64 a] w λe w'=>e=.returned (.int .i64 (tz (x &&& XEJ a 64):Nat))/\w=w':=by
 have K:=hid (Jp7 x (XEJ a 64) hx (YPt a 64));have hm:=hid (X9g x (XEJ a 64) hx);have X:=hid ht;clear hx ht;go_enter func226,ntmps226
 go_wp2_with(first
  | (go_at_call 217;refine(JOY _ _ _).mono ?_;rintro e w' ⟨rfl,rfl⟩;have K':=K.o)
  | (go_at_call 236;clear K';refine(JZD _ hm.o _ (λ_=>X.o)).mono ?_;rintro e w' ⟨rfl,rfl⟩))
 go_ret;exact⟨rfl,rfl⟩
theorem Ydz(x:Nat)(hx:x<18446744073709551616)(b:Int)(w:World):
  Calls prog 235 #[.int .u64 (x:Nat),.int .i64 b] w λe w'=>e=.returned (.int .i64 (len (x &&& XEJ 0 b)-1))/\w=w':=by
 have K:=hid (Jp7 x (XEJ 0 b) hx (YPt 0 b));have hm:=hid (X9g x (XEJ 0 b) hx);have hl:=Y6K (x &&& XEJ 0 b);clear hx;go_enter func235,ntmps235
 go_wp2_with(first
  | (go_at_call 217;refine(JOY _ _ _).mono ?_;rintro e w' ⟨rfl,rfl⟩;have K':=K.o)
  | (go_at_call 240;clear K';refine(Z4f _ hm.o _).mono ?_;rintro e w' ⟨rfl,rfl⟩))
 go_ret;exact⟨rfl,rfl⟩
end
section
open Go.RowKit Word
def XuW(n:Int):Bool:=decide (0<n)&&(bits .and .i64 n (n-1)==0)
theorem VWY(n:Int)(hn:n<=9223372036854775807)(w:World):Calls prog 119 #[.int .i64 n] w λe w'=>e=.returned (.bool (XuW n))/\w=w':=by
 by_cases h:0<n
 ·have d1:decide (0<n)=true:=by simp[h]
  have e1:XuW n=(bits .and .i64 n (n-1)==0):=by unfold XuW;rw[d1];rfl
  rw[e1];generalize hb:bits .and .i64 n (n-1)=z;have HB:=hid hb;go_enter func119,ntmps119;go_wp2;go_ret;exact⟨rfl,rfl⟩
 ·have d1:decide (0<n)=false:=by simp;omega
  have e1:XuW n=false:=by unfold XuW;rw[d1];rfl
  rw[e1];go_enter func119,ntmps119;go_wp2;go_ret;exact⟨rfl,rfl⟩
def Y1d(n:Int):Bool:=[1,2,4,8,16,32,64,128,256,512,1024].contains n
theorem Vp3:∀m:Fin 1025,XuW (m.1:Int)=Y1d (m.1:Int):=by decide +kernel
theorem Quq{n:Int}(h:Y1d n=true):1<=n/\n<=1024:=by
 simp[Y1d]at h;omega
theorem XYi(n:Int):Y1d n=(XuW n&&decide (n<=1024)):=by
 by_cases h:0<=n/\n<=1024
 ·obtain⟨m,rfl⟩:∃m:Nat,n=m:=⟨n.toNat,by omega⟩;have:=Vp3 ⟨m,by omega⟩;simp only at this;rw[this,κ h.2,ξP]
 ·cases hb:Y1d n with
  | true=>have:=Quq hb;omega
  | false=>
   by_cases h2:n<=1024
   ·unfold XuW;rw[ψ Ω];rfl
   ·rw[ψ h2,ξ2]
end
section
open Go.ChangeShapes Go.WideShapes Go.ChangeAt Go.RowKit Word
theorem own:ownKnob prog.godebug=none:=by kernel_rfl
theorem Vh3:prog.globalNamed "math/bits.deBruijn64tab"=some 1:=by kernel_rfl
theorem ZrU:(prog.globals[1]?).map (·.type)=some 302:=by kernel_rfl
theorem YIX:prog.cellsOf 302=64:=by kernel_rfl
theorem QpH:prog.cellsOf 5=1:=by kernel_rfl
theorem Z6L:laidOutB prog=true:=by kernel_rfl
theorem Zgl{W:World}(h:laidMetH prog [("math/bits.deBruijn64tab",Rows.laid_math_bits_deBruijn64tab)] W):VRW W:=by
 have ht:Lib.TabIs prog W "math/bits.deBruijn64tab" .u8 (tab.map λx:Nat=>(x:Int)):=Lib.tabIs_of_head (rest:=[]) Vh3 ZrU underlying302 underlying5 QpH YIX h;intro i hi;have X:i<tab.length:=hi;rw[ht.cell Vh3 i (by rw[ξ7];exact X)];congr 2;simp[φ,X]
noncomputable def laidWorld (os:Os):World:=
 {World.holding prog os ⟨#[],#[],[]⟩with heap:=(World.holding prog os ⟨#[],#[],[]⟩).heap.modify 1 λ
   | .cells _ t frozen=>.cells (tab.map λx:Nat=>Value.int .u8 (x:Int)).toArray t frozen
   | o=>o}
section
variable {H:Type} {enc:TypeId × Value->H} {P:Program} {W W':World}
theorem YpW(hl:laidOutB P=true):∀{ts:List TypeId} {vs:List Value} {ds:List (DataW H)} {ps:List MemPlace},(∀t∈ts,P.readableRec t=true/\t<P.types.size) →
  DataW.TrodAll enc P W 0 (λ_=>true) true ts vs ds ps->Below W.heap.size W W'->(∀x∈ps,x.block<W.heap.size)->DataW.TrodAll enc P W' 0 (λb=>decide (b<W.heap.size)) true ts vs ds ps
 | [],[],[],_,_,h,_,_=>h
 | _ :: _,_ :: _,_ :: _,_,ht,⟨p,q,h1,h2,e⟩,hb,hp=>
  ⟨p,q,Below.trod hl (ht _ (ζH.2 (.inl rfl))).1 (ht _ (ζH.2 (.inl rfl))).2 h1 hb (λx hx=>hp x (by rw[e];exact ξh _ hx)),
   YpW hl (λt h=>ht t (ζH.2 (.inr h))) h2 hb (λx hx=>hp x (by rw[e];exact List.mem_append_right _ hx)),e⟩
end
theorem Zfn{H:Type}{enc:TypeId×Value->H}{f:Func}{s:ChangeSpec}{W W':World}{args:Array Value}{ds gs:List (DataW H)}{before:List MemPlace}
  (hW:DataW.Whole enc prog f.params.toList s.vars false W args.toList ds gs before) (hv:s.vars=[]) (hr:f.resultTypes=#[4]) (hp:∀t∈f.params.toList,prog.readableRec t=true/\t<prog.types.size)
  (hs:s.fn H (ds++gs)={results:=[.lit (.bool true)],args:=ds}) (hg:Gr W W'):s.post enc prog f false true false false W args (.bool true) W':=by
 have X:=hW.lt;have Y:=hW;obtain⟨p,q,hA,hV,rfl,_,_⟩:=hW;have hb:Below W.heap.size W W':=(hg.touch (λ_=>False)).below (π _) (λ_ _ h=>h);rw[hv]at hV
 obtain⟨rfl,rfl⟩:gs=[]/\q=[]:=by
  cases gs with
  | nil=>exact⟨rfl,hV⟩
  | cons g r=>exact absurd hV (by intro h;cases h)
 refine⟨ds,[],p++[],[],p,[],Y,?_,?_,?_,hb.frame _,λh=>by cases h⟩
 ·rw[hs,hr];exact trodAll_mk1 (shut_bool underlying4 true)
 ·rw[hs];exact YpW Z6L hp hA hb (λx hx=>X x (ξh _ hx))
 ·rw[hs,hv];rfl
end
section
open Go.RowKit Word
end
end Go.Proofs.YteihjlcmjecmfaaGreatDoor
