/- Lemmas. -/
import Derived.WalkKit
import Derived.BigQuiet
import Derived.Deep.Cut
import Derived.RangeFuncNested
import Derived.RangeFuncBound
import Derived.RangeFuncCalls
import Derived.RangeFuncLeaves
import Derived.Deep.RegionHeld3
import Derived.OrdersIn
import Derived.Deep.AppendLies
import Derived.Test.YtcihfnpokdbfpaaGreatDoorProg
import Derived.Test.YtcihfnpokdbfpaaGreatDoorCards
import Derived.Test.YtcihfnpokdbfpaaGreatDoorTie
import Derived.ProofKit
import Derived.OpenShut
import Derived.Deep.DeepHandedRow
import Derived.Deep.Slices
import Derived.Lib.SmallJoins
import Derived.Lib.LaidTab
import Derived.Deep.RegionWith
import Derived.WalkSpells
namespace Go.Proofs.YtcihfnpokdbfpaaGreatDoor
open _root_.Go.Proofs.Tryz
set_option maxHeartbeats 1600000
variable{a:Act}{K N:Act->World->Prop}{listed:Array Bool}{ops:Array Oper}{args lb:Array Value}{Q:Exit->Act->World->Prop}{F:Fence}{hi lo:Int}{R:List (Bool×Nat)}{r:List (List Nat×Nat)}{l:List Bool}{fin qs:List Nat}{xs:List Value}{B E b base bx fr gf i id j k n p q x y z:Nat}{f g:Nat->Bool}{m:Nat->List Bool}{c:Nat->Nat}{S T:Nat->Prop}{o oi:Oper}{row:Option Nat}{P:Program}{md:Region.Mode}{H α σ:Type}{v:Value}{W W' w w' w0:World}
abbrev iI(x:Int):Value:=.int .i64 x
abbrev uU(x:Int):Value:=.int .u64 x
abbrev pP(q:Nat):Value:=.pointer (some ⟨q,0,none⟩)
abbrev cQ(f:FuncId)(a:Array Value)(w:World)(v:Value):Prop:=Calls prog f a w λe w'=>e=.returned v/\w=w'
theorem Ω {p:Prop}(h:p:=by omega):p:=h
theorem ζ:type_of% @decide_eq_false:=decide_eq_false
theorem ξ:type_of% @And.intro:=And.intro
theorem ψ:type_of% @if_neg:=if_neg
theorem φ:type_of% @decide_eq_true:=decide_eq_true
theorem θ:type_of% @if_pos:=if_pos
theorem ϑ:type_of% @Nat.lt_of_lt_of_le:=Nat.lt_of_lt_of_le
theorem κ:type_of% @List.getD_eq_getElem?_getD:=List.getD_eq_getElem?_getD
theorem μ:type_of% @Nat.le_refl:=Nat.le_refl
theorem ν:type_of% @List.getElem?_cons_succ:=List.getElem?_cons_succ
theorem π:type_of% @World.size_alloc:=World.size_alloc
theorem τ:type_of% @List.getElem?_eq_getElem:=List.getElem?_eq_getElem
theorem υ:type_of% @List.getElem?_cons_zero:=List.getElem?_cons_zero
theorem χ:type_of% @List.getElem_mem:=List.getElem_mem
theorem δ:type_of% @Nat.lt_or_ge:=Nat.lt_or_ge
theorem γ:type_of% @callsIn_wide:=callsIn_wide
theorem β:type_of% @Int.toNat_natCast:=Int.toNat_natCast
theorem ω:type_of% @Nat.le_trans:=Nat.le_trans
theorem η:type_of% @List.setIfInBounds_toArray:=List.setIfInBounds_toArray
theorem ζa:type_of% @List.length_set:=List.length_set
theorem ζb:type_of% @wpQuiet_nil:=wpQuiet_nil
theorem ζc:type_of% @Nat.div_le_div_right:=Nat.div_le_div_right
theorem ζd:type_of% @Bool.and_eq_true:=Bool.and_eq_true
theorem ζe:type_of% @Nat.zero_le:=Nat.zero_le
theorem ζf:type_of% @List.set_cons_succ:=List.set_cons_succ
theorem ζg:type_of% @decide_eq_true_eq:=decide_eq_true_eq
theorem ζh:type_of% @results_none:=results_none
theorem ζi:type_of% @List.set_cons_zero:=List.set_cons_zero
theorem ζj:type_of% @Nat.mul_le_mul_right:=Nat.mul_le_mul_right
theorem ζk:type_of% @bodyPost_end:=bodyPost_end
theorem ζl:type_of% @beq_eq_false_iff_ne:=beq_eq_false_iff_ne
theorem ζm:type_of% @List.length_append:=List.length_append
theorem ζn:type_of% @Nat.div_mul_le_self:=Nat.div_mul_le_self
theorem ζo:type_of% @Nat.div_add_mod:=Nat.div_add_mod
theorem ζp:type_of% @IntWalk.i64_in:=IntWalk.i64_in
theorem ζq:type_of% @Array.getElem?_eq_some_iff:=Array.getElem?_eq_some_iff
theorem ζr:type_of% @World.putObj_heap_other:=World.putObj_heap_other
theorem ζs:type_of% @List.mem_append:=List.mem_append
theorem ζt:type_of% @List.getElem_of_mem:=List.getElem_of_mem
theorem ζu:type_of% @List.mem_cons_self:=List.mem_cons_self
theorem ζv:type_of% @List.cons_append:=List.cons_append
theorem ζw:type_of% @World.cell?_alloc_at:=World.cell?_alloc_at
theorem ζx:type_of% @NoPanic.normal:=NoPanic.normal
theorem ζy:type_of% @List.eq_nil_of_length_eq_zero:=List.eq_nil_of_length_eq_zero
theorem ζz:type_of% @List.getElem?_eq_none:=List.getElem?_eq_none
theorem ζA:type_of% @Nat.mul_comm:=Nat.mul_comm
theorem ζB:type_of% @List.mem_cons_of_mem:=List.mem_cons_of_mem
theorem ζC:type_of% @Nat.div_lt_iff_lt_mul:=Nat.div_lt_iff_lt_mul
theorem ζD:type_of% @List.length_cons:=List.length_cons
theorem ζE:type_of% @List.length_map:=List.length_map
theorem ζF:type_of% @Nat.eq_zero_or_pos:=Nat.eq_zero_or_pos
theorem ζG:type_of% @IntKind.wrap_u64:=IntKind.wrap_u64
theorem ζH:type_of% @bodyPost_ret:=bodyPost_ret
theorem ζI:type_of% @List.map_append:=List.map_append
theorem ζJ:type_of% @List.getElem_append_left:=List.getElem_append_left
theorem ζK:type_of% @List.take_succ_eq_append_getElem:=List.take_succ_eq_append_getElem
theorem ζL:type_of% @List.mem_or_eq_of_mem_set:=List.mem_or_eq_of_mem_set
theorem ζM:type_of% @World.cell?_alloc_new:=World.cell?_alloc_new
theorem ζN:type_of% @Nat.mod_lt:=Nat.mod_lt
theorem ζO:type_of% @List.mem_singleton:=List.mem_singleton
theorem ζP:type_of% @Nat.add_mul:=Nat.add_mul
theorem ζQ:type_of% @Array.replicate_zero:=Array.replicate_zero
theorem ζR:type_of% @Array.replicate_succ:=Array.replicate_succ
theorem ζS:type_of% @Nat.lt_trichotomy:=Nat.lt_trichotomy
theorem ζT:type_of% @Nat.le_add_right:=Nat.le_add_right
theorem ζU:type_of% @List.length_replicate:=List.length_replicate
theorem ζV:type_of% @Nat.div_le_self:=Nat.div_le_self
theorem ζW:type_of% @Bool.or_eq_true:=Bool.or_eq_true
theorem ζX:type_of% @List.getElem?_append_left:=List.getElem?_append_left
theorem ζY:type_of% @World.news_of_block:=World.news_of_block
theorem ζZ:type_of% @List.append_toArray:=List.append_toArray
theorem ζ0:type_of% @List.take_length:=List.take_length
theorem ζ1:type_of% @List.all_eq_true:=List.all_eq_true
theorem ζ2:type_of% @Int.natCast_ediv:=Int.natCast_ediv
theorem ζ3:type_of% @List.size_toArray:=List.size_toArray
theorem ζ4:type_of% @List.nil_append:=List.nil_append
theorem ζ5:type_of% @List.getElem?_append_right:=List.getElem?_append_right
theorem ζ6:type_of% @Nat.zero_add:=Nat.zero_add
theorem ζ7:type_of% @Nat.add_zero:=Nat.add_zero
theorem ζ8:type_of% @Nat.not_lt_zero:=Nat.not_lt_zero
theorem ζ9:type_of% @List.push_toArray:=List.push_toArray
theorem ξa:type_of% @Bool.and_eq_true_iff:=Bool.and_eq_true_iff
theorem ξb:type_of% @Nat.lt_irrefl:=Nat.lt_irrefl
theorem ξc:type_of% @List.length_take:=List.length_take
theorem ξd:type_of% @Nat.succ_mul:=Nat.succ_mul
theorem ξe:type_of% @List.take_of_length_le:=List.take_of_length_le
theorem ξf:type_of% @List.length_nil:=List.length_nil
theorem ξg:type_of% @List.eq_of_mem_replicate:=List.eq_of_mem_replicate
theorem ξh:type_of% @World.frozen?_setCell:=World.frozen?_setCell
theorem ξi:type_of% @Nat.le_div_iff_mul_le:=Nat.le_div_iff_mul_le
theorem ξj:type_of% @List.append_assoc:=List.append_assoc
theorem ξk:type_of% @beq_iff_eq:=beq_iff_eq
theorem ξl:type_of% @Nat.one_mul:=Nat.one_mul
theorem ξm:type_of% @Nat.eq_of_testBit_eq:=Nat.eq_of_testBit_eq
theorem ξn:type_of% @List.take_take:=List.take_take
theorem ξo:type_of% @List.pairwise_cons:=List.pairwise_cons
theorem ξp:type_of% @List.mem_range:=List.mem_range
theorem ξq:type_of% @List.mem_append_left:=List.mem_append_left
theorem ξr:type_of% @List.map_cons:=List.map_cons
theorem ξs:type_of% @Nat.not_lt_of_le:=Nat.not_lt_of_le
theorem ξt:type_of% @List.length_singleton:=List.length_singleton
theorem ξu:type_of% @World.cell?_setCell_same:=World.cell?_setCell_same
theorem ξv:type_of% @Nat.add_assoc:=Nat.add_assoc
theorem ξw:type_of% @List.mem_map:=List.mem_map
theorem ξx:type_of% @Nat.lt_of_le_of_lt:=Nat.lt_of_le_of_lt
theorem ξy:type_of% @decide_eq_decide:=decide_eq_decide
theorem ξz:type_of% @List.getElem?_replicate:=List.getElem?_replicate
theorem ξA:type_of% @List.ext_getElem:=List.ext_getElem
theorem ξB:type_of% @Int.natCast_emod:=Int.natCast_emod
theorem ξC:type_of% @List.mem_cons:=List.mem_cons
theorem ξD:type_of% @List.getElem?_map:=List.getElem?_map
theorem ξE:type_of% @List.take_succ_cons:=List.take_succ_cons
theorem ξF:type_of% @Nat.mul_one:=Nat.mul_one
theorem ξG:type_of% @World.cell?_setCell_other:=World.cell?_setCell_other
theorem ξH:type_of% @List.drop_eq_getElem_cons:=List.drop_eq_getElem_cons
theorem ξI:type_of% @Nat.add_comm:=Nat.add_comm
theorem ξJ:type_of% @Bool.or_false:=Bool.or_false
theorem ξK:type_of% @List.take_append_of_le_length:=List.take_append_of_le_length
theorem ξL:type_of% @decide_eq_false_iff_not:=decide_eq_false_iff_not
theorem ξM:type_of% @Decidable.not_not:=Decidable.not_not
theorem ξN:type_of% @World.putObj_heap_same:=World.putObj_heap_same
theorem ξO:type_of% @Array.getD_eq_getD_getElem?:=Array.getD_eq_getD_getElem?
theorem ξP:type_of% @Nat.min_eq_right:=Nat.min_eq_right
theorem ξQ:type_of% @Nat.le_of_not_lt:=Nat.le_of_not_lt
theorem ξR:type_of% @Nat.mul_div_cancel:=Nat.mul_div_cancel
theorem ξS:type_of% @List.getElem?_drop:=List.getElem?_drop
theorem ξT:type_of% @beq_false_of_ne:=beq_false_of_ne
theorem ξU:type_of% @World.alloc_heap_new:=World.alloc_heap_new
theorem ξV:type_of% @Nat.le_of_lt:=Nat.le_of_lt
theorem ξW:type_of% @List.mem_of_mem_take:=List.mem_of_mem_take
theorem ξX:type_of% @List.map_set:=List.map_set
theorem ξY:type_of% @IntWalk.wrap64_in:=IntWalk.wrap64_in
theorem ξZ:type_of% @Bool.or_eq_false_iff:=Bool.or_eq_false_iff
theorem ξ0:type_of% @Array.setIfInBounds_comm:=Array.setIfInBounds_comm
theorem ξ1:type_of% @List.map_congr_left:=List.map_congr_left
theorem ξ2:type_of% @Int.toNat_of_nonneg:=Int.toNat_of_nonneg
theorem ξ3:type_of% @Nat.lt_succ_self:=Nat.lt_succ_self
theorem ξ4:type_of% @Nat.add_sub_cancel_left:=Nat.add_sub_cancel_left
theorem ξ5:type_of% @Nat.zero_mul:=Nat.zero_mul
theorem ξ6:type_of% @Nat.add_sub_cancel:=Nat.add_sub_cancel
theorem ξ7:type_of% @List.getElem?_take:=List.getElem?_take
theorem ξ8:type_of% @Nat.min_eq_left:=Nat.min_eq_left
theorem ξ9:type_of% @List.dropLast_concat_getLast:=List.dropLast_concat_getLast
theorem ψa:type_of% @Int.natCast_mul:=Int.natCast_mul
theorem ψb:type_of% @List.sum_cons:=List.sum_cons
theorem ψc:type_of% @List.nodup_append:=List.nodup_append
theorem ψd:type_of% @Nat.div_eq_of_lt:=Nat.div_eq_of_lt
theorem ψe:type_of% @List.getElem_append_right:=List.getElem_append_right
theorem ψf:type_of% @List.Pairwise.imp_of_mem:=List.Pairwise.imp_of_mem
theorem ψg:type_of% @Bool.true_and:=Bool.true_and
theorem ψh:type_of% @Option.map_some:=Option.map_some
theorem ψi:type_of% @Int.natCast_add:=Int.natCast_add
theorem ψj:type_of% @Bool.eq_iff_iff:=Bool.eq_iff_iff
theorem ψk:type_of% @World.frozen?_alloc_new:=World.frozen?_alloc_new
theorem ψl:type_of% @Nat.le_mul_of_pos_right:=Nat.le_mul_of_pos_right
theorem ψm:type_of% @List.nodup_nil:=List.nodup_nil
theorem ψn:type_of% @List.length_filter_eq_length_iff:=List.length_filter_eq_length_iff
theorem ψo:type_of% @List.drop_eq_nil_of_le:=List.drop_eq_nil_of_le
theorem ψp:type_of% @List.take_append_drop:=List.take_append_drop
theorem ψq:type_of% @Option.getD_some:=Option.getD_some
theorem ψr:type_of% @Nat.mod_eq_of_lt:=Nat.mod_eq_of_lt
theorem ψs:type_of% @Nat.and_le_right:=Nat.and_le_right
theorem ψt:type_of% @List.length_drop:=List.length_drop
theorem ψu:type_of% @List.any_eq_true:=List.any_eq_true
theorem ψv:type_of% @Nat.mul_assoc:=Nat.mul_assoc
theorem ψw:type_of% @Bool.and_true:=Bool.and_true
theorem ψx:type_of% @Nat.mul_add:=Nat.mul_add
theorem ψy:type_of% @Option.map_none:=Option.map_none
theorem ψz:type_of% @List.mem_filter:=List.mem_filter
theorem ψA:type_of% @Nat.mul_le_mul_left:=Nat.mul_le_mul_left
theorem ψB:type_of% @Int.natCast_nonneg:=Int.natCast_nonneg
theorem ψC:type_of% @List.mem_take_iff_getElem:=List.mem_take_iff_getElem
theorem ψD:type_of% @List.pairwise_map:=List.pairwise_map
theorem ψE:type_of% @List.getElem?_set:=List.getElem?_set
theorem ψF:type_of% @Int.emod_eq_of_lt:=Int.emod_eq_of_lt
theorem ψG:type_of% @List.getElem?_take_of_lt:=List.getElem?_take_of_lt
theorem ψH:type_of% @Nat.div_div_eq_div_mul:=Nat.div_div_eq_div_mul
theorem ψI:type_of% @List.not_of_lt_findIdx:=List.not_of_lt_findIdx
theorem ψJ:type_of% @List.getElem_cons_zero:=List.getElem_cons_zero
theorem ψK:type_of% @List.getElem_cons_succ:=List.getElem_cons_succ
theorem ψL:type_of% @Array.getElem?_eq_none:=Array.getElem?_eq_none
theorem ψM:type_of% @Nat.mul_add_div:=Nat.mul_add_div
theorem ψN:type_of% @Nat.and_le_left:=Nat.and_le_left
theorem ψO:type_of% @List.range_succ:=List.range_succ
theorem ψP:type_of% @List.append_nil:=List.append_nil
theorem ψQ:type_of% @List.set_append_right:=List.set_append_right
theorem ψR:type_of% @Array.mem_of_getElem?:=Array.mem_of_getElem?
theorem ψS:type_of% @World.cell?_alloc_lt:=World.cell?_alloc_lt
theorem ψT:type_of% @Nat.mul_le_mul:=Nat.mul_le_mul
theorem ψU:type_of% @List.take_zero:=List.take_zero
theorem ψV:type_of% @Int.le_refl:=Int.le_refl
theorem ψW:type_of% @Bool.and_false:=Bool.and_false
set_option maxRecDepth 100000
open Go.RowKit
structure Hid(p:Prop):Prop where
 o:p
theorem ε{α:Type}(x:α):∃y,y=x:=⟨x,rfl⟩
theorem Qa{P:Program}{f:FuncId}{a:Array Value}{w:World}{v:Ending}{Q:World->Prop}{R:Ending->World->Prop}(h:Calls P f a w λe w'=>e=v/\Q w')(k:∀w',Q w'->R v w'):Calls P f a w R:=h.mono λ_ w' h=>h.1▸k w' h.2
theorem Qb{P:Program}{f:FuncId}{a:Array Value}{w:World}{v:Ending}{Q:World->Prop}{R:Ending->World->Prop}(h:Calls P f a w λe w'=>e=v/\Q w')(k:∀w',Hid (Q w')->R v w'):Calls P f a w R:=h.mono λ_ w' h=>h.1▸k w' ⟨h.2⟩
theorem ι{p:Prop}(h:p):Hid p:=⟨h⟩
def grow(w:World)(xs:Array Obj)(n:Nat):World:={w with heap:=w.heap++xs,drawn:=n}
theorem XQv(w:World)(xs:Array Obj)(n k:Nat)(h:k<w.heap.size):(grow w xs n).heap[k]?=w.heap[k]?:=by
 show (w.heap++xs)[k]?=_
 grind
theorem QG6(w:World)(xs:Array Obj)(n:Nat):(grow w xs n).heap.size=w.heap.size+xs.size:=by
 show (w.heap++xs).size=_;simp
theorem JyW(w:World)(xs ys:Array Obj)(n m:Nat):grow (grow w xs n) ys m=grow w (xs++ys) m:=by
 simp[grow,Array.append_assoc]
def Gr(w W:World):Prop:=∃xs n,W=grow w xs n
theorem JC8(w:World):grow w #[] w.drawn=w:=by cases w;simp[grow]
theorem Gr.refl(w:World):Gr w w:=⟨#[],w.drawn,(JC8 w).symm⟩
theorem Gr.trans{a b c:World}(h:Gr a b)(k:Gr b c):Gr a c:=by
 obtain⟨xs,n,rfl⟩:=h;obtain⟨ys,m,rfl⟩:=k;exact⟨xs++ys,m,JyW a xs ys n m⟩
theorem Gr.drewN(h:Gr w W)(n:Nat):Gr w (W.drewN n):=h.trans ⟨#[],W.drawn+n,by simp[Go.Proofs.YtcihfnpokdbfpaaGreatDoor.grow,World.drewN]⟩
theorem Gr.drew(h:Gr w W):Gr w W.drew:=h.trans ⟨#[],W.drawn+1,by rfl⟩
theorem Gr.alloc(h:Gr w W)(o:Obj):Gr w (W.alloc o):=h.trans ⟨#[o],W.drawn,by rfl⟩
theorem Gr.size(h:Gr w W):w.heap.size<=W.heap.size:=by obtain⟨xs,n,rfl⟩:=h;rw[QG6];omega
theorem Gr.block(h:Gr w W)(hk:k<w.heap.size):W.heap[k]?=w.heap[k]?:=by obtain⟨xs,n,rfl⟩:=h;exact XQv w xs n k hk
theorem Gr.cell(h:Gr w W)(hb:b<w.heap.size)(o:Nat):W.cell? ⟨b,o,none⟩=w.cell? ⟨b,o,none⟩:=World.cell?_of_block (w:=w) (h.block hb)
theorem Gr.frozen(h:Gr w W)(hb:b<w.heap.size)(o:Nat):W.frozen? ⟨b,o,none⟩=w.frozen? ⟨b,o,none⟩:=World.frozen?_of_block (w:=w) (h.block hb)
structure AB(S:Nat->Prop)(w w':World):Prop where
 os:w'.os=w.os
 tape:w'.tape=w.tape
 output:w'.output=w.output
 size:w.heap.size<=w'.heap.size
 block:∀k,k<w.heap.size->¬S k->w'.heap[k]?=w.heap[k]?
theorem AB.refl(S:Nat->Prop)(w:World):AB S w w:=⟨rfl,rfl,rfl,μ _,λ_ _ _=>rfl⟩
theorem Gr.touch(h:Gr w W)(S:Nat->Prop):AB S w W:=by
 refine⟨?_,?_,?_,h.size,λk hk _=>h.block hk⟩ <;> (obtain⟨xs,n,rfl⟩:=h;rfl)
theorem AB.mono(h:AB S w w')(hs:∀k,k<w.heap.size->S k->T k):AB T w w':=
 ⟨h.os,h.tape,h.output,h.size,λk hk hn=>h.block k hk (λhS=>hn (hs k hk hS))⟩
theorem AB.trans{a b c:World}(h:AB S a b)(k:AB S b c):AB S a c:=
 ⟨k.os.trans h.os,k.tape.trans h.tape,k.output.trans h.output,ω h.size k.size,λi hi hn=>(k.block i (ϑ hi h.size) hn).trans (h.block i hi hn)⟩
theorem AB.trans'{a b c:World}(h:AB S a b)(k:AB T b c)(hT:∀i,i<a.heap.size->T i->S i):AB S a c:=
 ⟨k.os.trans h.os,k.tape.trans h.tape,k.output.trans h.output,ω h.size k.size,λi hi hn=>(k.block i (ϑ hi h.size) (λht=>hn (hT i hi ht))).trans (h.block i hi hn)⟩
theorem AB.cell(h:AB S w w')(hb:b<w.heap.size)(hS:¬S b)(o:Nat):w'.cell? ⟨b,o,none⟩=w.cell? ⟨b,o,none⟩:=World.cell?_of_block (w:=w) (h.block b hb hS)
theorem AB.frozen(h:AB S w w')(hb:b<w.heap.size)(hS:¬S b)(o:Nat):w'.frozen? ⟨b,o,none⟩=w.frozen? ⟨b,o,none⟩:=World.frozen?_of_block (w:=w) (h.block b hb hS)
theorem AB.setCell(h:AB S w w'){a:Addr}(ha:a.block<w.heap.size->S a.block)(v:Value):AB S w (w'.setCell a v):=by
 refine h.trans' (T:=λk=>k=a.block) ⟨rfl,rfl,rfl,by simp_all,λk _ hn=>Below.heap_setCell _ _ _ _ hn⟩ ?_
 grind
theorem AB.alloc(h:AB S w w')(o:Obj):AB S w (w'.alloc o):=h.trans (((Gr.refl w').alloc o).touch S)
theorem AB.drew(h:AB S w w'):AB S w w'.drew:=h.trans (((Gr.refl w').drew).touch S)
theorem AB.drewN(h:AB S w w')(n:Nat):AB S w (w'.drewN n):=h.trans (((Gr.refl w').drewN n).touch S)
theorem AB.below(h:AB S w w')(hB:B<=w.heap.size)(hS:∀k,k<B->¬S k):Below B w w':=
 ⟨h.os,h.tape,h.output,h.size,λk hk=>h.block k Ω (hS k hk)⟩
theorem AB.gr(h:AB (λ_=>False) w w'):Gr w w':=by
 refine⟨w'.heap.extract w.heap.size w'.heap.size,w'.drawn,?_⟩
 have hh:w'.heap=w.heap++w'.heap.extract w.heap.size w'.heap.size:=by
  have hs:=h.size;apply Array.ext_getElem?;intro i;rcases δ i w.heap.size with hi|hi
  ·rw[h.block i hi (λh=>h),Array.getElem?_append_left hi]
  grind
 obtain⟨h1,h2,h3,_,_⟩:=h;cases w;cases w';congr 1
def BB(P:Program)(f:FuncId)(args:Array Value)(w:World)(v:Value):Prop:=Calls P f args w λe w'=>e=.returned v/\Gr w w'
theorem Y9c(P:Program)(k:IntKind)(x y:Int)(w:World):(Builtin.min2 (.int k x) (.int k y)).run P w=.ok (.int k (min x y)) w:=by
 show Result.ok (Value.int k (if y<x then y else x)) w=_
 grind
theorem YQd(P:Program)(k:IntKind)(x y:Int)(w:World):(Builtin.max2 (.int k x) (.int k y)).run P w=.ok (.int k (max x y)) w:=by
 show Result.ok (Value.int k (if x<y then y else x)) w=_
 grind
structure QK where
 xs:Array Obj
 n:Nat
 deriving Inhabited
theorem JX{l:List Oper}(hm:P.follows .mixedOrders=true)(hB:Region.lexB .any l.toArray=true)
  (h:wpQuiet P l.toArray (λw'=>∃p:QK,w'=grow w p.xs p.n) (λa'=>∀w',(∃p:QK,w'=grow w p.xs p.n)->Q .normal a' w') l a):(Code.region id l.toArray true).wp P Q a w:=
 wp_region_quiet (C:=λw'=>∃p:QK,w'=grow w p.xs p.n) hm hB ⟨⟨#[],w.drawn+1⟩,by rfl⟩ (by exact h)
theorem A6{a:Addr}(h:w.cell? a=some v):a.block<w.heap.size:=by
 unfold World.cell? at h
 grind
theorem grown(w:World)(xs:Array Obj)(n:Nat):Gr w (grow w xs n):=⟨xs,n,rfl⟩
theorem BB.grown{f:FuncId}{xs:Array Obj}(h:BB P f args (grow w xs n) v):Calls P f args (grow w xs n) λe w''=>e=.returned v/\∃p:QK,w''=Go.Proofs.YtcihfnpokdbfpaaGreatDoor.grow w p.xs p.n:=
 h.mono λ_ _ ⟨he,ys,m,hw⟩=>⟨he,⟨xs++ys,m⟩,by rw[hw,JyW]⟩
theorem BB.grown_same{f:FuncId}{xs:Array Obj}(h:Calls P f args (grow w xs n) λe w'=>e=.returned v/\grow w xs n=w'):Calls P f args (grow w xs n) λe w''=>e=.returned v/\∃p:QK,w''=Go.Proofs.YtcihfnpokdbfpaaGreatDoor.grow w p.xs p.n:=
 h.mono λ_ _ ⟨he,hw⟩=>⟨he,⟨xs,n⟩,hw.symm⟩
def OQ(F:Fence)(n:Nat)(P:Program)(g:Nat)(lb:Array Value)(encs:α->Array Value)(Inv:σ->World->Prop)(gives:σ->α->Prop)(next:σ->α->σ->Prop)(fin:σ->Prop)(s0:σ)(w:World):Prop:=
 ∀(l:Nat) (J:σ->World->Prop) (Jx:World->Prop) (W:World),Gr w W->(∀s A B,J s A->Gr A B->J s B)->(∀A B,Jx A->Gr A B->Jx B)->(∀s A,J s A->Inv s A) →
  (∀s x W1,J s W1->gives s x->YieldAt F (n-1) P l (encs x) W1 λe W'=>(e=.returned (.bool true)/\∃s',next s x s'/\J s' W')\/(e=.returned (.bool false)/\Jx W')) →
  J s0 W->CallsIn F n P g (#[.func (.yield l) #[] #[]]++lb) W λe W'=>(∃v,e=.returned v)/\((∃s,fin s/\J s W')\/Jx W')
def YMR(B:Nat)(I:σ->World->Prop)(Ix:Code->World->Prop)(next:σ->α->σ->Prop)(s:σ)(x:α)(W:World):Exit->Act->World->Prop
 | .normal,_,W'=>AB (λk=>k<B) W W'/\∃s',next s x s'/\I s' W'
 | .ret,_,W'=>AB (λk=>k<B) W W'/\Ix .ret W'
 | .exit id,_,W'=>AB (λk=>k<B) W W'/\Ix (.exit id) W'
 | .goto t,_,W'=>AB (λk=>k<B) W W'/\Ix (.goto t) W'
 | _,_,_=>False
theorem DW(W:World)(l:Nat)(o:Obj)(h:B<=l):AB (λk=>B<=k) W (W.putObj l o):=
 ⟨rfl,rfl,rfl,by simp,λk _ hn=>ζr (λe=>hn Ω)⟩
theorem Zu0{g:Operand}{ps:Array Tmp}{assign body:Code}
  (hro:F.round=none) (h1:1<=n)   (hg:a.eval g=.func (.func gf) #[] lb) (hFg:F.fn gf) (eg:∀args w,(callFunc gf args).run P w=.ok (.enter gf args) w)
  {encs:α->Array Value} {Inv:σ->World->Prop} {gives:σ->α->Prop} {next:σ->α->σ->Prop} {fin:σ->Prop} {s0:σ} (hseq:OQ F (n-1) P gf lb encs Inv gives next fin s0 w)
  (hps:∀x,(encs x).size=ps.size)
  (I:σ->World->Prop) (Ix:Code->World->Prop) (hI:∀s A B,I s A->AB (λk=>w.heap.size<=k) A B->I s B) (hIx:∀c A B,Ix c A->AB (λk=>w.heap.size<=k) A B->Ix c B)
  (hInv:∀s A,I s A->Inv s A) (h0:I s0 w)
  (hround:∀(l:Nat) (s:σ) (x:α) (W:World),w.heap.size+2<=W.heap.size->I s W->gives s x →
   assign.wpIn (F.inRound l) (n-1-1) P (Exit.then (λa' Wa=>Gr W Wa/\∀W2,AB (λk=>k=w.heap.size+1) Wa W2->I s W2->body.wpIn (F.inRound l) (n-1-1) P (YMR w.heap.size I Ix next s x W2) a' W2) (λ_ _ _=>False))
    {tmps:=(ps.zip (encs x)).foldl (λt (p,v)=>t.setIfInBounds p v) a.tmps,defers:=[]} W)
  (hdone:∀(D:Nat) (s:σ) (W:World),w.heap.size<=D->fin s->I s W->W.heap[D]?=some (.deferred (some []))->Q .normal {a with defers:={target:=.collected D,args:=#[]} :: a.defers} W)
  (hstop:∀(D:Nat) (c:Code) (W:World),w.heap.size<=D->Ix c W->W.heap[D]?=some (.deferred (some []))->c.wpIn F n P Q {a with defers:={target:=.collected D,args:=#[]} :: a.defers} W):
  (Code.rangeFunc g ps assign body).wpIn F n P Q a w:=by
 refine wpIn_rangeFunc ?_;intro fn Xg;rw[hro];obtain⟨Y,Z⟩:=ε (λst pe=>{state:=st,pending:=pe,fn,tmps:=a.tmps,params:=ps,assign,body,defers:=w.heap.size}:LoopState->Option Code->Loop);obtain⟨W1,O⟩:∃W1,(w.alloc (.deferred (some []))).alloc (.loop (Y .ready none))=W1:=⟨_,rfl⟩
 have Xe:W1.heap[w.heap.size+1]?=some (.loop (Y .ready none)):=by
  rw[<-O];have:=ξU (w.alloc (.deferred (some []))) (.loop (Y .ready none));rwa [π]at this
 have Xh:W1.heap[w.heap.size]?=some (.deferred (some [])):=by
  rw[<-O];exact(Below.heap_alloc _ _ _ (by simp)).trans (ξU w _)
 have Xc:Gr w W1:=by rw[<-O];exact((Gr.refl w).alloc _).alloc _
 have tt:∀{A B:World},Gr A B->AB (λk=>w.heap.size<=k) A B:=λh=>h.touch _;have X:∀{A:World} {k:Nat} {o:Obj},A.heap[k]?=some o->k<A.heap.size:=λh=>(ζq.1 h).1
 refine⟨w.heap.size+1,[{target:=.collected w.heap.size,args:=#[]}],W1,{target:=.fn (.func gf) lb,args:=#[.func (.yield (w.heap.size+1)) #[] #[]]},W1,gf,
  #[.func (.yield (w.heap.size + 1)) #[] #[]] ++ lb, W1, ?_, ?_, ?_, ?_, λ_ => h1, ?_⟩
 ·rw[<-O,Z];exact run_enterLoop_outer _ _ _ _ _
 ·simp only[resolve,hg];simp[go_sem]
 ·intro f' Xb;simp[Target.leads]at Xb;subst Xb;exact hFg
 ·simp[invoke,go_sem,eg]
 ·refine(hseq (w.heap.size+1)
   (λs W=>I s W/\W.heap[w.heap.size+1]?=some (.loop (Y .ready none))/\W.heap[w.heap.size]?=some (.deferred (some [])))
   (λW=>∃c,Ix c W/\W.heap[w.heap.size+1]?=some (.loop (Y .done (some c)))/\W.heap[w.heap.size]?=some (.deferred (some [])))
   W1 Xc
   (λs A B hs hg'=>⟨hI s A B hs.1 (tt hg'),(hg'.block (X hs.2.1)).trans hs.2.1,(hg'.block (X hs.2.2)).trans hs.2.2⟩)
   (λA B hs hg'=>by
    obtain⟨c,hc,hl,hk⟩:=hs
    exact⟨c,hIx c A B hc (tt hg'),(hg'.block (X hl)).trans hl,(hg'.block (X hk)).trans hk⟩)
   (λs A hs=>hInv s A hs.1) ?_ ⟨hI _ _ _ h0 (tt Xc),Xe,Xh⟩).mono ?_
  ·rintro s x W ⟨hi,hl,hk⟩ Xi;have L:w.heap.size+1<W.heap.size:=X hl;have hy:=run_yield (P:=P) (args:=encs x) hl (by rw[Z];exact hps x);rw[Z]at hy;refine⟨fn,_,assign,body,hy,roundIn_of_wpIn Xg (wpIn_mono (hround _ s x W Ω hi Xi) ?_)⟩;rintro e a' Wa hp;cases e with
   | normal=>?_
   | _=>exact False.elim hp
   obtain⟨E,N⟩:=hp
   replace hl:=(E.block L).trans hl
   replace hk:=(E.block Ω).trans hk
   replace L:=X hl
   replace hi:=hI _ _ _ hi (tt E)
   clear hy E;revert N;generalize W=W0;intro N;obtain⟨W,rfl⟩:=ε Wa;refine⟨_,run_beginRound hl (by rw[Z]),?_⟩;have Xa:(W.putObj (w.heap.size+1) (.loop {Y .ready none with state:=.busy})).heap[w.heap.size+1]?=some (.loop {Y .ready none with state:=.busy}):=ξN L;have G:(W.putObj (w.heap.size+1) (.loop {Y .ready none with state:=.busy})).heap[w.heap.size]?=some (.deferred (some [])):=(ζr Ω).trans hk;refine wpIn_mono (N _ ⟨rfl,rfl,rfl,by simp,λk _ hn=>ζr hn⟩ (hI _ _ _ hi (DW W _ _ Ω))) ?_
   have fin:∀(jump:Option Code) (W3:World),AB (λk=>k<w.heap.size) (W.putObj (w.heap.size+1) (.loop {Y .ready none with state:=.busy})) W3 →
     (Instr.endRound (w.heap.size+1) jump).run P W3=.ok (.bool jump.isNone) (W3.putObj (w.heap.size+1) (.loop (Y (if jump.isNone then .ready else .done) jump))) ∧
     (W3.putObj (w.heap.size+1) (.loop (Y (if jump.isNone then .ready else .done) jump))).heap[w.heap.size+1]?=some (.loop (Y (if jump.isNone then .ready else .done) jump)) ∧
     (W3.putObj (w.heap.size+1) (.loop (Y (if jump.isNone then .ready else .done) jump))).heap[w.heap.size]?=some (.deferred (some [])):=λjump W3 J=>by
    have Xd:=(J.block _ (X Xa) Ω).trans Xa;have:=run_endRound (P:=P) jump Xd;rw[Z]at this⊢;exact⟨this,ξN (X Xd),(ζr Ω).trans ((J.block _ (X G) Ω).trans G)⟩
   rintro e a3 W3 hp;cases e with
   | normal=>
    obtain⟨J,s',Xf,M⟩:=hp;obtain⟨hr,U,V⟩:=fin none W3 J;exact⟨_,_,hr,.inl ⟨rfl,s',Xf,hI _ _ _ M (DW W3 _ _ Ω),U,V⟩⟩
   | ret=>
    obtain⟨J,M⟩:=hp;obtain⟨hr,U,V⟩:=fin (some .ret) W3 J;exact⟨_,_,hr,.inr ⟨rfl,.ret,hIx _ _ _ M (DW W3 _ _ Ω),U,V⟩⟩
   | exit id=>
    obtain⟨J,M⟩:=hp;obtain⟨hr,U,V⟩:=fin (some (.exit id)) W3 J;exact⟨_,_,hr,.inr ⟨rfl,.exit id,hIx _ _ _ M (DW W3 _ _ Ω),U,V⟩⟩
   | goto t=>
    obtain⟨J,M⟩:=hp;obtain⟨hr,U,V⟩:=fin (some (.goto t)) W3 J;exact⟨_,_,hr,.inr ⟨rfl,.goto t,hIx _ _ _ M (DW W3 _ _ Ω),U,V⟩⟩
   | panic ch=>exact hp.elim
   | outgrown=>exact hp.elim
  ·rintro e W2 ⟨⟨v,rfl⟩,(⟨s,hS,hi,hl,hk⟩|⟨c,hi,hl,hk⟩)⟩
   ·exact⟨none,_,by have:=run_endLoop (P:=P) hl (by rw[Z];simp);rw[Z]at this;exact this,hdone _ s _ (μ _) hS (hI _ _ _ hi (DW W2 _ _ Ω)) ((ζr Ω).trans hk)⟩
   ·exact⟨some c,_,by have:=run_endLoop (P:=P) hl (by rw[Z];simp);rw[Z]at this;exact this,hstop _ c _ (μ _) (hIx _ _ _ hi (DW W2 _ _ Ω)) ((ζr Ω).trans hk)⟩
def X2(F:Fence)(n:Nat)(P:Program)(g:Nat)(lb:Array Value)(encs:α->Array Value)(Inv:σ->World->Prop)(gives:σ->α->Prop)(next:σ->α->σ->Prop)(fin:σ->Prop)(s0:σ)(w:World):Prop:=
 ∀(l:Nat) (J:σ->World->Prop) (Jx:World->Prop) (W:World),Gr w W->(∀s A B,J s A->AB (λk=>W.heap.size<=k) A B->J s B)->(∀A B,Jx A->AB (λk=>W.heap.size<=k) A B->Jx B)->(∀s A,J s A->Inv s A) →
  (∀s x W1,J s W1->W.heap.size<=W1.heap.size->gives s x->YieldAt F (n-1) P l (encs x) W1 λe W'=>((e=.returned (.bool true)/\∃s',next s x s'/\J s' W')\/(e=.returned (.bool false)/\Jx W'))/\AB (λk=>k<W.heap.size) W1 W') →
  J s0 W->CallsIn F n P g (#[.func (.yield l) #[] #[]]++lb) W λe W'=>(∃v,e=.returned v)/\((∃s,fin s/\J s W')\/Jx W')
theorem EJ(W:World)(l:Nat)(o:Obj):AB (λk=>k=l) W (W.putObj l o):=
 ⟨rfl,rfl,rfl,by simp,λ_ _ hn=>ζr hn⟩
theorem OQ.toT{g:Nat}{encs:α->Array Value}{Inv:σ->World->Prop}{gives:σ->α->Prop}{next:σ->α->σ->Prop}{fin:σ->Prop}{s0:σ}(h:OQ F n P g lb encs Inv gives next fin s0 w):X2 F n P g lb encs Inv gives next fin s0 w:=by
 intro l J Jx W hg hJ Y hI hY h0;refine h l (λs A=>J s A/\W.heap.size<=A.heap.size) Jx W hg (λs A B hs hAB=>⟨hJ s A B hs.1 (hAB.touch _),ω hs.2 hAB.size⟩) (λA B hs hAB=>Y A B hs (hAB.touch _)) (λs A hs=>hI s A hs.1) ?_ ⟨h0,μ _⟩ |>.mono ?_
 ·rintro s x W1 ⟨hs,X⟩ hx;refine(hY s x W1 hs X hx).mono ?_;rintro e W' ⟨⟨he,s',hn,Z⟩|⟨he,hx'⟩,ht⟩
  ·exact .inl ⟨he,s',hn,Z,ω X ht.size⟩
  simp_all
 grind
theorem VK{g:Operand}{ps:Array Tmp}{assign body:Code}
  (hro:F.round=none) (h1:1<=n)   (hg:a.eval g=.func (.func gf) #[] lb) (hFg:F.fn gf) (eg:∀args w,(callFunc gf args).run P w=.ok (.enter gf args) w)
  {encs:α->Array Value} {Inv:σ->World->Prop} {gives:σ->α->Prop} {next:σ->α->σ->Prop} {fin:σ->Prop} {s0:σ} (hseq:X2 F (n-1) P gf lb encs Inv gives next fin s0 w)
  (hps:∀x,(encs x).size=ps.size)
  (I:σ->World->Prop) (Ix:Code->World->Prop) (hI:∀s A B,I s A->AB (λk=>w.heap.size<=k) A B->I s B) (hIx:∀c A B,Ix c A->AB (λk=>w.heap.size<=k) A B->Ix c B)
  (hInv:∀s A,I s A->Inv s A) (h0:I s0 w)
  (hround:∀(l:Nat) (s:σ) (x:α) (W:World),w.heap.size+2<=W.heap.size->I s W->gives s x →
   assign.wpIn (F.inRound l) (n-1-1) P (Exit.then (λa' Wa=>Gr W Wa/\∀W2,AB (λk=>k=w.heap.size+1) Wa W2->I s W2->body.wpIn (F.inRound l) (n-1-1) P (YMR w.heap.size I Ix next s x W2) a' W2) (λ_ _ _=>False))
    {tmps:=(ps.zip (encs x)).foldl (λt (p,v)=>t.setIfInBounds p v) a.tmps,defers:=[]} W)
  (hdone:∀(D:Nat) (s:σ) (W:World),w.heap.size<=D->fin s->I s W->W.heap[D]?=some (.deferred (some []))->Q .normal {a with defers:={target:=.collected D,args:=#[]} :: a.defers} W)
  (hstop:∀(D:Nat) (c:Code) (W:World),w.heap.size<=D->Ix c W->W.heap[D]?=some (.deferred (some []))->c.wpIn F n P Q {a with defers:={target:=.collected D,args:=#[]} :: a.defers} W):
  (Code.rangeFunc g ps assign body).wpIn F n P Q a w:=by
 refine wpIn_rangeFunc ?_;intro fn Xh;rw[hro];obtain⟨Y,J⟩:=ε (λst pe=>{state:=st,pending:=pe,fn,tmps:=a.tmps,params:=ps,assign,body,defers:=w.heap.size}:LoopState->Option Code->Loop);obtain⟨W1,E⟩:∃W1,(w.alloc (.deferred (some []))).alloc (.loop (Y .ready none))=W1:=⟨_,rfl⟩
 have Xf:W1.heap[w.heap.size+1]?=some (.loop (Y .ready none)):=by
  rw[<-E];have:=ξU (w.alloc (.deferred (some []))) (.loop (Y .ready none));rwa [π]at this
 have Xi:W1.heap[w.heap.size]?=some (.deferred (some [])):=by
  rw[<-E];exact(Below.heap_alloc _ _ _ (by simp)).trans (ξU w _)
 have Xd:Gr w W1:=by rw[<-E];exact((Gr.refl w).alloc _).alloc _
 have tt:∀{A B:World},Gr A B->AB (λk=>w.heap.size<=k) A B:=λh=>h.touch _;have X:∀{A:World} {k:Nat} {o:Obj},A.heap[k]?=some o->k<A.heap.size:=λh=>(ζq.1 h).1
 refine⟨w.heap.size+1,[{target:=.collected w.heap.size,args:=#[]}],W1,{target:=.fn (.func gf) lb,args:=#[.func (.yield (w.heap.size+1)) #[] #[]]},W1,gf,
  #[.func (.yield (w.heap.size + 1)) #[] #[]] ++ lb, W1, ?_, ?_, ?_, ?_, λ_ => h1, ?_⟩
 ·rw[<-E,J];exact run_enterLoop_outer _ _ _ _ _
 ·simp only[resolve,hg];simp[go_sem]
 ·intro f' Xc;simp[Target.leads]at Xc;subst Xc;exact hFg
 ·simp[invoke,go_sem,eg]
 ·have hs1:W1.heap.size=w.heap.size+2:=by rw[<-E];simp
  refine(hseq (w.heap.size+1)
   (λs W=>I s W/\W.heap[w.heap.size+1]?=some (.loop (Y .ready none))/\W.heap[w.heap.size]?=some (.deferred (some [])))
   (λW=>∃c,Ix c W/\W.heap[w.heap.size+1]?=some (.loop (Y .done (some c)))/\W.heap[w.heap.size]?=some (.deferred (some [])))
   W1 Xd
   (λs A B hs ht=>⟨hI s A B hs.1 (ht.mono (λk _ h=>by omega)),(ht.block _ (X hs.2.1) Ω).trans hs.2.1,(ht.block _ (X hs.2.2) Ω).trans hs.2.2⟩)
   (λA B hs ht=>by
    obtain⟨c,hc,hl,hk⟩:=hs
    exact⟨c,hIx c A B hc (ht.mono (λk _ h=>by omega)),(ht.block _ (X hl) Ω).trans hl,(ht.block _ (X hk) Ω).trans hk⟩)
   (λs A hs=>hInv s A hs.1) ?_ ⟨hI _ _ _ h0 (tt Xd),Xf,Xi⟩).mono ?_
  ·rintro s x W ⟨hi,hl,hk⟩-Xj;have G:w.heap.size+1<W.heap.size:=X hl;have hy:=run_yield (P:=P) (args:=encs x) hl (by rw[J];exact hps x);rw[J]at hy;refine⟨fn,_,assign,body,hy,roundIn_of_wpIn Xh (wpIn_mono (hround _ s x W Ω hi Xj) ?_)⟩;rintro e a' Wa hp;cases e with
   | normal=>?_
   | _=>exact False.elim hp
   obtain⟨O,N⟩:=hp
   replace hl:=(O.block G).trans hl
   replace hk:=(O.block Ω).trans hk
   replace G:=X hl
   replace hi:=hI _ _ _ hi (tt O)
   revert N O;generalize W=W0;intro O N;obtain⟨W,rfl⟩:=ε Wa;refine⟨_,run_beginRound hl (by rw[J]),?_⟩;have Xb:(W.putObj (w.heap.size+1) (.loop {Y .ready none with state:=.busy})).heap[w.heap.size+1]?=some (.loop {Y .ready none with state:=.busy}):=ξN G;have Xa:(W.putObj (w.heap.size+1) (.loop {Y .ready none with state:=.busy})).heap[w.heap.size]?=some (.deferred (some [])):=(ζr Ω).trans hk;refine wpIn_mono (N _ ⟨rfl,rfl,rfl,by simp,λk _ hn=>ζr hn⟩ (hI _ _ _ hi (DW W _ _ Ω))) ?_
   have fin:∀(jump:Option Code) (W3:World),AB (λk=>k<w.heap.size) (W.putObj (w.heap.size+1) (.loop {Y .ready none with state:=.busy})) W3 →
     (Instr.endRound (w.heap.size+1) jump).run P W3=.ok (.bool jump.isNone) (W3.putObj (w.heap.size+1) (.loop (Y (if jump.isNone then .ready else .done) jump))) ∧
     (W3.putObj (w.heap.size+1) (.loop (Y (if jump.isNone then .ready else .done) jump))).heap[w.heap.size+1]?=some (.loop (Y (if jump.isNone then .ready else .done) jump)) ∧
     (W3.putObj (w.heap.size+1) (.loop (Y (if jump.isNone then .ready else .done) jump))).heap[w.heap.size]?=some (.deferred (some [])):=λjump W3 Z=>by
    have Xe:=(Z.block _ (X Xb) Ω).trans Xb;have:=run_endRound (P:=P) jump Xe;rw[J]at this⊢;exact⟨this,ξN (X Xe),(ζr Ω).trans ((Z.block _ (X Xa) Ω).trans Xa)⟩
   have L:∀(o:Obj) (W3:World),AB (λk=>k<w.heap.size) (W.putObj (w.heap.size+1) (.loop {Y .ready none with state:=.busy})) W3->AB (λk=>k<W1.heap.size) W0 (W3.putObj (w.heap.size+1) o):=λo W3 h3=>
    (((O.touch _).trans ((EJ W (w.heap.size+1) _).mono (λk _ h=>by omega))).trans (h3.mono (λk _ h=>by omega))).trans ((EJ W3 (w.heap.size+1) o).mono (λk _ h=>by omega))
   rintro e a3 W3 hp;cases e with
   | normal=>
    obtain⟨Z,s',Xg,M⟩:=hp;obtain⟨hr,U,V⟩:=fin none W3 Z;exact⟨_,_,hr,.inl ⟨rfl,s',Xg,hI _ _ _ M (DW W3 _ _ Ω),U,V⟩,L _ _ Z⟩
   | ret=>
    obtain⟨Z,M⟩:=hp;obtain⟨hr,U,V⟩:=fin (some .ret) W3 Z;exact⟨_,_,hr,.inr ⟨rfl,.ret,hIx _ _ _ M (DW W3 _ _ Ω),U,V⟩,L _ _ Z⟩
   | exit id=>
    obtain⟨Z,M⟩:=hp;obtain⟨hr,U,V⟩:=fin (some (.exit id)) W3 Z;exact⟨_,_,hr,.inr ⟨rfl,.exit id,hIx _ _ _ M (DW W3 _ _ Ω),U,V⟩,L _ _ Z⟩
   | goto t=>
    obtain⟨Z,M⟩:=hp;obtain⟨hr,U,V⟩:=fin (some (.goto t)) W3 Z;exact⟨_,_,hr,.inr ⟨rfl,.goto t,hIx _ _ _ M (DW W3 _ _ Ω),U,V⟩,L _ _ Z⟩
   | panic ch=>exact hp.elim
   | outgrown=>exact hp.elim
  ·rintro e W2 ⟨⟨v,rfl⟩,(⟨s,hS,hi,hl,hk⟩|⟨c,hi,hl,hk⟩)⟩
   ·exact⟨none,_,by have:=run_endLoop (P:=P) hl (by rw[J];simp);rw[J]at this;exact this,hdone _ s _ (μ _) hS (hI _ _ _ hi (DW W2 _ _ Ω)) ((ζr Ω).trans hk)⟩
   ·exact⟨some c,_,by have:=run_endLoop (P:=P) hl (by rw[J];simp);rw[J]at this;exact this,hstop _ c _ (μ _) (hIx _ _ _ hi (DW W2 _ _ Ω)) ((ζr Ω).trans hk)⟩
section
variable{S:World->Prop}
def IZ(P:Program)(md:Region.Mode)(ops:Array Oper)(Q:Exit->Act->World->Prop)(S:World->Prop)(z:Nat):Nat->Array Bool->Act->World->Prop
 | 0,listed,a,w=>Region.ready md ops listed=[]/\Q .normal a w
 | f+1,listed,a,w=>
  (Region.ready md ops listed=[]->Q .normal a w) ∧
  ∀i∈Region.ready md ops listed,wpOp P ops Q i (λa' w'=>(i=z\/S w')/\IZ P md ops Q S z f (listed.setIfInBounds i true) a' w') a w
theorem Z0{z:Nat}:∀(f:Nat) (listed:Array Bool) (a:Act) (w:World),IZ P md ops Q S z f listed a w->wpAny P md ops Q f listed a w
 | 0,_,_,_,h=>h
 | f+1,_,_,_,h=>⟨h.1,λi hi=>wpOp_mono (λa' w' h'=>Z0 f _ a' w' h'.2) (h.2 i hi)⟩
def BE(md:Region.Mode)(ops:Array Oper)(listed:Array Bool):Prop:=
 ∀j oj,ops[j]?=some oj->listed.getD j false=true->∀e∈oj.after,Region.binds md e=true->listed.getD e.on false=true
theorem BE.none(md:Region.Mode)(ops:Array Oper):BE md ops (Array.replicate ops.size false):=λj oj _ hl=>by
 simp only[ξO,Array.getElem?_replicate]at hl
 grind
theorem BE.set(h:BE md ops listed)(hi:i∈Region.ready md ops listed):BE md ops (listed.setIfInBounds i true):=by
 obtain⟨_,oi,Z,X⟩:=mem_ready.1 hi;intro j oj hj hl e he hb;by_cases Y:i=j
 ·subst Y;obtain rfl:oj=oi:=Option.some.inj (hj.symm.trans Z);exact getD_set_true (X e he hb)
 ·rw[getD_set_ne false Y]at hl;exact getD_set_true (h j oj hj hl e he hb)
def anc(md:Region.Mode)(ops:Array Oper):Nat->Nat->Nat->Bool
 | 0,_,_=>false
 | f+1,j,i=>match ops[j]? with
  | none=>false
  | some o=>o.after.any λe=>Region.binds md e&&(e.on==i||anc md ops f e.on i)
theorem O7{listed:Array Bool}(h:BE md ops listed):∀(f j i:Nat) (o:Oper),ops[j]?=some o->(∀e∈o.after,Region.binds md e=true->listed.getD e.on false=true)->anc md ops f j i=true->listed.getD i false=true
 | 0,_,_,_,_,_,ha=>by cases ha
 | f+1,j,i,o,ho,hall,ha=>by
  simp only[anc,ho]at ha;obtain⟨e,he,hb⟩:=Array.any_eq_true'.1 ha;simp only[ζd,ζW,ξk]at hb;have hl:=hall e he hb.1;rcases hb.2 with h1|h1
  ·simp_all
  ·cases hoe:ops[e.on]? with
   | none=>cases f <;> simp[anc,hoe]at h1
   | some oe=>exact O7 h f e.on i oe hoe (h e.on oe hoe hl) h1
def DF(md:Region.Mode)(ops:Array Oper)(z:Nat):Bool:=decide (ops.size<=z)||(List.range ops.size).all λi=>i==z||anc md ops ops.size z i
theorem Q9R(hz:DF md ops z=true)(h:BE md ops listed)(hr:z∈Region.ready md ops listed)(hi:i<ops.size)(hne:i≠z):listed.getD i false=true:=by
 obtain⟨_,oz,hoz,hall⟩:=mem_ready.1 hr;simp only[DF,ζW,ζg,ζ1,ξp,ξk]at hz
 grind [ψL,O7]
theorem IF(h1:listed.getD i true=false)(h2:listed.getD i false=true):False:=by
 grind
theorem JDV(hi:ops[i]?=some oi)(hsel:∀(j:Nat) (o:Oper) cs b,ops[j]?=some o->o.op≠.select cs b)
  (hQ:∀c a w,Q (.panic c) (a.put oi.dst v) w->Q (.panic c) a w) (hz:DF md ops z=true):
  ∀(f:Nat) (listed:Array Bool) (a:Act) (w:World),BE md ops listed →
   (∀j oj,ops[j]?=some oj->j≠i->listed.getD j true=false->(∀e∈oj.after,Region.binds md e=true->e.on≠i)->oi.apart ops oj=true) →
   i∈Region.ready md ops listed->YieldsIf P ops S oi v a->S w →
   IZ P md ops Q S z f (listed.setIfInBounds i true) (a.put oi.dst v) w->IZ P md ops Q S z (f+1) listed a w:=by
 intro f
 induction f with
 | zero=>
  intro listed a w _ _ hr hy hS H;refine⟨λh=>(by simp_all),λj hj=>?_⟩;by_cases X:j=i
  ·subst X;exact hy.wpOp hi hS ⟨.inr hS,H⟩
  ·have:=ready_mono hj X;rw[H.1]at this;cases this
 | succ f ih=>
  intro listed a w I Y hr hy hS H;refine⟨λh=>(by simp_all),λj hj=>?_⟩;by_cases X:j=i
  ·subst X;exact hy.wpOp hi hS ⟨.inr hS,H⟩
  ·have h1:=H.2 j (ready_mono hj X);obtain⟨U,oj,V,M⟩:=mem_ready.1 hj;have Z:=(mem_ready.1 hr).1;have O:i<ops.size:=(ζq.1 hi).1
   have D:j≠z:=λe=>by
    subst e;exact IF Z (Q9R hz I hj O (Ne.symm X))
   have N:∀e∈oj.after,Region.binds md e=true->e.on≠i:=λe he hb heq=>IF Z (heq▸M e he hb);have h2:=wpOp_putIf V (Y j oj V X U N) (λcs b=>hsel i oi cs b hi) (λcs b=>hsel j oj cs b V) hQ hy h1
   have J:∀k ok,ops[k]?=some ok->k≠i->(listed.setIfInBounds j true).getD k true=false →
     (∀e∈ok.after,Region.binds md e=true->e.on≠i)->oi.apart ops ok=true:=λk ok hk hki Z hno=>by
    refine Y k ok hk hki ?_ hno;by_cases E:j=k
    ·subst E;exact U
    ·rw[getD_set_ne true E]at Z;exact Z
   refine wpOp_mono (λa' w' h3=>?_) h2;obtain⟨h3,h4,h5⟩:=h3;have L:S w':=h4.resolve_left D;refine⟨h4,ih (listed.setIfInBounds j true) a' w' (I.set hj) J (ready_mono hr (Ne.symm X)) h3 L ?_⟩
   grind [ξ0]
def H8(o:Oper):Bool:=
 match o.op with
 | .move _| .assign _| .pick .. | .build .. | .load .. | .nilCheck _| .binOp .. | .unOp .. | .convert .. | .sliceToArrayPointer .. | .makeInterface .. | .makeFunc .. | .slice .. | .fieldAddr .. | .field .. | .indexAddr .. | .index .. | .lookup .. | .typeAssert .. | .extract ..=>true
 | .call {callee:=.builtin .len,..} | .call {callee:=.builtin .cap,..} | .call {callee:=.builtin .min,..} | .call {callee:=.builtin .max,..}=>true
 | _=>false
theorem VP{s:Sem Value}{n:Next}(h:(do pure (Next.value (<-s)):Sem Next).run P w=.ok n w'):∃v,n=.value v:=by
 rw[Sem.run_bind]at h;cases hs:s.run P w with
 | ok v w1=>rw[hs]at h;cases h;simp_all
 | halt x w1=>simp_all
theorem UQ{n:Next}(h:(runtimePanic .nilDeref:Sem Next).run P w=.ok n w'):False:=by
 simp[runtimePanic,goPanic,go_sem]at h
theorem Y9U{ρ:Operand->Value}{n:Next}(hq:H8 o=true)(h:(execOp ρ o).run P w=.ok n w'):∃v,n=.value v:=by
 obtain⟨dst,op,type,pos,after,guard⟩:=o;cases op
 case move x=>cases h;simp_all
 case assign x=>cases h;simp_all
 case pick c a b=>exact VP (s:=do pure (if <-asBool (ρ c)then ρ a else ρ b)) (by simpa[execOp,Sem.run_bind]using h)
 case nilCheck x=>
  simp only[execOp]at h
  split at h
  ·grind [UQ]
  ·grind [UQ]
  ·grind [UQ]
  ·split at h
   ·grind [UQ]
   ·rw[Sem.run_bind]at h;cases h1:(program:Sem Program).run P w with
    | halt x w1=>simp_all
    | ok p w1=>
     rw[h1]at h;simp only[Result.andThen_ok]at h;rw[Sem.run_bind]at h;cases h2:(nilAhead (p.types.size+Made.depth) _ _ _).run P w1 with
     | halt x w2=>rw[h2]at h;cases h
     | ok r w2=>
      rw[h2]at h;simp only[Result.andThen_ok]at h
      split at h
      ·simp[unsupported,go_sem]at h
      ·cases h;simp_all
   ·cases h;simp_all
  ·cases h;simp_all
 case call c=>
  obtain⟨X,args,ts⟩:=c;cases X
  case builtin b=>
   cases b <;> simp[H8]at hq <;> exact VP h
  all_goals simp[H8]at hq
 all_goals first
  | (simp[H8]at hq;done)
  | exact VP h
def AF(l:List Oper):List Nat->List Oper
 | []=>[]
 | k :: ks=>match l[k]? with
  | some o=>o :: AF l ks
  | none=>AF l ks
def DO(md:Region.Mode)(ops:Array Oper)(z:Nat):List (Bool×Nat)->Array Bool->Bool
 | [],listed=>(Region.ready md ops listed).isEmpty
 | (true,k) :: r,listed=>decide (Region.ready md ops listed=[k])&&(k !=z||r.isEmpty)&&DO md ops z r (listed.setIfInBounds k true)
 | (false,k) :: r,listed=>(Region.ready md ops listed).contains k&&Region.free md ops listed k&&((ops[k]?).any H8)&&DO md ops z r (listed.setIfInBounds k true)
def AY:List (List Nat×Nat)->List Nat->List (Bool×Nat)
 | [],fin=>fin.map (λk=>(false,k))
 | (qs,k) :: r,fin=>qs.map (λk=>(false,k))++(true,k) :: AY r fin
def LK(P:Program)(l:List Oper)(S:World->Prop)(z:Nat)(Q:Exit->Act->World->Prop):List (List Nat×Nat)->List Nat->Act->World->Prop
 | [],fin,a,w=>wpQuiet P l.toArray S (λa'=>Q .normal a' w) (AF l fin) a
 | (qs,k) :: r,fin,a,w=>wpQuiet P l.toArray S (λa'=>wpList P l.toArray (Exit.then (λa2 w2=>(k=z\/S w2)/\LK P l S z Q r fin a2 w2) Q) (AF l [k]) a' w) (AF l qs) a
theorem EK{l:List Oper}(h:l.toArray[k]?=some o)(ks:List Nat):AF l (k :: ks)=o :: AF l ks:=by
 have h':l[k]?=some o:=by simpa using h
 simp[AF,h']
end
section
variable{l:List Oper}{S:World->Prop}
theorem MP(hq:H8 o=true)(hw:Region.wanted o (yielded ops a.tmps)=true)(h:∀w,S w->o.quietAt P a S w v):YieldsIf P ops S o v a:=by
 refine .inl ⟨hw,λw hS=>?_⟩;have h1:=h w hS;unfold Oper.quietAt at h1;cases hr:(execOp a.eval o).run P w with
 | halt x w'=>rw[hr]at h1;exact h1.elim
 | ok n w'=>
  obtain⟨u,rfl⟩:=Y9U hq hr;rw[hr]at h1;obtain⟨rfl,rfl⟩:=h1;rfl
theorem WD(hsel:Region.noSelect l.toArray=true)(hQ:∀c a b w,Q (.panic c) b w->Q (.panic c) a w)(hz:DF md l.toArray z=true){w:World}(hS:S w){K:Act->Prop}{R:List (Bool×Nat)}{f:Nat}
  (hK:∀listed a,DO md l.toArray z R listed=true->BE md l.toArray listed->K a->IZ P md l.toArray Q S z f listed a w):
  ∀(qs:List Nat) (listed:Array Bool) (a:Act),DO md l.toArray z (qs.map (λk=>(false,k))++R) listed=true->BE md l.toArray listed->wpQuiet P l.toArray S K (AF l qs) a →
   IZ P md l.toArray Q S z (qs.length+f) listed a w
 | [],listed,a,hB,hc,h=>by simpa using hK listed a hB hc h
 | k :: qs,listed,a,hB,hc,h=>by
  simp only[ξr,ζv,DO,ζd]at hB;obtain⟨⟨⟨hr,hf⟩,hq⟩,hB'⟩:=hB;cases ho:l.toArray[k]? with
  | none=>simp_all
  | some o=>
   rw[ho]at hq;have Y:k∈Region.ready md l.toArray listed:=by simp_all
   rw[EK ho]at h;simp only[wpQuiet]at h
   have hy:∃v,YieldsIf P l.toArray S o v a/\wpQuiet P l.toArray S K (AF l qs) (a.put o.dst v):=by
    split at h
    ·rename_i hw;obtain⟨v,h1,h2⟩:=h
     grind [MP]
    ·rename_i hw;exact⟨undef,.inr ⟨by simp_all,rfl⟩,h⟩
   obtain⟨v,hy,Z⟩:=hy;have X:(k :: qs).length+f=(qs.length+f)+1:=by simp;omega
   rw[X];exact JDV ho (Region.noSelect_spec hsel) (λc a w h=>hQ c a _ w h) hz _ listed a w hc (Region.free_spec ho hf) Y hy hS (WD hsel hQ hz hS hK qs _ _ hB' (hc.set Y) Z)
theorem ML(ho:ops[k]?=some o)(hN:∀a w,N a w->K a w)
  (h:wpList P ops (Exit.then N Q) [o] a w):wpOp P ops Q k K a w:=by
 unfold wpOp;simp only[ho];simp only[wpList,Exit.then]at h
 split
 ·rename_i hw;rw[θ hw]at h;rcases h with h|⟨h1,h2⟩
  ·refine .inl ?_;unfold Oper.wp at *
   generalize (execOp a.eval o).run P w=r at *
   cases r with
   | ok n w'=>
    cases n <;> simp only[Oper.upon]at h⊢
    case value u=>simp_all
    case skip=>simp_all
    case defer d=>simp_all
    case enter f args=>
     refine Calls.mono h λe w'' he=>?_;cases e with
     | returned u=>simp_all
     | panicked c=>exact he
     | outgrown=>exact he
    case row row args=>exact Rows.mono h λu w'' he=>hN _ _ he
   | halt x w'=>cases x <;> simp only[Oper.upon]at h⊢;exact h
  ·exact .inr ⟨h1,h2⟩
 simp_all
theorem YPT(hsel:Region.noSelect l.toArray=true)(hQ:∀c a b w,Q (.panic c) b w->Q (.panic c) a w)(hz:DF md l.toArray z=true):
  ∀(segs:List (List Nat×Nat)) (fin:List Nat) (listed:Array Bool) (a:Act) (w:World),DO md l.toArray z (AY segs fin) listed=true->BE md l.toArray listed->(S w\/AY segs fin=[])->LK P l S z Q segs fin a w →
   IZ P md l.toArray Q S z (AY segs fin).length listed a w
 | [],fin,listed,a,w,hB,hc,hS,h=>by
  rcases hS with hS|hS
  ·have:=WD (R:=[]) (f:=0) (K:=λa'=>Q .normal a' w) hsel hQ hz hS (λlisted a hB _ h=>⟨by simpa[DO]using hB,h⟩) fin listed a (by simpa[AY]using hB) hc h;simpa[AY]using this
  ·have hf:fin=[]:=by simpa[AY]using hS
   subst hf;exact⟨by simpa[AY,DO]using hB,h⟩
 | (qs,k) :: r,fin,listed,a,w,hB,hc,hS,h=>by
  have hS:S w:=hS.resolve_right (by simp[AY]);have X:(AY ((qs,k) :: r) fin).length=qs.length+((AY r fin).length+1):=by simp[AY]
  rw[X];refine WD hsel hQ hz hS (λlisted a hB hc h=>?_) qs listed a (by assumption) hc h;simp only[DO,ζd,ζg]at hB;obtain⟨⟨hr,hkz⟩,Z⟩:=hB;have Y:k∈Region.ready md l.toArray listed:=by rw[hr];simp
  refine⟨λh0=>(by simp_all),λi hi=>?_⟩;rw[hr]at hi;obtain rfl:i=k:=by simp_all
  obtain⟨_,o,ho,_⟩:=mem_ready.1 Y;rw[EK ho]at h;refine ML ho (λa2 w2 h2=>⟨h2.1,YPT hsel hQ hz r fin _ a2 w2 Z (hc.set Y) ?_ h2.2⟩) h
  grind
theorem ZgW(S:World->Prop)(z:Nat)(segs:List (List Nat×Nat))(fin:List Nat)(hm:P.follows .mixedOrders=true)
  (hB:(Region.noSelect l.toArray&&DF .any l.toArray z&&DO .any l.toArray z (AY segs fin) (Array.replicate l.toArray.size false)&&(AY segs fin).length==l.toArray.size)=true) (hS:S w.drew)
  (h:LK P l S z (NoPanic Q) segs fin a w.drew):(Code.region id l.toArray true).wp P Q a w:=by
 simp only[ζd,ξk]at hB;obtain⟨⟨⟨Y,hz⟩,hB⟩,X⟩:=hB;refine wp_region_noPanic (wp_region_any hm ?_);have:=YPT (P:=P) (Q:=NoPanic Q) (md:=.any) Y (λc a b w h=>h) hz segs fin _ a w.drew hB (BE.none .any l.toArray) (.inl hS) h;rw[X]at this;exact Z0 _ _ _ _ this
theorem P4
  (h:wpQuiet P l.toArray S (λa'=>wpList P l.toArray (Exit.then (λa2 w2=>(k=z\/S w2)/\LK P l S z Q r fin a2 w2) Q) (AF l [k]) a' w) (AF l qs) a):LK P l S z Q ((qs,k) :: r) fin a w:=h
theorem EM(h:wpQuiet P l.toArray S (λa'=>Q .normal a' w) (AF l fin) a):LK P l S z Q [] fin a w:=h
structure AA(S:World->Prop) where
 w:World
 h:S w
theorem AA.get{S T:World->Prop}(h:S=T)(p:AA S):T p.w:=h▸p.h
theorem AA.start(C:World->Prop):∃S:World->Prop,S=C/\Hid (∀W,C W->S W):=⟨_,rfl,⟨λ_ h=>h⟩⟩
theorem AA.fact{S C F:World->Prop}(hS:S=C)(h:∀w,C w->F w)(p:AA S):F p.w:=h _ (hS▸p.h)
theorem AJ{f:FuncId}{a:Array Value}{R:Ending->World->Prop}(h:Calls P f a w λe w'=>e=.returned v/\w=w')(k:R (.returned v) w):Calls P f a w R:=h.mono (λ_ _ h=>h.1▸h.2▸k)
theorem AA.of{S:World->Prop}(h:S w):∃p:AA S,w=p.w:=⟨⟨w,h⟩,rfl⟩
theorem Vv2(S:World->Prop)(z:Nat)(segs:List (List Nat×Nat))(fin:List Nat)(hm:P.follows .mixedOrders=true)
  (hB:(Region.noSelect l.toArray&&DF .any l.toArray z&&DO .any l.toArray z (AY segs fin) (Array.replicate l.toArray.size false)&&(AY segs fin).length==l.toArray.size)=true) (hS:S w.drew)
  (h:LK P l (λw'=>∃p:AA S,w'=p.w) z (NoPanic Q) segs fin a w.drew):(Code.region id l.toArray true).wp P Q a w:=
 ZgW (λw'=>∃p:AA S,w'=p.w) z segs fin hm hB (AA.of hS) h
theorem BI(S:World->Prop)(z:Nat)(segs:List (List Nat×Nat))(fin:List Nat)(hS:S w.drew)(h:LK P l (λw'=>∃p:AA S,w'=p.w) z (NoPanic Q) segs fin a w.drew)(hm:P.follows .mixedOrders=true:=by kernel_rfl)(hB:(Region.noSelect l.toArray&&DF .any l.toArray z&&DO .any l.toArray z (AY segs fin) (Array.replicate l.toArray.size false)&&(AY segs fin).length==l.toArray.size)=true:=by kernel_rfl) :(Code.region id l.toArray true).wp P Q a w := Vv2 S z segs fin hm hB hS h
end
section
variable{S:World->Prop}
def IE(F:Fence)(n:Nat)(P:Program)(md:Region.Mode)(ops:Array Oper)(Q:Exit->Act->World->Prop)(S:World->Prop)(z:Nat):Nat->Array Bool->Act->World->Prop
 | 0,listed,a,w=>Region.ready md ops listed=[]/\Q .normal a w
 | f+1,listed,a,w=>
  (Region.ready md ops listed=[]->Q .normal a w) ∧
  ∀i∈Region.ready md ops listed,wpOpIn F n P ops Q i (λa' w'=>(i=z\/S w')/\IE F n P md ops Q S z f (listed.setIfInBounds i true) a' w') a w
theorem RE{z:Nat}:∀(f:Nat) (listed:Array Bool) (a:Act) (w:World),IE F n P md ops Q S z f listed a w->wpAnyIn F n P md ops Q f listed a w
 | 0,_,_,_,h=>h
 | f+1,_,_,_,h=>⟨h.1,λi hi=>wpOpIn_mono (λa' w' h'=>RE f _ a' w' h'.2) (h.2 i hi)⟩
def GY(ops:Array Oper):Bool:=ops.all λo=>match o.op with| .defer _=>false|_=>true
theorem XJ(h:GY ops=true)(ho:ops[j]?=some o)(c:Call):o.op≠.defer c:=by
 intro heq;have:=Array.all_eq_true_iff_forall_mem.1 h o (ψR ho)
 simp_all
theorem XQe(hF:∀f,F.fn f)(hi:ops[i]?=some o)(hd:∀c,o.op≠.defer c)(hy:YieldsIf P ops S o v a)
    (hS:S w) (h:K (a.put o.dst v) w):wpOpIn F n P ops Q i K a w:=by
 unfold wpOpIn;simp only[hi];rcases hy with⟨hw,hv⟩|⟨hw,rfl⟩
 ·simp only[hw,if_true,Oper.wpIn,Oper.semAt_eq F.round a.eval o hd,hv w hS,Oper.uponIn];simp_all
 simp_all
theorem Y6B{oj:Oper}(hF:∀f,F.fn f)(hj:ops[j]?=some oj)(hap:oi.apart ops oj=true)
  (hsi:∀cs b,oi.op≠.select cs b) (hsj:∀cs b,oj.op≠.select cs b) (hd:∀c,oj.op≠.defer c)
  (hQ:∀c a w,Q (.panic c) (a.put oi.dst v) w->Q (.panic c) a w)   
  (hy:YieldsIf P ops S oi v a) (h:wpOpIn F n P ops Q j K (a.put oi.dst v) w):
  wpOpIn F n P ops Q j (λa' w'=>YieldsIf P ops S oi v a'/\K (a'.put oi.dst v) w') a w:=by
 obtain⟨h1,h2,h3⟩:=Oper.apart_spec hap
 have X:∀(a:Act),YieldsIf P ops S oi v a->∀u,YieldsIf P ops S oi v (a.put oj.dst u):=λa hy u=>
  hy.of_same (execOp_put oi hsi a oj.dst u h3) (wanted_put oi a oj.dst u h3)
 unfold wpOpIn at *
 simp only[hj]at *
 rw[wanted_put oj a oi.dst v h1]at h
 split
 ·rename_i hw;simp only[hw,if_true]at h;refine⟨λf _=>hF f,?_⟩;have h:=h.2;rw[Oper.semAt_eq F.round _ oj hd,execOp_put oj hsj a oi.dst v h1]at h;rw[Oper.semAt_eq F.round _ oj hd];generalize (execOp a.eval oj).run P w=r at *
  cases r with
  | ok x w'=>
   cases x <;> simp only[Oper.uponIn]at h⊢
   case value u=>exact⟨X a hy u,by rw[<-Act.put_comm a v u h2];exact h⟩
   case skip=>exact⟨X a hy _,by rw[<-Act.put_comm a v undef h2];exact h⟩
   case defer d=>
    have Y:YieldsIf P ops S oi v {a with defers:=d :: a.defers}:=hy.of_same rfl rfl;refine⟨X _ Y _,?_⟩;rw[<-Act.put_comm _ v undef h2,<-Act.put_defers];exact h
   case enter f args=>
    refine⟨h.1,CallsIn.mono h.2 λe w'' he=>?_⟩;cases e with
    | returned u=>exact⟨X a hy u,by rw[<-Act.put_comm a v u h2];exact he⟩
    | panicked c=>simp_all
    | outgrown=>exact he
   case row row args=>exact⟨h.1,RowsIn.mono h.2 λu w'' he=>⟨X a hy u,by rw[<-Act.put_comm a v u h2];exact he⟩⟩
   case round l f tmps assign body=>
    refine⟨h.1,RoundIn.mono h.2 λe w'' he=>?_⟩;cases e with
    | returned u=>exact⟨X a hy u,by rw[<-Act.put_comm a v u h2];exact he⟩
    | panicked c=>simp_all
    | outgrown=>exact he
  | halt x w'=>
   cases x <;> simp only[Oper.uponIn]at h⊢
   simp_all
 ·rename_i hw;simp only[hw]at h;exact⟨λf _=>hF f,X a hy _,by rw[<-Act.put_comm a v undef h2];exact h.2⟩
theorem Qio(hF:∀f,F.fn f)(hnd:GY ops=true)(hi:ops[i]?=some oi)(hsel:∀(j:Nat) (o:Oper) cs b,ops[j]?=some o->o.op≠.select cs b)
  (hQ:∀c a w,Q (.panic c) (a.put oi.dst v) w->Q (.panic c) a w) (hz:DF md ops z=true):
  ∀(f:Nat) (listed:Array Bool) (a:Act) (w:World),BE md ops listed →
   (∀j oj,ops[j]?=some oj->j≠i->listed.getD j true=false->(∀e∈oj.after,Region.binds md e=true->e.on≠i)->oi.apart ops oj=true) →
   i∈Region.ready md ops listed->YieldsIf P ops S oi v a->S w →
   IE F n P md ops Q S z f (listed.setIfInBounds i true) (a.put oi.dst v) w->IE F n P md ops Q S z (f+1) listed a w:=by
 intro f
 induction f with
 | zero=>
  intro listed a w _ _ hr hy hS H;refine⟨λh=>(by simp_all),λj hj=>?_⟩;by_cases X:j=i
  ·grind [XQe,XJ]
  ·have:=ready_mono hj X;rw[H.1]at this;cases this
 | succ f ih=>
  intro listed a w I Y hr hy hS H;refine⟨λh=>(by simp_all),λj hj=>?_⟩;by_cases X:j=i
  ·grind [XQe,XJ]
  ·have h1:=H.2 j (ready_mono hj X);obtain⟨V,oj,U,M⟩:=mem_ready.1 hj;have Z:=(mem_ready.1 hr).1;have O:i<ops.size:=(ζq.1 hi).1
   have D:j≠z:=λe=>by
    subst e;exact IF Z (Q9R hz I hj O (Ne.symm X))
   have N:∀e∈oj.after,Region.binds md e=true->e.on≠i:=λe he hb heq=>IF Z (heq▸M e he hb);have h2:=Y6B hF U (Y j oj U X V N) (λcs b=>hsel i oi cs b hi) (λcs b=>hsel j oj cs b U) (XJ hnd U) hQ hy h1
   have J:∀k ok,ops[k]?=some ok->k≠i->(listed.setIfInBounds j true).getD k true=false →
     (∀e∈ok.after,Region.binds md e=true->e.on≠i)->oi.apart ops ok=true:=λk ok hk hki Z hno=>by
    refine Y k ok hk hki ?_ hno;by_cases E:j=k
    ·subst E;exact V
    ·rw[getD_set_ne true E]at Z;exact Z
   refine wpOpIn_mono (λa' w' h3=>?_) h2;obtain⟨h3,h4,h5⟩:=h3;have L:S w':=h4.resolve_left D;refine⟨h4,ih (listed.setIfInBounds j true) a' w' (I.set hj) J (ready_mono hr (Ne.symm X)) h3 L ?_⟩
   grind [ξ0]
def LV(F:Fence)(n:Nat)(P:Program)(l:List Oper)(S:World->Prop)(z:Nat)(Q:Exit->Act->World->Prop):List (List Nat×Nat)->List Nat->Act->World->Prop
 | [],fin,a,w=>wpQuiet P l.toArray S (λa'=>Q .normal a' w) (AF l fin) a
 | (qs,k) :: r,fin,a,w=>wpQuiet P l.toArray S (λa'=>wpListIn F n P l.toArray (Exit.then (λa2 w2=>(k=z\/S w2)/\LV F n P l S z Q r fin a2 w2) Q) (AF l [k]) a' w) (AF l qs) a
end
section
variable{l:List Oper}{S:World->Prop}
theorem ZL(hF:∀f,F.fn f)(hnd:GY l.toArray=true)(hsel:Region.noSelect l.toArray=true)(hQ:∀c a b w,Q (.panic c) b w->Q (.panic c) a w)(hz:DF md l.toArray z=true){w:World}(hS:S w){K:Act->Prop}{R:List (Bool×Nat)}{f:Nat}
  (hK:∀listed a,DO md l.toArray z R listed=true->BE md l.toArray listed->K a->IE F n P md l.toArray Q S z f listed a w):
  ∀(qs:List Nat) (listed:Array Bool) (a:Act),DO md l.toArray z (qs.map (λk=>(false,k))++R) listed=true->BE md l.toArray listed->wpQuiet P l.toArray S K (AF l qs) a →
   IE F n P md l.toArray Q S z (qs.length+f) listed a w
 | [],listed,a,hB,hc,h=>by simpa using hK listed a hB hc h
 | k :: qs,listed,a,hB,hc,h=>by
  simp only[ξr,ζv,DO,ζd]at hB;obtain⟨⟨⟨hr,hf⟩,hq⟩,hB'⟩:=hB;cases ho:l.toArray[k]? with
  | none=>simp_all
  | some o=>
   rw[ho]at hq;have Y:k∈Region.ready md l.toArray listed:=by simp_all
   rw[EK ho]at h;simp only[wpQuiet]at h
   have hy:∃v,YieldsIf P l.toArray S o v a/\wpQuiet P l.toArray S K (AF l qs) (a.put o.dst v):=by
    split at h
    ·rename_i hw;obtain⟨v,h1,h2⟩:=h
     grind [MP]
    ·rename_i hw;exact⟨undef,.inr ⟨by simp_all,rfl⟩,h⟩
   obtain⟨v,hy,Z⟩:=hy;have X:(k :: qs).length+f=(qs.length+f)+1:=by simp;omega
   rw[X];exact Qio hF hnd ho (Region.noSelect_spec hsel) (λc a w h=>hQ c a _ w h) hz _ listed a w hc (Region.free_spec ho hf) Y hy hS (ZL hF hnd hsel hQ hz hS hK qs _ _ hB' (hc.set Y) Z)
theorem QY(ho:ops[k]?=some o)(hN:∀a w,N a w->K a w)
  (h:wpListIn F n P ops (Exit.then N Q) [o] a w):wpOpIn F n P ops Q k K a w:=by
 unfold wpOpIn;simp only[ho];simp only[wpListIn,Exit.then]at h
 split
 ·rename_i hw;rw[θ hw]at h;refine⟨h.1,?_⟩;have h:=h.2;generalize (o.semAt F.round a.eval).run P w=r at *
  cases r with
  | ok n w'=>
   cases n <;> simp only[Oper.uponIn]at h⊢
   case value u=>simp_all
   case skip=>simp_all
   case defer d=>simp_all
   case enter f args=>
    refine⟨h.1,CallsIn.mono h.2 λe w'' he=>?_⟩;cases e with
    | returned u=>simp_all
    | panicked c=>exact he
    | outgrown=>exact he
   case row row args=>exact⟨h.1,RowsIn.mono h.2 λu w'' he=>hN _ _ he⟩
   case round l f tmps assign body=>
    refine⟨h.1,RoundIn.mono h.2 λe w'' he=>?_⟩;cases e with
    | returned u=>simp_all
    | panicked c=>exact he
    | outgrown=>exact he
  | halt x w'=>cases x <;> simp only[Oper.uponIn]at h⊢;exact h
 simp_all
theorem Qj2(hF:∀f,F.fn f)(hnd:GY l.toArray=true)(hsel:Region.noSelect l.toArray=true)(hQ:∀c a b w,Q (.panic c) b w->Q (.panic c) a w)(hz:DF md l.toArray z=true):
  ∀(segs:List (List Nat×Nat)) (fin:List Nat) (listed:Array Bool) (a:Act) (w:World),DO md l.toArray z (AY segs fin) listed=true->BE md l.toArray listed->(S w\/AY segs fin=[])->LV F n P l S z Q segs fin a w →
   IE F n P md l.toArray Q S z (AY segs fin).length listed a w
 | [],fin,listed,a,w,hB,hc,hS,h=>by
  rcases hS with hS|hS
  ·have:=ZL (n:=n) (R:=[]) (f:=0) (K:=λa'=>Q .normal a' w) hF hnd hsel hQ hz hS (λlisted a hB _ h=>⟨by simpa[DO]using hB,h⟩) fin listed a (by simpa[AY]using hB) hc h;simpa[AY]using this
  ·have hf:fin=[]:=by simpa[AY]using hS
   subst hf;exact⟨by simpa[AY,DO]using hB,h⟩
 | (qs,k) :: r,fin,listed,a,w,hB,hc,hS,h=>by
  have hS:S w:=hS.resolve_right (by simp[AY]);have X:(AY ((qs,k) :: r) fin).length=qs.length+((AY r fin).length+1):=by simp[AY]
  rw[X];refine ZL hF hnd hsel hQ hz hS (λlisted a hB hc h=>?_) qs listed a (by assumption) hc h;simp only[DO,ζd,ζg]at hB;obtain⟨⟨hr,hkz⟩,Z⟩:=hB;have Y:k∈Region.ready md l.toArray listed:=by rw[hr];simp
  refine⟨λh0=>(by simp_all),λi hi=>?_⟩;rw[hr]at hi;obtain rfl:i=k:=by simp_all
  obtain⟨_,o,ho,_⟩:=mem_ready.1 Y;rw[EK ho]at h;refine QY ho (λa2 w2 h2=>⟨h2.1,Qj2 hF hnd hsel hQ hz r fin _ a2 w2 Z (hc.set Y) ?_ h2.2⟩) h
  grind
theorem V0Y(S:World->Prop)(z:Nat)(segs:List (List Nat×Nat))(fin:List Nat)(hF:∀f,F.fn f)(hm:P.follows .mixedOrders=true)
  (hB:(GY l.toArray&&Region.noSelect l.toArray&&DF .any l.toArray z&&DO .any l.toArray z (AY segs fin) (Array.replicate l.toArray.size false)&&(AY segs fin).length==l.toArray.size)=true) (hS:S w.drew)
  (h:LV F n P l (λw'=>∃p:AA S,w'=p.w) z (NoPanic Q) segs fin a w.drew):(Code.region id l.toArray true).wpIn F n P Q a w:=by
 simp only[ζd,ξk]at hB;obtain⟨⟨⟨⟨Z,X⟩,hz⟩,hB⟩,Y⟩:=hB;refine wpIn_mono (wpIn_region_any hm ?_) NoPanic.imp;have:=Qj2 (F:=F) (n:=n) (P:=P) (Q:=NoPanic Q) (md:=.any) hF Z X (λc a b w h=>h) hz segs fin _ a w.drew hB (BE.none .any l.toArray) (.inl (AA.of hS)) h;rw[Y]at this;exact RE _ _ _ _ this
theorem IK(S:World->Prop)(z:Nat)(segs:List (List Nat×Nat))(fin:List Nat)(hF:∀f,F.fn f)(hS:S w.drew)(h:LV F n P l (λw'=>∃p:AA S,w'=p.w) z (NoPanic Q) segs fin a w.drew)(hm:P.follows .mixedOrders=true:=by kernel_rfl)(hB:(GY l.toArray&&Region.noSelect l.toArray&&DF .any l.toArray z&&DO .any l.toArray z (AY segs fin) (Array.replicate l.toArray.size false)&&(AY segs fin).length==l.toArray.size)=true:=by kernel_rfl) :(Code.region id l.toArray true).wpIn F n P Q a w := V0Y S z segs fin hF hm hB hS h
theorem PL
  (h:wpQuiet P l.toArray S (λa'=>wpListIn F n P l.toArray (Exit.then (λa2 w2=>(k=z\/S w2)/\LV F n P l S z Q r fin a2 w2) Q) (AF l [k]) a' w) (AF l qs) a):LV F n P l S z Q ((qs,k) :: r) fin a w:=h
theorem X0q(h:wpQuiet P l.toArray S (λa'=>Q .normal a' w) (AF l fin) a):LV F n P l S z Q [] fin a w:=h
theorem IQ(f:FuncId):Fence.wide.fn f:=trivial
end
theorem ZIq{size:Nat}(h:w.ownsRow base E size v n xs)(hb:∀g,v.ownBlock=some g->w'.heap[g]?=w.heap[g]?):w'.ownsRow base E size v n xs:=by
 obtain⟨h1,h2|⟨g,Y,X,e1,e2,e3,e4,e5,e6,e7⟩⟩:=h
 ·exact⟨h1,.inl h2⟩
 ·exact⟨h1,.inr ⟨g,Y,X,e1,e2,by rw[hb g (by rw[e1];rfl)];exact e3,e4,e5,e6,e7⟩⟩
theorem A9{size:Nat}(h:w.ownsRow base E size v n xs){g:Nat}(hg:v.ownBlock=some g):base<=g/\g<w.heap.size:=by
 obtain⟨h1,⟨rfl,_⟩|⟨g',cap,cur,e1,e2,e3,e4,e5,e6,e7⟩⟩:=h
 ·cases hg
 ·rw[e1]at hg;obtain rfl:g'=g:=Option.some.inj hg
  grind
theorem AX{size:Nat}(h:w.ownsRow base E size v n xs)(t:AB S w w')(hS:∀g,v.ownBlock=some g->¬S g):w'.ownsRow base E size v n xs:=
 ZIq h (λg hg=>t.block g (A9 h hg).2 (hS g hg))
theorem CF{size:Nat}(h:w.ownsRow base E size v n xs)(t:Gr w w'):w'.ownsRow base E size v n xs:=
 AX h (t.touch (λ_=>False)) (λ_ _ h=>h)
theorem FD(w:World)(base E size:Nat):w.ownsRow base E size (.slice none 0 0) 0 []:=⟨by simp,.inl ⟨rfl,rfl⟩⟩
theorem BU{size:Nat}{g c:Nat}(h:w.ownsRow base E size (.slice (some ⟨g,0,none⟩) n c) n xs){u:Value}(hj:xs[j]?=some u):
  w.cell? ⟨g,j,none⟩=some u:=by
 obtain⟨h1,⟨h,_⟩|⟨g',cap,cur,e1,e2,e3,e4,e5,e6,e7⟩⟩:=h
 ·cases h
 ·obtain⟨rfl,rfl⟩:=e1;unfold World.cell?
  grind
theorem GG{size:Nat}{g c:Nat}(h:w.ownsRow base E size (.slice (some ⟨g,0,none⟩) n c) n xs)(j:Nat):w.frozen? ⟨g,j,none⟩=false:=by
 obtain⟨h1,⟨h,_⟩|⟨g',cap,cur,e1,e2,e3,e4,e5,e6,e7⟩⟩:=h
 ·cases h
 ·obtain⟨rfl,rfl⟩:=e1;unfold World.frozen?
  simp_all
theorem E6{size:Nat}(h:w.ownsRow base E size v n xs)(hn:n≠0):∃g c,v=.slice (some ⟨g,0,none⟩) n c/\base<=g/\n<=c/\c<=maxLen/\g<w.heap.size:=by
 have h':=h;obtain⟨_,⟨_,h⟩|⟨g,c,cur,e1,e2,e3,e4,e5,_⟩⟩:=h
 ·omega
 grind
theorem DT(h:w.grownBy w' row)(S:Nat->Prop)(hS:∀k,row=some k->k<w.heap.size->S k):AB S w w':=
 ⟨h.os,h.tape,h.output,h.size,λk hk hn=>h.block k hk (λe=>hn (hS k e.symm hk))⟩
namespace Word
def E5(n:Int):Int:=min (max n 0) 64
theorem O6(n:Int):0<=E5 n/\E5 n<=64:=by unfold E5;omega
def KW(lo hi:Nat):Nat:=if hi<=lo then 0 else 2 ^ hi-2 ^ lo
theorem J4c(lo hi:Nat)(h:hi<=64):KW lo hi<2 ^ 64:=by
 unfold KW;split
 ·decide
 ·have:=Nat.pow_le_pow_right (n:=2) (by decide) h
  grind
theorem ZmB(lo hi:Nat)(h:lo<hi):KW lo hi=2 ^ lo*(2 ^ (hi-lo)-1):=by
 unfold KW;rw[ψ Ω,Nat.mul_sub,<-Nat.pow_add,ξF,Nat.add_sub_cancel' Ω]
theorem Vvq(lo hi i:Nat):(KW lo hi).testBit i=decide (lo<=i/\i<hi):=by
 by_cases h:lo<hi
 ·grind [ZmB,Nat.testBit_two_pow_sub_one]
 ·unfold KW;grind
def AP(a b:Int):Nat:=KW (E5 a).toNat (E5 b).toNat
theorem LB(a b:Int):AP a b<2 ^ 64:=J4c _ _ (by have:=O6 b;omega)
theorem WR(a b:Int)(i:Nat):(AP a b).testBit i=decide (a<=i/\(i:Int)<b/\i<64):=by
 unfold AP;rw[Vvq];apply ξy.2;unfold E5;omega
theorem ZbW(a b:Int)(h:E5 a<E5 b):
  (18446744073709551615/2 ^ (64-E5 b+E5 a).toNat*2 ^ (E5 a).toNat:Int)=(AP a b:Nat):=by
 have ha:=O6 a;have hb:=O6 b;unfold AP;generalize E5 a=A at *
 generalize E5 b=B at *
 obtain⟨x,rfl⟩:∃x:Nat,A=x:=⟨A.toNat,by omega⟩;obtain⟨y,rfl⟩:∃y:Nat,B=y:=⟨B.toNat,by omega⟩;have h1:(64-(y:Int)+x).toNat=64-(y-x):=Ω
 rw[h1,β,β,ZmB x y Ω]
 have hp:18446744073709551615/2 ^ (64-(y-x))=2 ^ (y-x)-1:=by
  have e1:(18446744073709551615:Nat)=2 ^ (64-(y-x))*(2 ^ (y-x)-1)+(2 ^ (64-(y-x))-1):=by
   rw[Nat.mul_sub,<-Nat.pow_add,ξF,show 64-(y-x)+(y-x)=64 by omega];have:2 ^ (64-(y-x))<=2 ^ 64:=Nat.pow_le_pow_right (by decide) Ω
   grind
  rw[e1];have X:=Nat.two_pow_pos (64-(y-x));rw[ψM X,ψd Ω,ζ7]
 have:((18446744073709551615/2 ^ (64-(y-x))*2 ^ x:Nat):Int)=((2 ^ x*(2 ^ (y-x)-1):Nat):Int):=by rw[hp,ζA]
 assumption
def cnt(f:Nat->Bool)(n:Nat):Nat:=(List.range n).countP f
theorem MU(f:Nat->Bool):cnt f 0=0:=rfl
theorem C1(f:Nat->Bool)(n:Nat):cnt f (n+1)=cnt f n+(f n).toNat:=by
 unfold cnt;grind [ψO]
theorem C2(h:∀i,i<n->f i=g i):cnt f n=cnt g n:=by
 induction n with
 | zero=>rfl
 | succ n ih=>grind [C1]
theorem PP(f:Nat->Bool)(m n:Nat):cnt f (m+n)=cnt f m+cnt (λi=>f (m+i)) n:=by
 induction n with
 | zero=>simp[MU]
 | succ n ih=>grind [ξv,C1]
theorem EY(f:Nat->Bool)(n:Nat):cnt f n<=n:=by
 unfold cnt;grind [List.countP_le_length]
theorem U8(f:Nat->Bool){m:Nat}(h:m<=n):cnt f m<=cnt f n:=by
 obtain⟨k,rfl⟩:∃k,n=m+k:=⟨n-m,by omega⟩;rw[PP];omega
theorem IM(h:∀i,i<n->f i=false):cnt f n=0:=by
 induction n with
 | zero=>rfl
 | succ n ih=>grind [C1]
theorem XK(h:cnt f n=0):∀i,i<n->f i=false:=by
 induction n with
 | zero=>omega
 | succ n ih=>
  grind [C1]
theorem NI(h:∀i,(f i&&g i)=false)(n:Nat):cnt (λi=>f i||g i) n=cnt f n+cnt g n:=by
 induction n with
 | zero=>rfl
 | succ n ih=>
  rw[C1,C1,C1,ih];cases hf:f n <;> cases hg:g n <;> simp_all <;> omega
def pc(x:Nat):Nat:=cnt x.testBit 64
theorem WN(x:Nat):pc x<=64:=EY _ _
def rep(m:Nat):Nat->Nat
 | 0=>0
 | k+1=>m+256*rep m k
theorem QT(b m y n:Nat)(hb:b<256)(hm:m<256):(b+256*y) &&& (m+256*n)=(b &&& m)+256*(y &&& n):=by
 apply ξm;intro i
 have e:∀c z:Nat,c<256->(c+256*z).testBit i=if i<8 then c.testBit i else z.testBit (i-8):=by
  intro c z hc;have:=Nat.testBit_two_pow_mul_add z (i:=8) (b:=c) Ω i
  grind
 grind [ξx,ψN]
def s1(k x:Nat):Nat:=((x/2) &&& rep 0x55 k)+(x &&& rep 0x55 k)
def s2(k x:Nat):Nat:=((x/4) &&& rep 0x33 k)+(x &&& rep 0x33 k)
def s3(k x:Nat):Nat:=(x/16+x) &&& rep 0x0f k
def b1(b:Nat):Nat:=((b/2) &&& 0x55)+(b &&& 0x55)
def b2(b:Nat):Nat:=((b/4) &&& 0x33)+(b &&& 0x33)
def b3(b:Nat):Nat:=(b/16+b) &&& 0x0f
theorem JHM(k b y:Nat)(hb:b<256):s1 (k+1) (b+256*y)=b1 b+256*s1 k y:=by
 unfold s1 b1;rw[show rep 0x55 (k+1)=0x55+256*rep 0x55 k from rfl];have e:(b+256*y)/2=(b/2+128*(y%2))+256*(y/2):=Ω
 have h2:y%2<2:=Ω
 rw[e,QT _ _ _ _ Ω (by decide),QT _ _ _ _ hb (by decide)]
 have:((b/2+128*(y%2)) &&& 0x55)=(b/2) &&& 0x55:=by
  generalize y%2=c at h2;have hall:∀b,b<256->∀c,c<2->((b/2+128*c) &&& 0x55)=(b/2) &&& 0x55:=by decide +kernel
  simp_all
 omega
theorem Zt5(k b y:Nat)(hb:b<256):s2 (k+1) (b+256*y)=b2 b+256*s2 k y:=by
 unfold s2 b2;rw[show rep 0x33 (k+1)=0x33+256*rep 0x33 k from rfl];have e:(b+256*y)/4=(b/4+64*(y%4))+256*(y/4):=Ω
 have h2:y%4<4:=Ω
 rw[e,QT _ _ _ _ Ω (by decide),QT _ _ _ _ hb (by decide)]
 have:((b/4+64*(y%4)) &&& 0x33)=(b/4) &&& 0x33:=by
  generalize y%4=c at h2;have hall:∀b,b<256->∀c,c<4->((b/4+64*c) &&& 0x33)=(b/4) &&& 0x33:=by decide +kernel
  simp_all
 omega
theorem ZYF(k b y:Nat)(hb:b<=0x44)(h16:b%16<=4)(hy:y%16<=4):s3 (k+1) (b+256*y)=b3 b+256*s3 k y:=by
 unfold s3 b3;rw[show rep 0x0f (k+1)=0x0f+256*rep 0x0f k from rfl];have e:(b+256*y)/16+(b+256*y)=(b/16+16*(y%16)+b)+256*(y/16+y):=Ω
 rw[e,QT _ _ _ _ Ω (by decide)]
 have:((b/16+16*(y%16)+b) &&& 0x0f)=(b/16+b) &&& 0x0f:=by
  generalize y%16=c at hy;have hall:∀b,b<69->∀c,c<5->((b/16+16*c+b) &&& 0x0f)=(b/16+b) &&& 0x0f:=by decide +kernel
  grind
 rw[this]
def t(k x:Nat):Nat:=s3 k (s2 k (s1 k x))
theorem QZP:∀b,b<256->b1 b<256/\b2 (b1 b)<=0x44/\b2 (b1 b)%16<=4/\b3 (b2 (b1 b))=(List.range 8).countP b.testBit:=by decide +kernel
theorem ZTi(k y:Nat):s2 k (s1 k y)%16<=4:=by
 cases k with
 | zero=>simp[s2,rep]
 | succ k=>
  have e:y=y%256+256*(y/256):=Ω
  have hb:y%256<256:=Ω
  obtain⟨h1,h2,h3,_⟩:=QZP _ hb;rw[e,JHM k _ _ hb,Zt5 k _ _ h1];omega
theorem VAv(k b y:Nat)(hb:b<256):t (k+1) (b+256*y)=(List.range 8).countP b.testBit+256*t k y:=by
 obtain⟨h1,h2,h3,h4⟩:=QZP b hb;unfold t
 grind [JHM,Zt5,ZYF,ZTi]
def GK:Nat->Nat->Nat
 | 0,_=>0
 | k+1,x=>(List.range 8).countP (x%256).testBit+256*GK k (x/256)
theorem YO3(k:Nat):∀x,t k x=GK k x:=by
 induction k with
 | zero=>simp[t,s3,rep,GK]
 | succ k ih=>
  intro x;have e:x=x%256+256*(x/256):=Ω
  rw[e,VAv k _ _ Ω,ih,GK]
  grind
theorem KK(k:Nat):∀x,cnt x.testBit (8*(k+1))=(List.range 8).countP (x%256).testBit+cnt (x/256).testBit (8*k):=by
 intro x;rw[show 8*(k+1)=8+8*k by omega,PP];congr 1
 ·apply C2;intro i hi;have:=Nat.testBit_mod_two_pow x 8 i
  simp_all
 grind [C2,Nat.testBit_div_two_pow,ξI]
theorem Y4E(b:Nat):(List.range 8).countP b.testBit<=8:=by
 grind [List.countP_le_length]
theorem ZC(lo q m:Nat)(h:lo<m):(lo+m*q)/m=q:=by
 grind [Nat.add_mul_div_left,ψd]
theorem Yfd(y c0 c1 c2 c3 c4 c5 c6 c7:Nat)
  (hy:y=c0+256*(c1+256*(c2+256*(c3+256*(c4+256*(c5+256*(c6+256*(c7+256*0))))))))
  (a0:c0<=8) (a1:c1<=8) (a2:c2<=8) (a3:c3<=8) (a4:c4<=8) (a5:c5<=8) (a6:c6<=8) (a7:c7<=8):
  let z1:=(y+y/256)%18446744073709551616
  let z2:=(z1+z1/65536)%18446744073709551616
  let z3:=(z2+z2/4294967296)%18446744073709551616
  z3%128=c0+(c1+(c2+(c3+(c4+(c5+(c6+(c7+0))))))):=by
 have e1:y/256=c1+256*(c2+256*(c3+256*(c4+256*(c5+256*(c6+256*c7))))):=by
  rw[hy,ZC _ _ _ Ω];omega
 have m1:(y+y/256)%18446744073709551616=(c0+c1)+256*(c1+c2)+65536*((c2+c3)+256*(c3+c4)+65536*((c4+c5)+256*(c5+c6)+65536*((c6+c7)+256*c7))):=by
  rw[e1,ψr Ω];omega
 simp only[m1];clear m1 e1 hy y
 have d2:((c0+c1)+256*(c1+c2)+65536*((c2+c3)+256*(c3+c4)+65536*((c4+c5)+256*(c5+c6)+65536*((c6+c7)+256*c7))))/65536=(c2+c3)+256*(c3+c4)+65536*((c4+c5)+256*(c5+c6)+65536*((c6+c7)+256*c7)):=
  ZC _ _ _ Ω
 rw[d2]
 have m2:((c0+c1)+256*(c1+c2)+65536*((c2+c3)+256*(c3+c4)+65536*((c4+c5)+256*(c5+c6)+65536*((c6+c7)+256*c7)))+((c2+c3)+256*(c3+c4)+65536*((c4+c5)+256*(c5+c6)+65536*((c6+c7)+256*c7))))%18446744073709551616 =
   ((c0+c1+c2+c3)+256*(c1+c2+c3+c4)+65536*(c2+c3+c4+c5)+16777216*(c3+c4+c5+c6))+4294967296*((c4+c5+c6+c7)+256*(c5+c6+c7)+65536*(c6+c7)+16777216*c7):=by
  rw[ψr Ω];omega
 rw[m2];clear m2 d2;rw[ZC _ _ 4294967296 Ω];have hm:∀X:Nat,X<18446744073709551616->X%18446744073709551616%128=X%128:=λX h=>by rw[ψr h]
 rw[hm _ Ω];omega
theorem YtC(y:Nat)(x:Nat)(hy:y=t 8 x):
  let z1:=(y+y/256)%18446744073709551616
  let z2:=(z1+z1/65536)%18446744073709551616
  let z3:=(z2+z2/4294967296)%18446744073709551616
  z3%128=pc x:=by
 rw[YO3]at hy;have hp:pc x=cnt x.testBit (8*8):=rfl;rw[hp];rw[KK 7,KK 6,KK 5,KK 4,KK 3,KK 2,KK 1,KK 0];rw[GK,GK,GK,GK,GK,GK,GK,GK,GK]at hy;have h:=Y4E;have a0:=h (x%256);have a1:=h (x/256%256);have a2:=h (x/256/256%256);have a3:=h (x/256/256/256%256);have a4:=h (x/256/256/256/256%256);have a5:=h (x/256/256/256/256/256%256);have a6:=h (x/256/256/256/256/256/256%256);have a7:=h (x/256/256/256/256/256/256/256%256);revert hy a0 a1 a2 a3 a4 a5 a6 a7;generalize (List.range 8).countP (x%256).testBit=c0;generalize (List.range 8).countP (x/256%256).testBit=c1;generalize (List.range 8).countP (x/256/256%256).testBit=c2;generalize (List.range 8).countP (x/256/256/256%256).testBit=c3;generalize (List.range 8).countP (x/256/256/256/256%256).testBit=c4;generalize (List.range 8).countP (x/256/256/256/256/256%256).testBit=c5;generalize (List.range 8).countP (x/256/256/256/256/256/256%256).testBit=c6;generalize (List.range 8).countP (x/256/256/256/256/256/256/256%256).testBit=c7;intro hy a0 a1 a2 a3 a4 a5 a6 a7;exact Yfd y c0 c1 c2 c3 c4 c5 c6 c7 hy a0 a1 a2 a3 a4 a5 a6 a7
end Word
namespace Word
def first(f:Nat->Bool):Nat->Nat
 | 0=>0
 | n+1=>if first f n<n then first f n else if f n then n else n+1
theorem IH(f:Nat->Bool)(n:Nat):first f n<=n:=by
 induction n with
 | zero=>simp[first]
 | succ n ih=>unfold first;grind
theorem JA(f:Nat->Bool)(n:Nat):∀i,i<first f n->f i=false:=by
 induction n with
 | zero=>intro i hi;simp[first]at hi
 | succ n ih=>
  intro i hi;unfold first at hi
  grind
theorem H7(f:Nat->Bool)(n:Nat)(h:first f n<n):f (first f n)=true:=by
 induction n with
 | zero=>omega
 | succ n ih=>
  unfold first at h⊢
  grind
theorem GW(hk:k<=n)(hn:∀i,i<k->f i=false)(ha:k<n->f k=true):first f n=k:=by
 grind [IH,JA,H7,ζS]
theorem Jyj(h:∀i,i<n->f i=g i):first f n=first g n:=
 GW (IH g n) (λi hi=>by grind [IH,JA]) (λhl=>by grind [H7])
def last(f:Nat->Bool):Nat->Int
 | 0=>-1
 | n+1=>if f n then n else last f n
theorem SI(f:Nat->Bool)(n:Nat):-1<=last f n/\last f n<n:=by
 induction n with
 | zero=>simp[last]
 | succ n ih=>unfold last;omega
theorem TJ(f:Nat->Bool)(n:Nat):∀i:Nat,last f n<i->i<n->f i=false:=by
 induction n with
 | zero=>omega
 | succ n ih=>
  intro i h hi;unfold last at h
  grind
theorem YT(f:Nat->Bool)(n:Nat)(h:0<=last f n):f (last f n).toNat=true:=by
 induction n with
 | zero=>simp[last]at h
 | succ n ih=>
  unfold last at h⊢
  grind
theorem ME{k:Int}(hk:-1<=k)(hkn:k<n)(hn:∀i:Nat,k<i->i<n->f i=false)(ha:0<=k->f k.toNat=true):last f n=k:=by
 have h1:=SI f n;have h2:=TJ f n
 grind [YT]
theorem V3e(h:∀i,i<n->f i=g i):last f n=last g n:=by
 induction n with
 | zero=>rfl
 | succ n ih=>unfold last;grind
def tz(x:Nat):Nat:=first x.testBit 64
theorem YYy:tz 0=64:=by decide +kernel
theorem ZtG(x:Nat):tz x<=64:=IH _ _
theorem Yif(hx:x<2 ^ 64)(h:∀i,i<64->x.testBit i=false):x=0:=by
 apply ξm;intro i;by_cases hi:i<64
 ·simp_all
 ·rw[Nat.testBit_lt_two_pow (ϑ hx (Nat.pow_le_pow_right (by decide) Ω))];simp
theorem XIB(hx:x<2 ^ 64)(h0:x≠0):tz x<64:=by
 rcases δ (tz x) 64 with h|h
 ·exact h
 ·exact absurd (Yif hx (λi hi=>JA _ 64 i (by unfold tz at h;omega))) h0
theorem V3V(a b k:Nat):(2 ^ k*a) &&& (2 ^ k*b)=2 ^ k*(a &&& b):=by
 apply ξm
 grind
theorem JoZ(k n m:Nat)(h:2 ^ k*(2*m+1)<2 ^ n):(2 ^ k*(2*m+1)) &&& (2 ^ n-2 ^ k*(2*m+1))=2 ^ k:=by
 have hkn:k<n:=by
  rcases δ k n with h1|h1
  ·exact h1
  ·have:=Nat.pow_le_pow_right (n:=2) (by decide) h1
   grind
 have hm:2*m+1<2 ^ (n-k):=by
  have e:2 ^ n=2 ^ k*2 ^ (n-k):=by rw[<-Nat.pow_add];grind
  rw[e]at h;exact Nat.lt_of_mul_lt_mul_left h
 have e1:2 ^ n-2 ^ k*(2*m+1)=2 ^ k*(2 ^ (n-k)-(2*m+1)):=by
  rw[Nat.mul_sub,<-Nat.pow_add];grind
 rw[e1,V3V];have e2:2 ^ (n-k)=2*2 ^ (n-k-1):=by rw[<-Nat.pow_succ'];grind
 have e3:2 ^ (n-k)-(2*m+1)=2*(2 ^ (n-k-1)-(m+1))+1:=Ω
 rw[e3]
 have:(2*m+1) &&& (2*(2 ^ (n-k-1)-(m+1))+1)=1:=by
  apply ξm;intro i;cases i with
  | zero=>simp_all
  | succ i=>
   grind
 simp_all
theorem Yv1(hx:x<2 ^ 64)(h0:x≠0):∃m,x=2 ^ tz x*(2*m+1):=by
 have hl:=XIB hx h0;have h1:=JA x.testBit 64;have h2:=H7 x.testBit 64 (by exact hl);change ∀i,i<tz x->_ at h1;change x.testBit (tz x)=true at h2;generalize tz x=k at *
 have hd:x%2 ^ k=0:=by
  apply ξm
  simp_all
 have hq:(x/2 ^ k)%2=1:=by
  grind
 refine⟨x/2 ^ k/2,?_⟩
 grind [ζo]
theorem Vtj(hx:x<2 ^ 64)(h0:x≠0):x &&& (2 ^ 64-x)=2 ^ tz x:=by
 obtain⟨m,hm⟩:=Yv1 hx h0;have:=JoZ (tz x) 64 m Ω
 grind
def tab:List Nat:=[0,1,56,2,57,49,28,3,61,58,42,50,38,29,17,4,62,47,59,36,45,43,51,22,53,39,33,30,24,18,12,5,63,55,48,27,60,41,37,16,46,35,44,21,52,32,23,11,54,26,40,15,34,20,31,10,25,14,19,9,13,8,7,6]
theorem YYA:∀k,k<64->2 ^ k*285870213051353865%18446744073709551616/288230376151711744<64/\tab.getD (2 ^ k*285870213051353865%18446744073709551616/288230376151711744) 0=k:=by decide +kernel
def QB(x:Nat):Nat:=(x &&& (18446744073709551616-x))*285870213051353865%18446744073709551616/288230376151711744
theorem VnA(hx:x<18446744073709551616)(h0:x≠0):QB x<64/\tab.getD (QB x) 0=tz x:=by
 unfold QB;have:=Vtj (show x<2 ^ 64 from hx) h0;rw[this];exact YYA _ (XIB hx h0)
def len(x:Nat):Int:=last x.testBit 64+1
theorem T8(x:Nat):0<=len x/\len x<=64:=by unfold len;have:=SI x.testBit 64;omega
theorem Jm1(hx:x<2 ^ 64)(h:2 ^ j<=x):len x=j+len (x/2 ^ j):=by
 have hq:1<=x/2 ^ j:=(ξi (Nat.two_pow_pos j)).2 Ω;have Y:x/2 ^ j<2 ^ 64:=ξx (ζV _ _) hx
 have tb:∀i,(x/2 ^ j).testBit i=x.testBit (i+j):=λi=>by
  grind
 have b:=SI (x/2 ^ j).testBit 64;have nn:=TJ (x/2 ^ j).testBit 64;have at_:=YT (x/2 ^ j).testBit 64
 have h0:0<=last (x/2 ^ j).testBit 64:=by
  rcases Int.lt_or_le (last (x/2 ^ j).testBit 64) 0 with h|h
  ·have:=Yif Y (λi hi=>nn i Ω hi);omega
  ·exact h
 have X:=at_ h0;unfold len;generalize last (x/2 ^ j).testBit 64=L at *
 have high:∀i,64<=i->x.testBit i=false:=λi hi=>Nat.testBit_lt_two_pow (ϑ hx (Nat.pow_le_pow_right (by decide) hi));rw[tb]at X
 have hlt:L.toNat+j<64:=by
  grind
 have:last x.testBit 64=L+j:=by
  refine ME Ω Ω (λi hi hi2=>?_) (λ_=>?_)
  ·have:=nn (i-j) Ω Ω;rw[tb]at this
   rwa [show i-j+j=i by omega]at this
  ·rwa [show (L+(j:Int)).toNat=L.toNat+j by omega]
 omega
def OE(f:Nat->Bool)(n k:Nat):Nat:=first (λi=>f i&&cnt f i==k) n
theorem Yj6(hij:i<j)(hi:f i=true):cnt f i<cnt f j:=by
 have:=U8 f (show i+1<=j from hij)
 grind [C1]
theorem ZZ(hi:i<n)(hf:f i=true)(hc:cnt f i=k):OE f n k=i:=by
 refine GW Ω (λj hj=>?_) (λ_=>by simp[hf,hc]);cases hfj:f j with
 | false=>simp
 | true=>have:=Yj6 hj hfj;simp;omega
theorem YoZ(h:k<cnt f n):∃i,i<n/\f i=true/\cnt f i=k:=by
 induction n with
 | zero=>simp[MU]at h
 | succ n ih=>
  by_cases h2:k<cnt f n
  ·grind
  ·rw[C1]at h;cases hf:f n with
   | false=>simp_all
   | true=>grind
theorem X9n(h:k<cnt f n):OE f n k<n/\f (OE f n k)=true/\cnt f (OE f n k)=k:=by
 grind [YoZ,ZZ]
theorem Vit(h:cnt f n<=k):OE f n k=n:=by
 refine GW Ω (λj hj=>?_) (λh=>by omega);cases hfj:f j with
 | false=>simp
 | true=>have:=Yj6 hj hfj;simp;omega
theorem YI(x:Nat)(hx:x<18446744073709551616):x &&& AP 0 64=x:=by
 exact Nat.and_two_pow_sub_one_of_lt_two_pow (n:=64) hx
end Word
namespace Word
def LJ(f:Nat->Bool):Nat->Nat
 | 0=>0
 | n+1=>LJ f n+(f n).toNat*2 ^ n
theorem Z1q(f:Nat->Bool)(n:Nat):LJ f n<2 ^ n:=by
 induction n with
 | zero=>simp[LJ]
 | succ n ih=>unfold LJ;cases f n <;> simp <;> omega
theorem Jaa(f:Nat->Bool)(n i:Nat):(LJ f n).testBit i=(decide (i<n)&&f i):=by
 induction n with
 | zero=>simp[LJ]
 | succ n ih=>
  unfold LJ
  grind [Z1q,ζA,Nat.testBit_two_pow_mul_add]
def nw(l:List Bool):Nat:=(l.length+63)/64
def AZ(l:List Bool)(i:Nat):Nat:=LJ (λj=>l.getD (64*i+j) false) 64
theorem FC(l:List Bool)(i:Nat):AZ l i<18446744073709551616:=Z1q _ 64
theorem PK(l:List Bool)(i j:Nat):(AZ l i).testBit j=(decide (j<64)&&l.getD (64*i+j) false):=Jaa _ _ _
theorem UX(hx:x<18446744073709551616)(hy:y<18446744073709551616)(h:∀j,j<64->x.testBit j=y.testBit j):x=y:=by
 apply ξm;intro i;by_cases hi:i<64
 ·exact h i hi
 ·have hp:2 ^ 64<=2 ^ i:=Nat.pow_le_pow_right (by decide) Ω
  grind [Nat.testBit_lt_two_pow,ϑ]
theorem XF(hx:x<18446744073709551616)(h:∀j,j<64->x.testBit j=l.getD (64*i+j) false):x=AZ l i:=
 UX hx (FC l i) (λj hj=>by grind [PK])
theorem Vjn{m:List Bool}(h:∀j,j<64->l.getD (64*i+j) false=m.getD (64*i+j) false):AZ l i=AZ m i:=
 XF (FC l i) (λj hj=>by grind [PK])
def IJ(a b:Nat):Nat:=a &&& (18446744073709551615-b%18446744073709551616)
theorem UE(a b:Nat)(ha:a<18446744073709551616):IJ a b<18446744073709551616:=ξx ψN ha
theorem QSR(a b j:Nat)(hj:j<64):(IJ a b).testBit j=(a.testBit j&&!b.testBit j):=by
 unfold IJ;rw[Nat.testBit_and];have h:b%18446744073709551616<2 ^ 64:=ζN _ (by decide);have:=Nat.testBit_two_pow_sub_succ h j;rw[show 2 ^ 64-(b%18446744073709551616+1)=18446744073709551615-b%18446744073709551616 by omega]at this;rw[this,show (18446744073709551616:Nat)=2 ^ 64 from rfl,Nat.testBit_mod_two_pow];simp[hj]
theorem VOD{a:Nat}(ha:a<18446744073709551616)(hb:b<18446744073709551616):a ||| b<18446744073709551616:=Nat.or_lt_two_pow (n:=64) ha hb
theorem P9(l:List Bool)(k i:Nat)(x:Bool)(hk:k<l.length):(l.set k x).getD i false=if i=k then x else l.getD i false:=by
 grind
theorem YiX(k j:Nat):(2 ^ k).testBit j=decide (k=j):=by
 grind
theorem WS(k:Nat):2 ^ (k%64)<18446744073709551616:=Nat.pow_lt_pow_right (by decide) (show k%64<64 by omega)
theorem JLE(l:List Bool)(k:Nat)(hk:k<l.length):AZ (l.set k true) (k/64)=AZ l (k/64) ||| 2 ^ (k%64):=by
 refine(XF (VOD (FC _ _) (WS k)) (λj hj=>?_)).symm
 grind [PK,YiX,P9]
theorem Ywt(l:List Bool)(k i:Nat)(x:Bool)(_:k<l.length)(hi:i≠k/64):AZ (l.set k x) i=AZ l i:=
 Vjn (λj hj=>by grind)
theorem WL(l:List Bool)(k:Nat)(x:Bool):nw (l.set k x)=nw l:=by unfold nw;simp
def at_(l:List Bool)(i:Nat):Bool:=l.getD i false
theorem GL(h:at_ l i=true):i<l.length:=by
 unfold at_ at h
 grind
def YL(l:List Bool)(a b:Int)(i:Nat):Bool:=at_ l i&&decide (a<=i/\(i:Int)<b)
def EF(l:List Bool)(a b:Int):Nat:=cnt (YL l a b) l.length
def CX(l:List Bool)(a b:Int)(x:Bool):List Bool:=l.mapIdx λi y=>if a<=i/\(i:Int)<b then x else y
theorem GC(l:List Bool)(a b:Int)(x:Bool):(CX l a b x).length=l.length:=by unfold CX;simp
theorem PH(l:List Bool)(a b:Int)(x:Bool)(i:Nat)(hi:i<l.length):at_ (CX l a b x) i=if a<=i/\(i:Int)<b then x else at_ l i:=by
 unfold at_ CX;simp_all
theorem RS(h:l.length<=i):at_ l i=false:=by
 unfold at_;simp_all
theorem JF{m:List Bool}(hn:l.length=m.length)(h:∀i,i<l.length->at_ l i=at_ m i):l=m:=by
 apply ξA hn;intro i h1 h2;have:=h i h1;unfold at_ at this
 simp_all
def J4(l:List Bool)(a b:Int)(x:Bool):Nat:=cnt (λi=>decide (a<=i/\(i:Int)<b)&&(at_ l i !=x)) l.length
def BX(l:List Bool)(a:Int):Nat:=first (λi=>at_ l i&&decide (a<=i)) l.length
def FA(l:List Bool)(b:Int):Int:=last (λi=>at_ l i&&decide ((i:Int)<b)) l.length
def C4(l:List Bool)(k:Nat):Nat:=OE (at_ l) l.length k
end Word
namespace Word
theorem MB(l:List Bool)(k j:Nat)(hj:j<64):(AZ l k).testBit j=at_ l (64*k+j):=by
 rw[PK];simp[hj,at_]
theorem ZP(l:List Bool)(k fr j:Nat)(hj:j<64):(AZ l k &&& AP fr 64).testBit j=(at_ l (64*k+j)&&decide (fr<=j)):=by
 grind [WR,MB]
theorem W8(l:List Bool)(k j:Nat)(b:Int)(hj:j<64):(AZ l k &&& AP 0 b).testBit j=(at_ l (64*k+j)&&decide ((j:Int)<b)):=by
 grind [WR,MB]
def LR(l:List Bool)(a m:Nat):Prop:=∀i,a<=i->i<m->at_ l i=false
theorem X3L(l:List Bool)(a:Nat):LR l a (64*(a/64)+a%64):=λi h1 h2=>by omega
theorem YeH{a:Nat}(h:LR l a (64*k+fr))(ha:a<=64*k+fr)(ht:tz (AZ l k &&& AP fr 64)<64):
  BX l a=64*k+tz (AZ l k &&& AP fr 64)/\BX l a<l.length:=by
 have h1:=H7 _ 64 ht;have h2:=JA (AZ l k &&& AP fr 64).testBit 64;change (AZ l k &&& AP fr 64).testBit (tz _)=true at h1;change ∀i,i<tz _->_ at h2;generalize tz (AZ l k &&& AP fr 64)=t at *
 rw[ZP l k fr t ht]at h1;simp only[ζd,ζg]at h1;have hl:=GL h1.1
 have e:BX l a=64*k+t:=by
  refine GW Ω (λi hi=>?_) (λ_=>by grind);by_cases X:a<=i
  ·by_cases hf:i<64*k+fr
   ·rw[h i X hf];simp
   ·have:=h2 (i-64*k) Ω;rw[ZP l k fr _ Ω,show 64*k+(i-64*k)=i by omega,φ (show fr<=i-64*k by omega),ψw]at this
    simp_all
  simp_all
 omega
theorem ZMX{a:Nat}(h:LR l a (64*k+fr))(hfr:fr<=64)(ht:¬tz (AZ l k &&& AP fr 64)<64):LR l a (64*(k+1)+0):=by
 intro i h1 h2;by_cases hf:i<64*k+fr
 ·exact h i h1 hf
 ·have hn:=JA (AZ l k &&& AP fr 64).testBit 64 (i-64*k) (by unfold tz at *;omega);rw[ZP l k fr _ Ω,show 64*k+(i-64*k)=i by omega,φ (show fr<=i-64*k by omega),ψw]at hn;exact hn
theorem JRu{a:Nat}(h:LR l a (64*k+fr))(hk:nw l<=k):BX l a=l.length:=by
 refine GW Ω (λi hi=>?_) (λh=>by omega);by_cases X:a<=i
 ·rw[h i X (by unfold nw at hk;omega)];simp
 simp_all
theorem ZMZ(l:List Bool)(a:Int):BX l a=BX l (a.toNat:Int):=
 Jyj (λi _=>by grind)
theorem Z5e{a:Int}(h:(l.length:Int)<=a):BX l a=l.length:=
 GW Ω (λi hi=>by grind) (λh=>by omega)
def KD(n k:Nat):Int:=if k<n then k else 0
theorem JK(h:k<n):KD n k=k:=θ h
theorem O1(h:¬k<n):KD n k=0:=ψ h
def M8(l:List Bool)(b m:Int):Prop:=∀i:Nat,m<=i->(i:Int)<b->at_ l i=false
theorem Xu4{b:Int}(h:M8 l b (64*k+64))(ht:0<=len (AZ l k &&& AP 0 (b-64*k))-1):
  FA l b=64*k+(len (AZ l k &&& AP 0 (b-64*k))-1):=by
 unfold len at *
 have h0:=SI (AZ l k &&& AP 0 (b-64*k)).testBit 64;have h1:=YT (AZ l k &&& AP 0 (b-64*k)).testBit 64 Ω;have h2:=TJ (AZ l k &&& AP 0 (b-64*k)).testBit 64;generalize last (AZ l k &&& AP 0 (b-64*k)).testBit 64=t at *
 obtain⟨t,rfl⟩:∃n:Nat,t=n:=⟨t.toNat,by omega⟩;rw[β]at h1;rw[W8 l k t _ Ω]at h1;simp only[ζd,ζg]at h1;have hl:=GL h1.1
 have e:FA l b=((64*k+t:Nat):Int):=by
  refine ME Ω Ω (λi hi hi2=>?_) (λ_=>?_)
  ·by_cases X:(i:Int)<b
   ·by_cases hf:64*k+64<=i
    ·rw[h i Ω X];simp
    ·have:=h2 (i-64*k) Ω Ω;rw[W8 l k _ _ Ω,show 64*k+(i-64*k)=i by omega,φ (show ((i-64*k:Nat):Int)<b-64*k by omega),ψw]at this
     simp_all
   ·simp[X]
  grind [β]
 omega
theorem JlV{b:Int}(h:M8 l b (64*k+64))(ht:¬0<=len (AZ l k &&& AP 0 (b-64*k))-1):M8 l b (64*k):=by
 intro i h1 h2;by_cases hf:64*k+64<=i
 ·exact h i Ω h2
 ·unfold len at ht;have:=TJ (AZ l k &&& AP 0 (b-64*k)).testBit 64 (i-64*k) Ω Ω;rw[W8 l k _ _ Ω,show 64*k+(i-64*k)=i by omega,φ (show ((i-64*k:Nat):Int)<b-64*k by omega),ψw]at this;exact this
theorem JS8{b m:Int}(h:M8 l b m)(hm:m<=0):FA l b = -1:=by
 refine ME Ω Ω (λi _ _=>?_) (λh=>by omega);by_cases X:(i:Int)<b
 ·rw[h i Ω X];simp
 ·simp[X]
theorem Q9t{b:Int}(h:b<=0):FA l b = -1:=JS8 (m:=0) (λi _ h2=>by omega) Ω
theorem ZAa(l:List Bool)(b:Int):FA l b=FA l (min b l.length):=
 V3e (λi hi=>by grind)
def R9(k:Int):Int:=if 0<=k then k else 0
end Word
namespace Word
theorem QW{m:Nat}(h:m<=n)(hf:∀i,m<=i->i<n->f i=false):cnt f n=cnt f m:=by
 obtain⟨k,rfl⟩:∃k,n=m+k:=⟨n-m,by omega⟩
 grind [PP,IM]
def E8(g:Nat->Bool)(a b:Int)(n:Nat):Nat:=cnt (λi=>decide (a<=i/\(i:Int)<b)&&g i) n
theorem ND(g:Nat->Bool){a b:Int}(n:Nat)(h:b<=a):E8 g a b n=0:=
 IM (λi _=>by grind)
theorem ZVB{h:Nat->Bool}{a b a' b':Int}(H:∀i:Nat,i<n->(decide (a<=i/\(i:Int)<b)&&g i)=(decide (a'<=i/\(i:Int)<b')&&h i)):E8 g a b n=E8 h a' b' n:=C2 H
theorem X7(hk:(64*k:Int)<hi)(hn:hi<=n)
  (hy:∀j,j<64->y.testBit j=(decide (lo<=(64*k+j:Nat)/\((64*k+j:Nat):Int)<hi)&&g (64*k+j))):
  E8 g lo (min hi (64*k)) n+pc y=E8 g lo (min hi (64*(k+1:Nat))) n:=by
 unfold E8;obtain⟨r,rfl⟩:∃r,n=64*k+r:=⟨n-64*k,by omega⟩;rw[PP,PP _ (64*k) r]
 have e1:cnt (λi=>decide (lo<=(i:Nat)/\((i:Nat):Int)<min hi (64*k))&&g i) (64*k)=cnt (λi=>decide (lo<=(i:Nat)/\((i:Nat):Int)<min hi (64*(k+1:Nat)))&&g i) (64*k):=
  C2 (λi hi'=>by congr 1;apply ξy.2;omega)
 have e2:cnt (λi=>decide (lo<=(64*k+i:Nat)/\((64*k+i:Nat):Int)<min hi (64*k))&&g (64*k+i)) r=0:=
  IM (λi _=>by rw[ζ Ω];rfl)
 have e3:cnt (λi=>decide (lo<=(64*k+i:Nat)/\((64*k+i:Nat):Int)<min hi (64*(k+1:Nat)))&&g (64*k+i)) r=pc y:=by
  unfold pc;rcases δ r 64 with h|h
  ·rw[QW (f:=y.testBit) (show r<=64 by omega) (λi h1 h2=>by rw[hy i h2,ζ Ω];rfl)];exact C2 (λi hi'=>by rw[hy i Ω];congr 1;apply ξy.2;omega)
  ·rw[QW h (λi h1 h2=>by rw[ζ Ω];rfl)];exact C2 (λi hi'=>by rw[hy i Ω];congr 1;apply ξy.2;omega)
 omega
theorem LA(l:List Bool)(a b:Int):EF l a b=E8 (at_ l) a b l.length:=C2 (λi _=>by unfold YL;grind)
theorem QP(l:List Bool)(a b:Int)(x:Bool):J4 l a b x=E8 (λi=>at_ l i !=x) a b l.length:=rfl
theorem WQ{a b:Int}(x:Bool)(h:b<=a):CX l a b x=l:=
 JF (GC ..) (λi hi=>by rw[PH _ _ _ _ _ (by rwa [GC]at hi),ψ Ω])
theorem XD7(l:List Bool)(f t:Int)(x:Bool):CX l (max f 0) (min t l.length) x=CX l f t x:=
 JF (by grind [GC]) (λi hi=>by
  grind [GC,PH])
theorem YM(g:Nat->Bool)(f t:Int)(n:Nat):E8 g (max f 0) (min t n) n=E8 g f t n:=
 ZVB (λi hi=>by grind)
theorem QF(lo hi:Int)(k j:Nat)(hj:j<64):(AP (lo-64*k) (hi-64*k)).testBit j=decide (lo<=(64*k+j:Nat)/\((64*k+j:Nat):Int)<hi):=by
 grind [WR]
theorem RW(l:List Bool)(lo hi:Int)(x:Bool)(i:Nat)(hh:hi<=l.length):at_ (CX l lo hi x) i=if lo<=i/\(i:Int)<hi then x else at_ l i:=by
 by_cases h:i<l.length
 ·grind [PH]
 ·rw[RS (by rw[GC];omega),ψ Ω,RS Ω]
theorem SJ(hk:(64*k:Int)<hi)(hh:hi<=l.length)(x:Bool)(j:Nat)(hj:j<64):(AZ (CX l lo (min hi (64*k)) x) k).testBit j=at_ l (64*k+j):=by
 rw[MB _ _ _ hj,RW _ _ _ _ _ Ω,ψ Ω]
theorem XEq(hh:hi<=l.length)(x:Bool)(j:Nat)(hj:j<64):(AZ (CX l lo (min hi (64*(k+1:Nat))) x) k).testBit j=if lo<=(64*k+j:Nat)/\((64*k+j:Nat):Int)<hi then x else at_ l (64*k+j):=by
 grind [MB,RW]
theorem VeX(hk:(64*k:Int)<hi)(hh:hi<=l.length):AZ (CX l lo (min hi (64*k)) true) k ||| AP (lo-64*k) (hi-64*k)=AZ (CX l lo (min hi (64*(k+1:Nat))) true) k:=by
 refine UX (VOD (FC _ _) (LB _ _)) (FC _ _) (λj hj=>?_)
 grind [SJ,QF,XEq]
theorem QlU(hk:(64*k:Int)<hi)(hh:hi<=l.length):IJ (AZ (CX l lo (min hi (64*k)) false) k) (AP (lo-64*k) (hi-64*k))=AZ (CX l lo (min hi (64*(k+1:Nat))) false) k:=by
 refine UX (UE _ _ (FC _ _)) (FC _ _) (λj hj=>?_)
 grind [QSR,SJ,QF,XEq]
theorem X3E(hk:(64*k:Int)<hi)(hh:hi<=l.length)(x:Bool)(hi':i≠k):AZ (CX l lo (min hi (64*k)) x) i=AZ (CX l lo (min hi (64*(k+1:Nat))) x) i:=by
 refine UX (FC _ _) (FC _ _) (λj hj=>?_);rw[MB _ _ _ hj,MB _ _ _ hj,RW _ _ _ _ _ Ω,RW _ _ _ _ _ Ω]
 grind
theorem XOq(hk:(64*k:Int)<hi)(hh:hi<=l.length):J4 l lo (min hi (64*k)) true+pc (IJ (AP (lo-64*k) (hi-64*k)) (AZ (CX l lo (min hi (64*k)) true) k))=J4 l lo (min hi (64*(k+1:Nat))) true:=
 X7 hk hh (λj hj=>by grind [QSR,QF,SJ])
theorem YDx(hk:(64*k:Int)<hi)(hh:hi<=l.length):J4 l lo (min hi (64*k)) false+pc (AP (lo-64*k) (hi-64*k) &&& AZ (CX l lo (min hi (64*k)) false) k)=J4 l lo (min hi (64*(k+1:Nat))) false:=
 X7 hk hh (λj hj=>by grind [QF,SJ])
theorem YpL(hk:(64*k:Int)<hi)(hh:hi<=l.length):E8 (at_ l) lo (min hi (64*k)) l.length+pc (AP (lo-64*k) (hi-64*k) &&& AZ l k)=E8 (at_ l) lo (min hi (64*(k+1:Nat))) l.length:=
 X7 hk hh (λj hj=>by grind [QF,MB])
theorem WJ(g:Nat->Bool)(a b:Int)(n:Nat):E8 g a b n<=n:=EY _ _
theorem XP8(l:List Bool)(a b:Int)(x:Bool):nw (CX l a b x)=nw l:=by unfold nw;rw[GC]
end Word
open Word
theorem AU{k:IntKind}{a b:Int}(h:a=b):Ending.returned (.int k a)=.returned (.int k b):=by rw[h]
theorem Zbf{a b:Bool}(h:a=b):Ending.returned (.bool a)=.returned (.bool b):=by rw[h]
theorem EP(a b:Nat)(ha:a<18446744073709551616)(hb:b<18446744073709551616):bits .and .u64 (a:Int) (b:Int)=((a &&& b:Nat):Int):=bits_and_u64_nat a b ha hb
theorem MQ(x:Nat)(hx:x<18446744073709551616):IntKind.u64.wrap (x:Int)=(x:Int):=IntWalk.u64_in _ Ω
theorem Xgm(x:Nat):IntKind.u64.wrap (x:Int)=((x%18446744073709551616:Nat):Int):=by rw[ζG];omega
theorem YLE(n:Int)(w:World):
  cQ 304 #[iI n] w (iI (E5 n)):=by
 go_enter func304,ntmps304;go_wp2
 all_goals (go_ret;exact⟨AU (by unfold E5;omega),rfl⟩)
theorem RK(a b:Int)(w:World):
  cQ 295 #[iI a,iI b] w (uU (AP a b:Nat)):=by
 have ha:=O6 a;have hb:=O6 b;go_enter func295,ntmps295;go_wp2_with(go_at_call 304;refine(YLE _ _).mono ?_;rintro e w' ⟨rfl,rfl⟩)
 ·go_ret;refine⟨AU ?_,rfl⟩;have:AP a b=0:=by unfold AP KW;grind
  omega
 ·go_ret;have h:E5 a<E5 b:=by assumption
  refine⟨AU ?_,rfl⟩
  grind [ZbW,MQ,LB]
theorem X6o(x:Nat):s1 8 x<18446744073709551616:=by
 unfold s1;have h1:(x/2) &&& rep 85 8<=rep 85 8:=ψs;have h2:x &&& rep 85 8<=rep 85 8:=ψs;have e:rep 85 8=6148914691236517205:=by decide +kernel
 omega
theorem ZAG(x:Nat):s2 8 x<18446744073709551616/2:=by
 unfold s2;have h1:(x/4) &&& rep 51 8<=rep 51 8:=ψs;have h2:x &&& rep 51 8<=rep 51 8:=ψs;have e:rep 51 8=3689348814741910323:=by decide +kernel
 omega
theorem Xhk(x:Nat):s3 8 x<18446744073709551616/2:=by
 unfold s3;have h2:(x/16+x) &&& rep 15 8<=rep 15 8:=ψs;have e:rep 15 8=1085102592571150095:=by decide +kernel
 omega
theorem oc1(x:Nat)(hx:x<18446744073709551616):
  IntKind.u64.wrap (bits .and .u64 ((x:Int)/2) 6148914691236517205+bits .and .u64 (x:Int) 6148914691236517205)=((s1 8 x:Nat):Int):=by
 have a1:=EP (x/2) 6148914691236517205 Ω (by decide);have a2:=EP x 6148914691236517205 hx (by decide);rw[show ((x:Int)/2)=((x/2:Nat):Int)by omega,show (6148914691236517205:Int)=((6148914691236517205:Nat):Int)from rfl,a1,a2];exact MQ _ (X6o x)
theorem oc2(x:Nat)(hx:x<18446744073709551616):
  IntKind.u64.wrap (bits .and .u64 ((x:Int)/4) 3689348814741910323+bits .and .u64 (x:Int) 3689348814741910323)=((s2 8 x:Nat):Int):=by
 have a1:=EP (x/4) 3689348814741910323 Ω (by decide);have a2:=EP x 3689348814741910323 hx (by decide);rw[show ((x:Int)/4)=((x/4:Nat):Int)by omega,show (3689348814741910323:Int)=((3689348814741910323:Nat):Int)from rfl,a1,a2];have e:rep 51 8=3689348814741910323:=by decide +kernel
 rw[<-ψi,<-e];exact MQ _ (by have:=ZAG x;unfold s2 at this;omega)
theorem oc3(x:Nat)(hx:x<18446744073709551616/2):
  bits .and .u64 (IntKind.u64.wrap ((x:Int)/16+(x:Int))) 1085102592571150095=((s3 8 x:Nat):Int):=by
 have a1:=EP (x/16+x) 1085102592571150095 Ω (by decide);rw[show ((x:Int)/16+(x:Int))=((x/16+x:Nat):Int)by omega,MQ _ Ω,show (1085102592571150095:Int)=((1085102592571150095:Nat):Int)from rfl,a1];have e:rep 15 8=1085102592571150095:=by decide +kernel
 unfold s3;rw[e]
theorem oc4(x d:Nat)(D:Int)(hD:D=(d:Int)):IntKind.u64.wrap ((x:Int)+(x:Int)/D)=(((x+x/d)%18446744073709551616:Nat):Int):=by
 rw[hD,<-ζ2,<-ψi,Xgm]
theorem oc5(x:Nat)(hx:x<18446744073709551616):bits .and .i64 (wrap64 (x:Int)) 127=((x%128:Nat):Int):=by
 rw[<-IntWalk.i64_left]
 have h2:(BitVec.ofInt 64 (IntKind.i64.wrap (x:Int))).toNat=x:=by
  rw[IntKind.wrap_i64,BitVec.toNat_ofInt];omega
 have h3:(BitVec.ofInt 64 (127:Int)).toNat=127:=by decide
 show IntKind.i64.wrap ((BitVec.ofInt 64 (IntKind.i64.wrap (x:Int)) &&& BitVec.ofInt 64 127).toNat:Int)=_
 rw[BitVec.toNat_and,h2,h3];have:x &&& 127=x%128:=Nat.and_two_pow_sub_one_eq_mod x 7;rw[this];exact ζp _ Ω
theorem JDA(x:Nat)(hx:x<18446744073709551616)(w:World):
  cQ 296 #[uU (x:Nat)] w (iI (pc x:Nat)):=by
 have HF:=YtC _ x rfl;obtain⟨y1,h1⟩:=ε (s1 8 x);obtain⟨y2,h2⟩:=ε (s2 8 y1);obtain⟨y3,h3⟩:=ε (s3 8 y2);have ht:t 8 x=y3:=by rw[h3,h2,h1];rfl
 rw[ht]at HF;have K1:=ι (h1▸oc1 x hx);have K2:=ι (h2▸oc2 y1 (h1▸X6o x));have K3:=ι (h3▸oc3 y2 (h2▸ZAG y1));obtain⟨z1,g1⟩:=ε ((y3+y3/256)%18446744073709551616);obtain⟨z2,g2⟩:=ε ((z1+z1/65536)%18446744073709551616);obtain⟨z3,g3⟩:=ε ((z2+z2/4294967296)%18446744073709551616);simp only[<-g1,<-g2,<-g3]at HF;have K4:=ι (g1▸oc4 y3 256 256 Ω);have K5:=ι (g2▸oc4 z1 65536 65536 Ω);have K6:=ι (g3▸oc4 z2 4294967296 4294967296 Ω);have K7:=(oc5 z3 Ω);clear h1 h2 h3 ht g1 g2 g3 hx;go_enter func296,ntmps296;go_upto_region 2 with(fail);rw[K1.o];go_upto_region 3 with(fail);rw[K2.o];go_upto_region 4 with(fail);rw[K3.o];go_upto_region 5 with(fail);rw[K4.o];go_upto_region 6 with(fail);rw[K5.o];go_upto_region 7 with(fail);rw[K6.o];go_wp2;go_ret
 simp_all
def AQ(w:World):Prop:=∀i,i<64->w.cell? ⟨1,i,none⟩=some (.int .u8 (tab.getD i 0:Nat))
theorem VvC(x:Nat)(h0:x≠0)(hx:x<18446744073709551616):IntKind.u64.wrap (-(x:Int))=((18446744073709551616-x:Nat):Int):=by
 rw[ζG];omega
theorem JZD(x:Nat)(hx:x<18446744073709551616)(w:World)(ht:x≠0->AQ w):
  cQ 299 #[uU (x:Nat)] w (iI (tz x:Nat)):=by
 by_cases h0:x=0
 ·subst h0;go_enter func299,ntmps299;go_wp2;go_ret;exact⟨AU (by rw[YYy];rfl),rfl⟩
 ·have hT:=ht h0;obtain⟨i1,i2⟩:=VnA hx h0;have hc:=hT _ i1;rw[i2]at hc;have hle:=ZtG x;have hb0:¬((x:Int)=0):=Ω
  obtain⟨nx,X⟩:=ε (18446744073709551616-x);obtain⟨m,hm⟩:=ε (x &&& nx);obtain⟨q,hq⟩:=ε (m*285870213051353865%18446744073709551616);obtain⟨ix,Y⟩:=ε (q/288230376151711744);have e:QB x=ix:=by unfold QB;rw[Y,hq,hm,X]
  have h7:IntKind.u64.wrap (-(x:Int))=(nx:Int):=by rw[X];exact VvC x h0 hx
  have h8:bits .and .u64 (x:Int) (nx:Int)=(m:Int):=by rw[hm];exact EP x nx hx Ω
  have h9:IntKind.u64.wrap ((m:Int)*285870213051353865)=(q:Int):=by
   rw[hq,show (m:Int)*285870213051353865=((m*285870213051353865:Nat):Int)by omega,Xgm]
  have h10:(q:Int)/288230376151711744=(ix:Int):=Ω
  rw[e]at hc i1;generalize tz x=k at *
  clear hx ht hT X hm hq Y e h0 i2;go_enter func299,ntmps299;go_wp2;go_ret;exact⟨rfl,rfl⟩
theorem Xm9(s:ByteArray)(v:Nat)(h:v<s.size)(hs:s.data.toList.map (λc=>(c.toNat:Int))=(List.range 256).map (λi=>len i)):((s[v]'h).toNat:Int)=len v:=by
 have h1:(s.data.toList.map (λc=>(c.toNat:Int)))[v]?=some ((s[v]'h).toNat:Int):=by
  rw[ξD,τ (show v<s.data.toList.length from h)];rfl
 grind
def K9(x y:Nat)(n:Int)(k:Nat):Prop:=y<2 ^ k/\len x=n+len y/\0<=n/\n+k<=64
theorem XI{n:Int}(h:K9 x y n k)(hk:k<=64)(hy:2 ^ j<=y)(hj2:k=2*j):K9 x (y/2 ^ j) (n+j) j:=by
 obtain⟨h1,h2,h3,h4⟩:=h;refine⟨?_,?_,?_,?_⟩
 ·refine(ζC (Nat.two_pow_pos j)).2 (ϑ h1 ?_);rw[<-Nat.pow_add];grind
 ·rw[h2,Jm1 (ϑ h1 (Nat.pow_le_pow_right (by decide) hk)) hy];omega
 ·omega
 ·omega
theorem X1{n:Int}(h:K9 x y n k)(hj:j<=k)(hy:¬2 ^ j<=y):K9 x y n j:=by
 obtain⟨h1,h2,h3,h4⟩:=h;exact⟨by omega,h2,h3,by omega⟩
theorem Z4f(x:Nat)(hx:x<18446744073709551616)(w:World):
  cQ 277 #[uU (x:Nat)] w (iI (len x)):=by
 have X:K9 x x 0 64:=⟨hx,by omega,by omega,by omega⟩;go_enter func277,ntmps277;go_upto_if 4 with(fail);go_cut [0,2]from 3 (λa b w'=>w'=w/\∃(y:Nat) (n:Int),K9 x y n 32/\a=uU y/\b=iI n)
 case first=>
  rcases δ x (2 ^ 32)with h|h
  ·have L:=X1 X (show 32<=64 by decide) Ω;have hd:decide ((4294967296:Int)<=(x:Int))=false:=by simp;omega
   rw[hd];go_wp2
   go_meet
   grind
  ·have L:=XI (j:=32) X (by decide) h (by rfl);have hd:decide ((4294967296:Int)<=(x:Int))=true:=by simp;omega
   rw[hd];go_wp2
   go_meet
   grind
 case rest=>
  obtain⟨rfl,y,n,hy,rfl,rfl⟩:=hcut;go_upto_if 8 with(fail);go_cut [0,2]from 3 (λa b w'=>w'=wc/\∃(y:Nat) (n:Int),K9 x y n 16/\a=uU y/\b=iI n)
  case first=>
   rcases δ y (2 ^ 16)with h|h
   ·have L:=X1 hy (show 16<=32 by decide) Ω;have hd:decide ((65536:Int)<=(y:Int))=false:=by simp;omega
    rw[hd];go_wp2
    go_meet
    grind
   ·have L:=XI (j:=16) hy (by decide) h (by rfl);have hd:decide ((65536:Int)<=(y:Int))=true:=by simp;omega
    have hb:=hy.2.2;rw[hd];go_wp2
    go_meet
    grind
  case rest=>
   obtain⟨rfl,z,n2,hz,rfl,rfl⟩:=hcut;go_upto_if 14 with(fail);go_cut [0,2]from 3 (λa b w'=>w'=wc/\∃(y:Nat) (n:Int),K9 x y n 8/\a=uU y/\b=iI n)
   case first=>
    rcases δ z (2 ^ 8)with h|h
    ·have L:=X1 hz (show 8<=16 by decide) Ω;have hd:decide ((256:Int)<=(z:Int))=false:=by simp;omega
     rw[hd];go_wp2
     go_meet
     grind
    ·have L:=XI (j:=8) hz (by decide) h (by rfl);have hd:decide ((256:Int)<=(z:Int))=true:=by simp;omega
     have hb:=hz.2.2;rw[hd];go_wp2
     go_meet
     grind
   case rest=>
    obtain⟨rfl,v,n3,hv,rfl,rfl⟩:=hcut;have hb:=hv.2.2;have hv1:(v:Int)<256:=by have:=hv.1;omega
    go_wp2;go_ret;refine⟨AU ?_,rfl⟩;rw[Xm9 _ v _ (by decide +kernel)];have b:=T8 v;rw[ξY (len v) Ω,ξY _ Ω];have:=hv.2.1;omega
theorem MO(x y:Nat)(hx:x<18446744073709551616):x &&& y<18446744073709551616:=ξx ψN hx
theorem VW(x:Nat)(hx:x<18446744073709551616)(a b:Int)(w:World):
  cQ 269 #[uU (x:Nat),iI a,iI b] w (iI (pc (x &&& AP a b):Nat)):=by
 have K:=(EP x (AP a b) hx (LB a b));have hm:=(MO x (AP a b) hx);go_enter func269,ntmps269
 go_wp2_with(first|(go_at_call 295;refine Qa (RK _ _ _) λw' rfl=>?_)|(go_at_call 296;refine Qa (JDA _ hm _) λw' rfl=>?_))
 go_ret
 simp_all
theorem QaB(x:Nat)(hx:x<18446744073709551616)(a:Int)(w:World)(ht:AQ w):
  cQ 286 #[uU (x:Nat),iI a] w (iI (tz (x &&& AP a 64):Nat)):=by
 have K:=(EP x (AP a 64) hx (LB a 64));have hm:=(MO x (AP a 64) hx);go_enter func286,ntmps286
 go_wp2_with(first|(go_at_call 295;refine(RK _ _ _).mono ?_;rintro e w' ⟨rfl,rfl⟩)|(go_at_call 299;refine(JZD _ hm _ (λ_=>ht)).mono ?_;rintro e w' ⟨rfl,rfl⟩))
 go_ret
 simp_all
theorem Ydz(x:Nat)(hx:x<18446744073709551616)(b:Int)(w:World):
  cQ 300 #[uU (x:Nat),iI b] w (iI (len (x &&& AP 0 b)-1)):=by
 have K:=(EP x (AP 0 b) hx (LB 0 b));have hm:=(MO x (AP 0 b) hx);have hl:=T8 (x &&& AP 0 b);go_enter func300,ntmps300
 go_wp2_with(first|(go_at_call 295;refine Qa (RK _ _ _) λw' rfl=>?_)|(go_at_call 277;refine Qa (Z4f _ hm _) λw' rfl=>?_))
 go_ret
 simp_all
def C0(n:Int):Bool:=decide (0<n)&&(bits .and .i64 n (n-1)==0)
theorem KY(n:Int)(hn:n<=9223372036854775807)(w:World):cQ 182 #[iI n] w (.bool (C0 n)):=by
 by_cases h:0<n
 ·have d1:decide (0<n)=true:=by simp[h]
  have e1:C0 n=(bits .and .i64 n (n-1)==0):=by unfold C0;rw[d1];rfl
  rw[e1];generalize hb:bits .and .i64 n (n-1)=z;go_enter func182,ntmps182;go_wp2;go_ret
  simp_all
 ·have d1:decide (0<n)=false:=by simp;omega
  have e1:C0 n=false:=by unfold C0;rw[d1];rfl
  go_enter func182,ntmps182;go_wp2;go_ret
  simp_all
def BQ(n:Int):Bool:=[1,2,4,8,16,32,64,128,256,512,1024].contains n
theorem Vp3:∀m:Fin 1025,C0 (m.1:Int)=BQ (m.1:Int):=by decide +kernel
theorem DR{n:Int}(h:BQ n=true):1<=n/\n<=1024:=by
 simp[BQ]at h;omega
theorem OA(n:Int):BQ n=(C0 n&&decide (n<=1024)):=by
 by_cases h:0<=n/\n<=1024
 ·obtain⟨m,rfl⟩:∃m:Nat,n=m:=⟨n.toNat,by omega⟩;have:=Vp3 ⟨m,by omega⟩
  simp_all
 ·cases hb:BQ n with
  | true=>have:=DR hb;omega
  | false=>
   by_cases h2:n<=1024
   ·unfold C0;grind
   simp_all
open Go.ChangeShapes Go.WideShapes Go.ChangeAt
theorem own:ownKnob prog.godebug=none:=by kernel_rfl
theorem Vh3:prog.globalNamed "math/bits.deBruijn64tab"=some 1:=by kernel_rfl
theorem ZrU:(prog.globals[1]?).map (·.type)=some 369:=by kernel_rfl
theorem YIX:prog.cellsOf 369=64:=by kernel_rfl
theorem QpH:prog.cellsOf 5=1:=by kernel_rfl
theorem Z6L:laidOutB prog=true:=by kernel_rfl
theorem Zgl(h:laidMetH prog [("math/bits.deBruijn64tab",Rows.laid_math_bits_deBruijn64tab)] W):AQ W:=by
 have ht:Lib.TabIs prog W "math/bits.deBruijn64tab" .u8 (tab.map λx:Nat=>(x:Int)):=Lib.tabIs_of_head (rest:=[]) Vh3 ZrU underlying369 underlying5 QpH YIX h;intro i hi;have X:i<tab.length:=hi;rw[ht.cell Vh3 i (by exact X)]
 simp_all
noncomputable def laidWorld (os:Os):World:=
 {World.holding prog os ⟨#[],#[],[]⟩with heap:=(World.holding prog os ⟨#[],#[],[]⟩).heap.modify 1 λ
   | .cells _ t frozen=>.cells (tab.map λx:Nat=>Value.int .u8 (x:Int)).toArray t frozen
   | o=>o}
section
variable{enc:TypeId × Value->H}
theorem YpW(hl:laidOutB P=true):∀{ts:List TypeId} {vs:List Value} {ds:List (DataW H)} {ps:List MemPlace},(∀t∈ts,P.readableRec t=true/\t<P.types.size) →
  DataW.TrodAll enc P W 0 (λ_=>true) true ts vs ds ps->Below W.heap.size W W'->(∀x∈ps,x.block<W.heap.size)->DataW.TrodAll enc P W' 0 (λb=>decide (b<W.heap.size)) true ts vs ds ps
 | [],[],[],_,_,h,_,_=>h
 | _ :: _,_ :: _,_ :: _,_,ht,⟨p,q,h1,h2,e⟩,hb,hp=>
  ⟨p,q,Below.trod hl (ht _ (ξC.2 (.inl rfl))).1 (ht _ (ξC.2 (.inl rfl))).2 h1 hb (λx hx=>hp x (by simp_all)),
   YpW hl (λt h=>ht t (ξC.2 (.inr h))) h2 hb (λx hx=>hp x (by simp_all)),e⟩
end
theorem Zfn{enc:TypeId×Value->H}{f:Func}{s:ChangeSpec}{ds gs:List (DataW H)}{before:List MemPlace}
  (hW:DataW.Whole enc prog f.params.toList s.vars false W args.toList ds gs before) (hv:s.vars=[]) (hr:f.resultTypes=#[4]) (hp:∀t∈f.params.toList,prog.readableRec t=true/\t<prog.types.size)
  (hs:s.fn H (ds++gs)={results:=[.lit (.bool true)],args:=ds}) (hg:Gr W W'):s.post enc prog f false true false false W args (.bool true) W':=by
 have hlt:=hW.lt;have X:=hW;obtain⟨p,q,hA,hV,rfl,_,_⟩:=hW;have hb:Below W.heap.size W W':=(hg.touch (λ_=>False)).below (μ _) (λ_ _ h=>h);rw[hv]at hV
 obtain⟨rfl,rfl⟩:gs=[]/\q=[]:=by
  cases gs with
  | nil=>exact⟨rfl,hV⟩
  | cons g r=>exact absurd hV (by intro h;cases h)
 refine⟨ds,[],p++[],[],p,[],X,?_,?_,?_,hb.frame _,λh=>by cases h⟩
 ·rw[hs,hr];exact trodAll_mk1 (shut_bool underlying4 true)
 ·grind [YpW,Z6L,ξq]
 ·rw[hs,hv];rfl
theorem QvD{a:Addr}(h:w.cell? a=some v):a.spot=none:=by
 unfold World.cell? at h
 split at h
 ·cases hs:a.spot with
  | none=>rfl
  | some x=>rw[hs]at h;simp at h
 ·cases h
theorem VEB{a:Addr}(h:w.cell? a=some v):a.block<w.heap.size:=by
 unfold World.cell? at h;rcases δ a.block w.heap.size with h1|h1
 ·exact h1
 ·rw[ψL h1]at h;cases h
theorem V0{α:Type}(R:Nat->α->Prop):∀n,(∀i,i<n->∃x,R i x)->∃l:List α,l.length=n/\∀i (h:i<l.length),R i l[i]
 | 0,_=>⟨[],rfl,λi h=>absurd h (by simp)⟩
 | n+1,h=>by
  obtain⟨l,hl,hR⟩:=V0 R n (λi hi=>h i Ω);obtain⟨x,hx⟩:=h n Ω;refine⟨l++[x],by simp[hl],λi hi=>?_⟩;by_cases e:i<l.length
  ·rw[ζJ e];exact hR i e
  ·have:i=n:=by simp at hi;omega
   subst this;rw[ψe Ω];simpa[hl]using hx
theorem VuI{a:Int}(hn:∀i,i<k->¬(at_ l i=true/\a<=i))(h:at_ l k=true)(ha:a<=k):BX l a=k/\BX l a<l.length:=by
 have hl:=GL h
 have e:BX l a=k:=GW Ω (λi hi=>by
  simp_all) (λ_=>by simp_all)
 omega
theorem XoQ{a:Int}(hn:∀i,i<l.length->¬(at_ l i=true/\a<=i)):BX l a=l.length:=
 GW Ω (λi hi=>by
  simp_all) (λh=>by omega)
theorem YBm{b:Int}(hn:∀i:Nat,k<i->¬(at_ l i=true/\(i:Int)<b))(h:at_ l k=true)(hb:(k:Int)<b):FA l b=k:=by
 have hl:=GL h;refine ME Ω Ω (λi hi _=>?_) (λ_=>by simp_all)
 simp_all
theorem Xaz{b:Int}(hn:∀i:Nat,¬(at_ l i=true/\(i:Int)<b)):FA l b = -1:=by
 refine ME Ω Ω (λi hi _=>?_) (λh=>by omega)
 simp_all
def LT(l:List Bool)(q:Int):Int:=if q<0 then 0 else KD l.length (C4 l q.toNat)
def OJ(l:List Bool)(q:Int):Bool:=decide (0<=q)&&decide (C4 l q.toNat<l.length)
theorem YTa(h:at_ l k=true)(hc:cnt (at_ l) k=q):C4 l q=k/\C4 l q<l.length:=by
 have e:C4 l q=k:=ZZ (GL h) h hc;exact⟨e,by rw[e];exact GL h⟩
structure BG(w:World)(p b:Nat)(l:List Bool):Prop where
 ne:p≠b
 hp:p<w.heap.size
 hb:b<w.heap.size
 n1:1<=l.length
 n2:l.length<=1048576
 c0:∃cap,nw l<=cap/\cap<=maxLen/\w.cell? ⟨p,0,none⟩=some (.slice (some ⟨b,0,none⟩) (nw l) cap)
 c1:w.cell? ⟨p,1,none⟩=some (iI l.length)
 cw:∀i,i<nw l->w.cell? ⟨b,i,none⟩=some (uU (AZ l i:Nat))
 fw:∀i,w.frozen? ⟨b,i,none⟩=false
theorem BG.touch(h:BG w p b l)(t:AB S w w')(h1:¬S p)(h2:¬S b):BG w' p b l:=by
 obtain⟨X,a1,a2,a3⟩:=h.c0
 exact⟨h.ne,ϑ h.hp t.size,ϑ h.hb t.size,h.n1,h.n2,⟨X,a1,a2,by rw[t.cell h.hp h1];exact a3⟩,by rw[t.cell h.hp h1];exact h.c1,
  λi hi=>by rw[t.cell h.hb h2];exact h.cw i hi,λi=>by rw[t.frozen h.hb h2];exact h.fw i⟩
theorem BG.gr(h:BG w p b l)(t:Gr w w'):BG w' p b l:=h.touch (t.touch (λ_=>False)) (λh=>h) (λh=>h)
def I6(l:List Bool)(i:Int):Int:=if i<0\/(l.length:Int)<=i then 11 else 0
theorem V1(h1:1<=l.length)(h2:l.length<=1048576):1<=nw l/\nw l<=16384:=by unfold nw;omega
theorem OC(h:i<l.length):i/64<nw l:=by unfold nw;omega
theorem YB(hV:BG w p b l)(i:Int):
  cQ 291 #[pP p,iI i] w (iI (I6 l i)):=by
 have c1:=hV.c1;by_cases h0:i<0
 ·go_enter func291,ntmps291;go_wp2;go_ret;exact⟨AU (by unfold I6;omega),rfl⟩
 ·by_cases h1:(l.length:Int)<=i
  ·go_enter func291,ntmps291;go_wp2;go_ret;exact⟨AU (by unfold I6;omega),rfl⟩
  ·go_enter func291,ntmps291;go_wp2;go_ret;exact⟨AU (by unfold I6;omega),rfl⟩
theorem JJ(hV:BG w p b l):
  cQ 217 #[pP p] w (iI l.length):=by
 have c1:=hV.c1;go_enter func217,ntmps217;go_wp2;go_ret
 simp_all
theorem XG7(x j:Nat)(hx:x<18446744073709551616):(bits .and .u64 ((x:Int)/2 ^ j) 1==1)=x.testBit j:=by
 have e:((x:Int)/2 ^ j)=((x/2 ^ j:Nat):Int):=by simp
 have h:=EP (x/2 ^ j) 1 (ξx (ζV _ _) hx) (by decide)
 grind
theorem X89(hV:BG w p b l)(i:Int):
  cQ 261 #[pP p,iI i] w (.bool (decide (0<=i)&&at_ l i.toNat)):=by
 by_cases hin:0<=i/\i<l.length
 ·obtain⟨k,rfl⟩:∃k:Nat,i=k:=⟨i.toNat,by omega⟩;have hk:k<l.length:=Ω
  have hc:=hV.cw _ (OC hk);obtain⟨cap,a1,a2,c0⟩:=hV.c0;have e0:I6 l (k:Int)=0:=by unfold I6;rw[ψ Ω]
  have n2:=hV.n2;have hd:=OC hk;have HV:=hV;go_enter func261,ntmps261;go_wp2_with(go_at_call 291;refine(YB HV _).mono ?_;rintro e w' ⟨rfl,rfl⟩);go_ret;refine⟨Zbf ?_,rfl⟩;rw[XG7 _ _ (FC l _),PK,φ (show k%64<64 by omega),φ (show (0:Int)<=k by omega),β];simp only[ψg,at_];rw[show 64*(k/64)+k%64=k by omega]
 ·have e0:(decide (0<=i)&&at_ l i.toNat)=false:=by
   by_cases h:0<=i
   ·rw[RS Ω];simp
   ·simp[h]
  rw[e0];have e1:I6 l i=11:=by unfold I6;rw[θ Ω]
  have HV:=hV;go_enter func261,ntmps261;go_wp2_with(go_at_call 291;refine(YB HV _).mono ?_;rintro e w' ⟨rfl,rfl⟩);go_ret;exact⟨rfl,rfl⟩
theorem VLp(j:Nat):IntKind.u64.wrap (2 ^ (j%64))=((2 ^ (j%64):Nat):Int):=by
 have:=MQ (2 ^ (j%64)) (WS j)
 assumption
theorem YyP(a b:Nat)(ha:a<18446744073709551616):bits .andNot .u64 (a:Int) (b:Int)=((IJ a b:Nat):Int):=by
 have h1:(BitVec.ofInt 64 (a:Int)).toNat=a:=by
  simp_all
 have h2:(BitVec.ofInt 64 (b:Int)).toNat=b%18446744073709551616:=by
  simp_all
 show IntKind.u64.wrap ((BitVec.ofInt 64 (a:Int) &&& ~~~ BitVec.ofInt 64 (b:Int)).toNat:Int)=_
 rw[BitVec.toNat_and,BitVec.toNat_not,h1,h2];exact MQ _ (UE a b ha)
theorem BG.set(h:BG w p b l)(k:Nat)(x:Bool)(hk:k<l.length)(hy:y=AZ (l.set k x) (k/64)):
  BG (w.setCell ⟨b,k/64,none⟩ (.int .u64 (y:Nat))) p b (l.set k x)/\AB (λi=>i=b) w (w.setCell ⟨b,k/64,none⟩ (.int .u64 (y:Nat))):=by
 have t:AB (λi=>i=b) w (w.setCell ⟨b,k/64,none⟩ (.int .u64 (y:Nat))):=(AB.refl (λi=>i=b) w).setCell (a:=⟨b,k/64,none⟩) (λ_=>rfl) _;refine⟨⟨h.ne,ϑ h.hp t.size,ϑ h.hb t.size,by simp[h.n1],by simp[h.n2],?_,?_,?_,?_⟩,t⟩
 ·obtain⟨X,a1,a2,a3⟩:=h.c0;exact⟨X,by grind [WL],a2,by rw[t.cell h.hp h.ne,a3,WL]⟩
 ·rw[t.cell h.hp h.ne,h.c1,ζa]
 ·intro i hi;rw[WL]at hi;by_cases e:i=k/64
  ·subst e;rw[hy];exact ξu (h:=h.cw _ hi) ..
  ·rw[ξG (h:=by simp_all),h.cw i hi,Ywt l k i x hk e]
 ·intro i;rw[ξh];exact h.fw i
theorem ZYZ(hV:BG w p b l)(k:Nat)(hk:k<l.length):Calls prog 255 #[pP p,iI k] w λe w'=>e=.returned (iI 0)/\AB (λi=>i=b) w w'/\BG w' p b (l.set k true):=by
 have hc:=hV.cw _ (OC hk);have hf:=hV.fw (k/64);obtain⟨cap,a1,a2,c0⟩:=hV.c0;have e0:I6 l (k:Int)=0:=by unfold I6;rw[ψ Ω]
 have n2:=hV.n2;have hd:=OC hk;have HV:=hV;go_in;go_wp2_with(go_at_call 291;refine(YB HV _).mono ?_;rintro e w' ⟨rfl,rfl⟩)
 go_region
 have hv:bits BinOp.or IntKind.u64 (AZ l (k/64)) (IntKind.u64.wrap (2 ^ (k%64)))=((AZ l (k/64) ||| 2 ^ (k%64):Nat):Int):=by
  rw[VLp];exact bits_or_u64_nat _ _ (FC _ _) (WS k)
 rw[hv];have X:=hV.set k true hk (JLE l k hk).symm;go_wp2;go_ret;exact⟨rfl,X.2.drew,X.1.gr ((Gr.refl _).drew)⟩
theorem BT{a b c d:Value}(h:a=c)(h2:b=d):Ending.returned (.tuple #[a,b])=.returned (.tuple #[c,d]):=by rw[h,h2]
theorem BR{k:IntKind}{a b:Int}(h:a=b):Value.int k a=.int k b:=by rw[h]
theorem NC{a b:Bool}(h:a=b):Value.bool a=.bool b:=by rw[h]
theorem L3(hV:BG w p b l)(hT:AQ w)(i:Int):Calls prog 251 #[pP p,iI i] w λe w'=>
   e=.returned (.tuple #[iI (KD l.length (BX l i)),.bool (decide (BX l i<l.length))])/\w=w':=by
 have c1:=hV.c1;have n2:=hV.n2;by_cases Y:(l.length:Int)<=i
 ·have e:=(Z5e Y);go_in;go_wp2;go_ret2;exact⟨BT (BR (by rw[e,O1 Ω])) (NC (by rw[e];simp)),rfl⟩
 ·obtain⟨a,ha⟩:=ε (i.toNat:Nat);rw[ZMZ l i,<-ha];have M:a<l.length:=by have:=hV.n1;omega
  obtain⟨cap,a1,a2,c0⟩:=hV.c0;have J:=V1 hV.n1 hV.n2;have U:=hV.cw;have HC:=U;have HT:=hT;clear hT hV U;go_in;go_upto_region 3 with(fail);go_cut [1]from 9 (λv w'=>w'=w/\v=iI a)
  case first=>
   by_cases hneg:i<0
   ·go_wp2
    all_goals (go_meet;case rel=>exact⟨rfl,BR Ω⟩)
   ·go_wp2
    all_goals (go_meet;case rel=>exact⟨rfl,BR Ω⟩)
  case rest=>
   obtain⟨rfl,rfl⟩:=hcut;have hal':=OC M;have HN:=(λk (h:nw l<=k)=>λfr (h2:LR l a (64*k+fr))=>JRu h2 h);clear Y ha c1 n2 a1 a2;generalize nw l=m at *
   have hm:m<=16384:=J.2;clear J;go_wp2
   go_loop [6,7] (λk fr=>∃k' fr':Nat,k'<=m/\fr' < 64/\a<=64*k' + fr'/\Hid (LR l a (64*k' + fr'))/\k=iI k'/\fr=iI fr') (λk _=>m-(intOf k).toNat)
   case atStart=>exact⟨a/64,a%64,by omega,by omega,by omega,⟨X3L l a⟩,by go_num,by go_num⟩
   case round=>
    obtain⟨k,fr,hk,hfr,V,X,rfl,rfl⟩:=hrel;by_cases Z:k<m
    ·have hc:=HC k Z;have HI:=(YeH X.o V);have MI:=(ZMX X.o Ω);have hw:=(FC l k);have ht64:=ZtG (AZ l k &&& AP fr 64);generalize hq:tz (AZ l k &&& AP fr 64)=q at *
     have HQ:=ι hq;clear hq X;go_wp2_with(go_at_call 286;refine(QaB _ hw _ _ HT).mono ?_;rintro e w' ⟨rfl,rfl⟩;rw[HQ.o])
     ·have h:q<64:=Ω
      go_ret2;obtain⟨h1,h2⟩:=HI h;exact⟨BT (BR (by rw[JK h2,h1];omega)) (NC (by simp[h2])),rfl⟩
     ·go_round
      case rel=>exact⟨k+1,0,by omega,by omega,by omega,⟨MI Ω⟩,by go_num,by go_num⟩
      case measure=>simp[intOf];omega
    ·have NO:=ι (HN k Ω fr X.o);have hlt':m<=k:=Ω
     clear X Z;go_wp2;go_ret2;exact⟨BT (BR (by rw[NO.o,O1 Ω])) (NC (by rw[NO.o];simp)),rfl⟩
theorem YA(hV:BG w p b l)(i:Int):Calls prog 287 #[pP p,iI i] w λe w'=>
   e=.returned (.tuple #[iI (R9 (FA l i)),.bool (decide (0<=FA l i))])/\w=w':=by
 have c1:=hV.c1;have n2:=hV.n2;by_cases X:i<=0
 ·have e:=(Q9t (l:=l) X);go_in;go_wp2;go_ret2;exact⟨BT (BR (by rw[e];rfl)) (NC (by rw[e];simp)),rfl⟩
 ·obtain⟨a,ha⟩:∃a:Nat,(a:Int)=min i l.length:=⟨(min i l.length).toNat,by omega⟩;rw[ZAa l i,<-ha];have h1:1<=a:=by have:=hV.n1;omega
  have hal:a<=l.length:=Ω
  obtain⟨cap,a1,a2,c0⟩:=hV.c0;have hnb:=V1 hV.n1 hV.n2;have U:=hV.cw;have HC:=U;go_in;go_upto_region 3 with(fail);go_cut [1]from 8 (λv w'=>w'=w/\v=iI a)
  case first=>
   by_cases hneg:i<l.length
   ·go_wp2
    all_goals (go_meet;case rel=>exact⟨rfl,BR Ω⟩)
   ·go_wp2
    all_goals (go_meet;case rel=>exact⟨rfl,BR Ω⟩)
  case rest=>
   obtain⟨rfl,rfl⟩:=hcut;have hal':(a-1)/64<nw l:=OC Ω;have Z:M8 l (a:Int) (64*(((a-1)/64:Nat):Int)+64):=λi h1 h2=>by omega
   have HS:=Z;have a64:a<=1048576:=Ω
   clear X ha c1 n2 a1 a2 Z;generalize nw l=m at *
   go_wp2
   go_loop [6] (λk=>∃k':Nat,k'<=m/\Hid (M8 l a (64*((k':Int)-1)+64))/\k=iI ((k':Int)-1)) (λk=>(intOf k+1).toNat)
   case atStart=>exact⟨(a-1)/64+1,by omega,⟨by have:=HS;rwa [show 64*((((a-1)/64+1:Nat):Int)-1)+64=64*(((a-1)/64:Nat):Int)+64 by omega]⟩,by go_num⟩
   case round=>
    obtain⟨k',hk,J,rfl⟩:=hrel;cases k' with
    | zero=>
     have NO:=ι (JS8 J.o Ω);go_wp2;go_ret2;exact⟨BT (BR (by rw[NO.o];rfl)) (NC (by rw[NO.o];simp)),rfl⟩
    | succ k=>
     have hc:=HC k Ω;have Y:M8 l a (64*(k:Int)+64):=by have:=J.o;rwa [show ((k+1:Nat):Int)-1=k by omega]at this
     rw[show ((k+1:Nat):Int)-1=k by omega];have HI:=(Xu4 Y);have MI:=(JlV Y);have hw:=(FC l k);have ht64:=T8 (AZ l k &&& AP 0 ((a:Int)-64*k));generalize hq:len (AZ l k &&& AP 0 ((a:Int)-64*k))=q at *
     have HQ:=hq;go_wp2_with(go_at_call 300;refine(Ydz _ hw _ _).mono ?_;rintro e w' ⟨rfl,rfl⟩;rw[HQ])
     ·have h:0<=q-1:=Ω
      go_ret2;have h1:=HI h;exact⟨BT (BR (by rw[h1];unfold R9;rw[θ Ω])) (NC (by rw[h1];simp;omega)),rfl⟩
     ·go_round
      case rel=>exact⟨k,by omega,⟨by have:=MI Ω;rwa [show 64*((k:Int)-1)+64=64*(k:Int)by omega]⟩,by go_num⟩
      case measure=>simp[intOf]
def JJZ(I:Nat->World->Prop)(lo:Nat)(hi:Int)(W:World):Prop:=∃k,lo/64<=k/\((lo:Int)<hi->hi<=64*k)/\I k W
theorem V9(g:FuncId)(bx:Addr)(p b n m c:Nat)(I:Nat->World->Prop)
  (hg:∀args W,(callFunc g args).run prog W=.ok (.enter g args) W)
  (hI:∀k W,I k W->W.cell? ⟨p,0,none⟩=some (.slice (some ⟨b,0,none⟩) m c)/\W.cell? ⟨p,1,none⟩=some (iI n))
  (hD:∀k W d,I k W->I k (W.drewN d))
  (hm:n<=64*m) (hn:(n:Int)<=1048576) (f t:Int) (hf64:f<=9223372036854775807) (lo:Nat) (hlo:(lo:Int)=max f 0) (hi:Int) (hhi:hi=min t n)
  (hstep:∀k W,lo/64<=k->(64*k:Int)<hi->(lo:Int)<hi->I k W →
   Calls prog g #[.pointer (some ⟨b,k,none⟩),uU (AP ((lo:Int)-64*k) (hi-64*k):Nat),.pointer (some bx)] W (λe W'=>e=.returned (.tuple #[])/\I (k+1) W'))
  (w:World) (h0:I (lo/64) w):Calls prog 267 #[pP p,iI f,iI t,.func (.func g) #[] #[.pointer (some bx)]] w λe W'=>
   e=.returned (.tuple #[])/\JJZ I lo hi W':=by
 obtain⟨c0,c1⟩:=hI _ _ h0;have HI:=hI;have HD:=hD;have HS:=hstep;have H0:=h0;go_in;go_upto_region 1 with(fail);go_cut [1,2]from 9 (λu v w'=>u=iI lo/\v=iI hi/\∃d,w'=w.drewN d)
 case first=>
  have M:f<0\/0<=f:=Ω
  have V:t<n\/(n:Int)<=t:=Ω
  rcases M with hf|hf <;> rcases V with ht|ht
  all_goals
   go_wp2
   go_region
  all_goals go_wp2
  all_goals (go_meet;case rel=>exact⟨BR Ω,BR Ω,1,rfl⟩)
 case rest=>
  obtain⟨rfl,rfl,d,rfl⟩:=hcut;have H1:=ι (HD _ _ d H0);have hhi2:hi<=n:=Ω
  have hlo2:(0:Int)<=lo:=Ω
  have Z:(lo:Int)<=9223372036854775807:=Ω
  clear hhi hlo c0 c1 H0;by_cases X:(lo:Int)<hi
  ·have hln:(lo:Int)<1048576:=Ω
   have hin:hi<=1048576:=Ω
   have hpos:1<=hi:=Ω
   have hm2:hi<=64*m:=Ω
   go_upto_region 2 with(fail);go_wp2
   go_loopw [8] (λi W=>∃k:Nat,lo/64<=k/\Hid (I k W)/\i=iI k) (λi _=>(hi+64-64*intOf i).toNat)
   case atStart=>exact⟨lo/64,by omega,H1,by go_num⟩
   case round=>
    obtain⟨k,hk,Y,rfl⟩:=hrel;by_cases N:(64*k:Int)<hi
    ·have U:(k:Int)<=(hi-1)/64:=Ω
     have hkm:k<m:=Ω
     obtain⟨c0,c1⟩:=HI _ _ Y.o;have HC:=(HS k wr.drew hk N X (HD _ _ 1 Y.o));go_upto_region 5 with(fail);have S1:=ι (ζp (64*(k:Int)) Ω);have S2:=(ζp ((lo:Int)-64*(k:Int)) Ω);have S3:=(ζp (hi-64*(k:Int)) Ω)
     go_region_with (first|(go_at_call 295;rw[S1.o,S2,S3];refine(RK _ _ _).mono ?_;rintro e w' ⟨rfl,rfl⟩)|(refine HC.mono ?_;rintro e W2 ⟨rfl,h2⟩))
     all_goals
      go_wp2;go_roundw
      case rel=>exact⟨k+1,by omega,⟨h2⟩,by go_num⟩
      case measure=>simp[intOf];omega
    ·have U:¬(k:Int)<=(hi-1)/64:=Ω
     go_wp2
     go_end0
     exact⟨rfl,k,hk,λ_=>by omega,Y.o⟩
  ·have hlw:(lo:Int)<=9223372036854775807:=Z;have hlw2:¬(lo:Int)<hi:=X;have J:=X;go_wp2
   go_loopw [8] (λi W=>W=w.drewN d/\i=iI (lo/64:Nat)) (λ_ _=>0)
   case atStart=>exact⟨rfl,by go_num⟩
   case round=>
    obtain⟨rfl,rfl⟩:=hrel;go_wp2
    go_end0
    exact⟨rfl,lo/64,μ _,λh=>absurd h (by have:=J;omega),H1.o⟩
theorem Vz5(w:World)(b k x m:Nat)(bx:Nat)(n:Int)(hx:x<18446744073709551616)(hm:m<18446744073709551616)
  (hc:w.cell? ⟨b,k,none⟩=some (uU x)) (hf:w.frozen? ⟨b,k,none⟩=false) (hb:w.cell? ⟨bx,0,none⟩=some (iI n)) (hfb:w.frozen? ⟨bx,0,none⟩=false) (hne:b≠bx) (hn0:0<=n) (hn:n<=1048576):Calls prog 288 #[.pointer (some ⟨b,k,none⟩),uU m,pP bx] w λe w'=>
   e=.returned (.tuple #[])/\∃d,w'=((w.setCell ⟨bx,0,none⟩ (.int .i64 (n+pc (IJ m x):Int))).setCell ⟨b,k,none⟩ (.int .u64 (x ||| m:Nat))).drewN d:=by
 have KA:=ι (YyP m x hm);have KO:=ι (bits_or_u64_nat x m hx hm);have HL:=(UE m x hm);have HX:=(YI (IJ m x) (UE m x hm));have hp:=WN (IJ m x);have HW:=ι (ζp (n+pc (IJ m x)) Ω);go_in;go_upto_region 0 with(fail)
 go_region_with (go_at_call 269;rw[KA.o];refine(VW _ HL _ _ _).mono ?_;rintro e w' ⟨rfl,rfl⟩;rw[HX])
 all_goals
  rw[HW.o];go_wp2;rw[KO.o]
  go_end0
  exact⟨rfl,1,rfl⟩
theorem Jyf(w:World)(b k x m:Nat)(bx:Nat)(n:Int)(hx:x<18446744073709551616)(hm:m<18446744073709551616)
  (hc:w.cell? ⟨b,k,none⟩=some (uU x)) (hf:w.frozen? ⟨b,k,none⟩=false) (hb:w.cell? ⟨bx,0,none⟩=some (iI n)) (hfb:w.frozen? ⟨bx,0,none⟩=false) (hne:b≠bx) (hn0:0<=n) (hn:n<=1048576):Calls prog 268 #[.pointer (some ⟨b,k,none⟩),uU m,pP bx] w λe w'=>
   e=.returned (.tuple #[])/\∃d,w'=((w.setCell ⟨bx,0,none⟩ (.int .i64 (n+pc (m &&& x):Int))).setCell ⟨b,k,none⟩ (.int .u64 (IJ x m:Nat))).drewN d:=by
 have KA:=ι (EP m x hm hx);have KO:=ι (YyP x m hx);have HL:=(MO m x hm);have HX:=(YI (m &&& x) (MO m x hm));have hp:=WN (m &&& x);have HW:=ι (ζp (n+pc (m &&& x)) Ω);go_in;go_upto_region 0 with(fail)
 go_region_with (go_at_call 269;rw[KA.o];refine(VW _ HL _ _ _).mono ?_;rintro e w' ⟨rfl,rfl⟩;rw[HX])
 all_goals
  rw[HW.o];go_wp2;rw[KO.o]
  go_end0
  exact⟨rfl,1,rfl⟩
theorem XcC(w:World)(b k x m:Nat)(bx:Nat)(n:Int)(hx:x<18446744073709551616)(hm:m<18446744073709551616)
  (hc:w.cell? ⟨b,k,none⟩=some (uU x)) (hb:w.cell? ⟨bx,0,none⟩=some (iI n)) (hfb:w.frozen? ⟨bx,0,none⟩=false) (hn0:0<=n) (hn:n<=1048576):Calls prog 302 #[.pointer (some ⟨b,k,none⟩),uU m,pP bx] w λe w'=>
   e=.returned (.tuple #[])/\∃d,w'=(w.setCell ⟨bx,0,none⟩ (.int .i64 (n+pc (m &&& x):Int))).drewN d:=by
 have KA:=ι (EP m x hm hx);have HL:=(MO m x hm);have HX:=(YI (m &&& x) (MO m x hm));have hp:=WN (m &&& x);have HW:=ι (ζp (n+pc (m &&& x)) Ω);go_in;go_upto_region 0 with(fail)
 go_region_with (go_at_call 269;rw[KA.o];refine(VW _ HL _ _ _).mono ?_;rintro e w' ⟨rfl,rfl⟩;rw[HX])
 all_goals
  rw[HW.o];go_wp2
  go_end0
  exact⟨rfl,1,rfl⟩
theorem BG.write{m:List Bool}(h:BG w p b l)(k:Nat)(hk:k<nw l)(hl:m.length=l.length)(hw:∀i,i≠k->AZ l i=AZ m i)(hy:y=AZ m k)(hbp:bx≠p)(hbb:bx≠b)(v:Value)(d:Nat):
  BG (((w.setCell ⟨bx,0,none⟩ v).setCell ⟨b,k,none⟩ (.int .u64 (y:Nat))).drewN d) p b m:=by
 have t0:AB (λi=>i=bx) w (w.setCell ⟨bx,0,none⟩ v):=(AB.refl (λi=>i=bx) w).setCell (a:=⟨bx,0,none⟩) (λ_=>rfl) _;have h0:=h.touch t0 (λe=>hbp e.symm) (λe=>hbb e.symm);generalize w.setCell ⟨bx,0,none⟩ v=w1 at *
 have X:nw m=nw l:=by unfold nw;rw[hl]
 have t:AB (λi=>i=b) w1 (w1.setCell ⟨b,k,none⟩ (.int .u64 (y:Nat))):=(AB.refl (λi=>i=b) w1).setCell (a:=⟨b,k,none⟩) (λ_=>rfl) _;refine BG.gr ⟨h.ne,ϑ h0.hp t.size,ϑ h0.hb t.size,by rw[hl];exact h.n1,by rw[hl];exact h.n2,?_,?_,?_,?_⟩ ((Gr.refl _).drewN d)
 ·obtain⟨Y,a1,a2,a3⟩:=h0.c0;exact⟨Y,by omega,a2,by rw[t.cell h0.hp h.ne,a3,X]⟩
 ·rw[t.cell h0.hp h.ne,h0.c1,hl]
 ·intro i hi;rw[X]at hi;by_cases e:i=k
  ·subst e;rw[hy];exact ξu (h:=h0.cw _ hi) ..
  ·rw[ξG (h:=by simp_all),h0.cw i hi,hw i e]
 ·intro i;rw[ξh];exact h0.fw i
structure FR(w0:World)(p b bx:Nat)(c:Nat->Nat)(m:Nat->List Bool)(k:Nat)(W:World):Prop where
 vec:BG W p b (m k)
 box:W.cell? ⟨bx,0,none⟩=some (iI (c k:Nat))
 free:W.frozen? ⟨bx,0,none⟩=false
 ne:b≠bx
 np:bx≠p
 lt:bx<W.heap.size
 touch:AB (λi=>i=b\/i=bx) w0 W
theorem FR.drewN(h:FR w0 p b bx c m k W)(d:Nat):FR w0 p b bx c m k (W.drewN d):=
 ⟨h.vec.gr ((Gr.refl W).drewN d),h.box,h.free,h.ne,h.np,h.lt,h.touch.drewN d⟩
theorem QQ1(args:Array Value)(W:World):(callFunc 288 args).run prog W=.ok (.enter 288 args) W:=by kernel_rfl
theorem YCw(args:Array Value)(W:World):(callFunc 268 args).run prog W=.ok (.enter 268 args) W:=by kernel_rfl
theorem YKd(args:Array Value)(W:World):(callFunc 302 args).run prog W=.ok (.enter 302 args) W:=by kernel_rfl
theorem X8y(hV:BG w p b l)(m:Nat->List Bool)(c:Nat->Nat)(k:Nat)(hm:m k=l)(hc:c k=0)(T:TypeId):
  FR (w.alloc (.cells #[.int .i64 0] T)) p b w.heap.size c m k (w.alloc (.cells #[.int .i64 0] T)):=by
 have hs:=hV.hp;have hs2:=hV.hb;exact⟨by rw[hm];exact hV.gr ((Gr.refl w).alloc _),by simp_all,ψk ..,by omega,by omega,by simp,AB.refl _ _⟩
theorem FR.step(h:FR w0 p b bx c m k W)(hk:k<nw (m k))(hl:(m (k+1)).length=(m k).length)
  (hw:∀i,i≠k->AZ (m k) i=AZ (m (k+1)) i)  (hy:y=AZ (m (k+1)) k) {z:Int} (hz:z=(c (k+1):Nat)) (d:Nat):
  FR w0 p b bx c m (k+1) (((W.setCell ⟨bx,0,none⟩ (.int .i64 z)).setCell ⟨b,k,none⟩ (.int .u64 (y:Nat))).drewN d):=by
 refine⟨h.vec.write k hk hl hw hy h.np (λe=>h.ne e.symm) _ d,?_,?_,h.ne,h.np,?_,?_⟩
 ·show World.cell? (World.setCell _ _ _) _=_
  rw[ξG (h:=by intro e;injection e with e1 _;exact h.ne e1),hz];exact ξu (h:=h.box) ..
 ·show World.frozen? (World.setCell (World.setCell _ _ _) _ _) _=_
  rw[ξh,ξh];exact h.free
 ·have:=h.lt;simp_all
 ·exact((h.touch.setCell (λ_=>.inr rfl) _).setCell (λ_=>.inl rfl) _).drewN d
theorem FR.head(hV:BG w p b l){T:TypeId}(h:FR (w.alloc (.cells #[.int .i64 0] T)) p b w.heap.size c m k W):
  W.cell? ⟨p,0,none⟩=w.cell? ⟨p,0,none⟩/\W.cell? ⟨p,1,none⟩=w.cell? ⟨p,1,none⟩:=by
 have hp:=hV.hp;have e:=λo=>h.touch.cell (b:=p) (by simp;omega) (by intro h;rcases h with h|h;exact hV.ne h;omega) o;have g:=λo=>((Gr.refl w).alloc (.cells #[.int .i64 0] T)).cell (b:=p) hp o
 simp_all
def EU(l:List Bool)(lo hi:Int)(x:Bool)(k:Nat):List Bool:=CX l lo (min hi (64*k)) x
def F5(l:List Bool)(lo hi:Int)(x:Bool)(k:Nat):Nat:=J4 l lo (min hi (64*k)) x
theorem JLN{x:Bool}(hk:lo<hi->hi<=64*k):EU l lo hi x k=CX l lo hi x/\F5 l lo hi x k=J4 l lo hi x:=by
 unfold EU F5
 grind [Int.min_eq_left,WQ,QP,ND]
theorem XBA(hV:BG w p b l)(f t:Int)(hf64:f<=9223372036854775807):Calls prog 253 #[pP p,iI f,iI t] w λe w'=>
   e=.returned (iI (J4 l f t true:Nat))/\AB (λi=>i=b) w w'/\BG w' p b (CX l f t true):=by
 obtain⟨lo,Y⟩:∃lo:Nat,(lo:Int)=max f 0:=⟨(max f 0).toNat,by omega⟩;obtain⟨hi,Z⟩:=ε (min t l.length:Int);have hh:hi<=l.length:=Ω
 have hn:=hV.n2;obtain⟨E,a1,a2,c0⟩:=hV.c0;have M:EU l lo hi true (lo/64)=l:=WQ _ Ω;have U:F5 l lo hi true (lo/64)=0:=by exact ND _ _ Ω
 have H0:=λT=>X8y hV (EU l lo hi true) (F5 l lo hi true) (lo/64) M U T
 have HE:=λT=>V9 288 ⟨w.heap.size,0,none⟩ p b l.length (nw l) E (FR (w.alloc (.cells #[.int .i64 0] T)) p b w.heap.size (F5 l lo hi true) (EU l lo hi true))
  QQ1 (λk W h=>⟨(FR.head hV h).1.trans c0,(FR.head hV h).2.trans hV.c1⟩) (λk W d h=>h.drewN d) (by unfold nw;omega) Ω f t hf64 lo Y hi Z
  (λk W I X hlt h=>by
   have V:k<nw (EU l lo hi true k):=by unfold EU;rw[XP8];unfold nw;omega
   have hcb:F5 l lo hi true k<=l.length:=WJ _ _ _ _;refine(Vz5 W b k (AZ (EU l lo hi true k) k) _ w.heap.size (F5 l lo hi true k:Nat) (FC _ _) (LB _ _) (h.vec.cw k V) (h.vec.fw k) h.box h.free h.ne Ω Ω).mono ?_;rintro e W' ⟨rfl,d,rfl⟩;refine⟨rfl,h.step V ?_ ?_ ?_ ?_ d⟩
   ·unfold EU;rw[GC,GC]
   ·intro i O;exact X3E X hh true O
   ·exact VeX X hh
   ·have:=XOq X hh (lo:=(lo:Int));unfold F5 EU;omega)
  _ (H0 T)
 have HE:=HE;have N:=ι Y;have J:=ι Z;clear hV M U H0 hh a1 a2 c0 Z Y hn hf64;go_in;go_wp2_with(go_at_call 267;refine Qa (HE _) λW2⟨k,I,X,hL⟩=>?_;have hbox:=hL.box);go_ret;obtain⟨e1,e2⟩:=JLN (l:=l) (x:=true) X;refine⟨AU (by rw[e2,N.o,J.o,QP,QP,YM]),?_,?_⟩
 ·refine(((Gr.refl w).alloc _).touch _).trans' hL.touch ?_;rintro i hi (h|h)
  ·exact h
  ·omega
 ·have:=hL.vec;rw[e1,N.o,J.o,XD7]at this;exact this
theorem JRq(hV:BG w p b l)(f t:Int)(hf64:f<=9223372036854775807):Calls prog 218 #[pP p,iI f,iI t] w λe w'=>
   e=.returned (iI (J4 l f t false:Nat))/\AB (λi=>i=b) w w'/\BG w' p b (CX l f t false):=by
 obtain⟨lo,Y⟩:∃lo:Nat,(lo:Int)=max f 0:=⟨(max f 0).toNat,by omega⟩;obtain⟨hi,Z⟩:=ε (min t l.length:Int);have hh:hi<=l.length:=Ω
 have hn:=hV.n2;obtain⟨E,a1,a2,c0⟩:=hV.c0;have M:EU l lo hi false (lo/64)=l:=WQ _ Ω;have U:F5 l lo hi false (lo/64)=0:=by exact ND _ _ Ω
 have H0:=λT=>X8y hV (EU l lo hi false) (F5 l lo hi false) (lo/64) M U T
 have HE:=λT=>V9 268 ⟨w.heap.size,0,none⟩ p b l.length (nw l) E (FR (w.alloc (.cells #[.int .i64 0] T)) p b w.heap.size (F5 l lo hi false) (EU l lo hi false))
  YCw (λk W h=>⟨(FR.head hV h).1.trans c0,(FR.head hV h).2.trans hV.c1⟩) (λk W d h=>h.drewN d) (by unfold nw;omega) Ω f t hf64 lo Y hi Z
  (λk W I X hlt h=>by
   have V:k<nw (EU l lo hi false k):=by unfold EU;rw[XP8];unfold nw;omega
   have hcb:F5 l lo hi false k<=l.length:=WJ _ _ _ _;refine(Jyf W b k (AZ (EU l lo hi false k) k) _ w.heap.size (F5 l lo hi false k:Nat) (FC _ _) (LB _ _) (h.vec.cw k V) (h.vec.fw k) h.box h.free h.ne Ω Ω).mono ?_;rintro e W' ⟨rfl,d,rfl⟩;refine⟨rfl,h.step V ?_ ?_ ?_ ?_ d⟩
   ·unfold EU;rw[GC,GC]
   ·intro i O;exact X3E X hh false O
   ·exact QlU X hh
   ·have:=YDx X hh (lo:=(lo:Int));unfold F5 EU;omega)
  _ (H0 T)
 have HE:=HE;have N:=ι Y;have J:=ι Z;clear hV M U H0 hh a1 a2 c0 Z Y hn hf64;go_in;go_wp2_with(go_at_call 267;refine Qa (HE _) λW2⟨k,I,X,hL⟩=>?_;have hbox:=hL.box);go_ret;obtain⟨e1,e2⟩:=JLN (l:=l) (x:=false) X;refine⟨AU (by rw[e2,N.o,J.o,QP,QP,YM]),?_,?_⟩
 ·refine(((Gr.refl w).alloc _).touch _).trans' hL.touch ?_;rintro i hi (h|h)
  ·exact h
  ·omega
 ·have:=hL.vec;rw[e1,N.o,J.o,XD7]at this;exact this
structure VJ(w0:World)(bx:Nat)(c:Nat->Nat)(k:Nat)(W:World):Prop where
 box:W.cell? ⟨bx,0,none⟩=some (iI (c k:Nat))
 free:W.frozen? ⟨bx,0,none⟩=false
 touch:AB (λi=>i=bx) w0 W
theorem V7Z(hV:BG w p b l)(f t:Int)(hf64:f<=9223372036854775807):
  BB prog 290 #[pP p,iI f,iI t] w (iI (EF l f t:Nat)):=by
 obtain⟨lo,Y⟩:∃lo:Nat,(lo:Int)=max f 0:=⟨(max f 0).toNat,by omega⟩;obtain⟨hi,Z⟩:=ε (min t l.length:Int);have hh:hi<=l.length:=Ω
 have hn:=hV.n2;have hp:=hV.hp;have hb:=hV.hb;obtain⟨N,a1,a2,c0⟩:=hV.c0;obtain⟨c,hc⟩:=ε (λk=>E8 (at_ l) lo (min hi (64*(k:Nat))) l.length:Nat->Nat);have J:c (lo/64)=0:=by rw[hc];exact ND _ _ Ω
 have H0:∀T,VJ (w.alloc (.cells #[.int .i64 0] T)) w.heap.size c (lo/64) (w.alloc (.cells #[.int .i64 0] T)):=λT=>⟨by rw[J];exact ζM ..,ψk ..,AB.refl _ _⟩
 have HR:∀T k W,VJ (w.alloc (.cells #[.int .i64 0] T)) w.heap.size c k W->∀q o,q<w.heap.size->W.cell? ⟨q,o,none⟩=w.cell? ⟨q,o,none⟩:=λT k W h q o hq=>by
  rw[h.touch.cell (by simp;omega) Ω,((Gr.refl w).alloc _).cell hq]
 have HE:=λT=>V9 302 ⟨w.heap.size,0,none⟩ p b l.length (nw l) N (VJ (w.alloc (.cells #[.int .i64 0] T)) w.heap.size c)
  YKd (λk W h=>⟨(HR T k W h p 0 hp).trans c0,(HR T k W h p 1 hp).trans hV.c1⟩) (λk W d h=>⟨h.box,h.free,h.touch.drewN d⟩) (by unfold nw;omega) Ω f t hf64 lo Y hi Z
  (λk W V X hlt h=>by
   have M:k<nw l:=by unfold nw;omega
   have hcb:c k<=l.length:=by rw[hc];exact WJ _ _ _ _
   refine(XcC W b k (AZ l k) _ w.heap.size (c k:Nat) (FC _ _) (LB _ _) ((HR T k W h b k hb).trans (hV.cw k M)) h.box h.free Ω Ω).mono ?_;rintro e W' ⟨rfl,d,rfl⟩;refine⟨rfl,?_,?_,(h.touch.setCell (λ_=>rfl) _).drewN d⟩
   ·have:=YpL X hh (lo:=(lo:Int));have e:((c k:Nat):Int)+(pc (AP ((lo:Int)-64*k) (hi-64*k) &&& AZ l k):Nat)=(c (k+1):Nat):=by rw[hc];simp only[];omega
    rw[e];exact ξu (h:=h.box) ..
   ·show World.frozen? (World.setCell _ _ _) _=_
    rw[ξh];exact h.free)
  _ (H0 T)
 have HE:=HE;have O:=Y;have U:=Z;have HC:=ι hc;clear hV J H0 hh a1 a2 c0 Z Y hn hf64 HR hc;go_enter func290,ntmps290;go_wp2_with(go_at_call 267;refine Qa (HE _) λW2⟨k,V,X,hL⟩=>?_;have hbox:=hL.box);go_ret;refine⟨AU ?_,AB.gr ?_⟩
 ·rw[HC.o,LA,<-YM (at_ l) f t,<-O,<-U];simp only[];by_cases h:(lo:Int)<hi
  ·rw[Int.min_eq_left (X h)]
  ·rw[ND _ _ (show min hi (64*k)<=lo by omega),ND _ _ (show hi<=lo by omega)]
 ·refine(((Gr.refl w).alloc _).touch _).trans' hL.touch ?_;rintro i hi rfl;omega
def QHw(w:World)(l:List Bool)(e:Ending)(w':World):Prop:=
 ∃p b,e=.returned (.tuple #[pP p,iI 0])/\Gr w w'/\BG w' p b l/\w.heap.size<=p/\w.heap.size<=b
theorem OV:(prog.info? 35).map (λi=>(i.zero,i.size,i.bytes))=some (some (uU 0),1,8):=by kernel_rfl
theorem LL(h:w.grownBy w' row)(S:Nat->Prop)(hS:∀k,row=some k->k<w.heap.size->S k):AB S w w':=
 ⟨h.os,h.tape,h.output,h.size,λk hk hn=>h.block k hk (λe=>hn (hS k e.symm hk))⟩
theorem VGT(n i:Nat):AZ (List.replicate n false) i=0:=
 (XF (by decide) (λj _=>by grind)).symm
theorem Jnq(n:Nat):(madeCells #[uU 0] n).toList=(List.range n).map λ_=>uU ((0:Nat):Int):=by
 unfold madeCells;simp[Nat.mod_one]
theorem Q13{w1:World}(n1:1<=l.length)(n2:l.length<=1048576){T cap:Nat}{E:TypeId}
  (hown:w1.ownsRow base E 1 (.slice (some ⟨b,0,none⟩) k cap) k xs) (hk:k=nw l) (hcap:cap<=maxLen) (hx:xs=(List.range (nw l)).map λi=>uU ((AZ l i:Nat):Int)):
  BG (w1.alloc (.cells #[.slice (some ⟨b,0,none⟩) k cap,.int .i64 l.length] T)) w1.heap.size b l/\b<w1.heap.size:=by
 obtain⟨hlen,h|⟨g,c,X,e1,e2,e3,e4,e5,e6,e7⟩⟩:=hown
 ·simp at h
 ·obtain⟨rfl,rfl⟩:=e1
  have hb:b<w1.heap.size:=by
   grind
  subst hk;refine⟨⟨by omega,by simp,by simp;omega,n1,n2,⟨cap,e4,hcap,?_⟩,?_,?_,?_⟩,hb⟩
  ·simp_all
  ·simp_all
  ·intro i hi;rw[ψS (h:=hb)];unfold World.cell?;simp only[e3]
   have:X[i]?=xs[i]?:=by
    grind
   simp_all
  ·intro i;rw[World.frozen?_alloc_old (h:=by grind)];unfold World.frozen?
   simp_all
theorem XV(n:Nat)(h1:1<=n)(h2:n<=1048576)(w:World):Calls prog 149 #[iI n] w (QHw w (List.replicate n false)):=by
 obtain⟨i0,hi,J,U,hz2⟩:=info_parts OV;have hb:i0.bytes*((n+63)/64)<=281474976710656:=by grind
 have hm:(n+63)/64<=maxLen:=by unfold maxLen;omega
 have HB:=hb;have HM:=hm;go_in;go_wp2_with(at_make;refine wpList_make_full _ rfl _ _ 55 rfl w.heap.size 35 i0 (uU 0) 1 underlying55 hi J U .i64 .i64 _ _ ((n+63)/64) rfl rfl ?h1 ?h2 HB HM (μ _) ?h3)
 case h1=>omega
 case h2=>omega
 case h3=>
  intro w1 Y X;have Z:Gr w w1:=(LL X (λ_=>False) (λk e _=>by cases e)).gr
  have HV:=(λT=>Q13 (l:=List.replicate n false) (by simp;omega) (by simp;omega) (T:=T) (show w1.ownsRow w.heap.size 35 1 (.slice (some ⟨w.heap.size,0,none⟩) ((n+63)/64) ((n+63)/64)) ((n+63)/64) _ from Y) (by simp[nw]) Ω (by
   rw[Jnq,nw,ζU]
   grind [ξ1,VGT]))
  go_wp2;go_ret2;obtain⟨hV,hlt⟩:=HV 299;exact⟨_,_,BT rfl rfl,Z.alloc _,by simp_all,Z.size,μ _⟩
theorem YS7{e:TypeId}{size:Nat}(h:w.ownsRow base e size v n xs)(hn:n≠0):
  ∃g c,v=.slice (some ⟨g,0,none⟩) n c/\base<=g/\n<=c/\c<=maxLen:=by
 obtain⟨_,⟨_,h⟩|⟨g,c,cur,e1,e2,_,e4,e5,_⟩⟩:=h
 ·omega
 grind
def VSg(w:World)(l:List Bool)(e:Ending)(w':World):Prop:=
 ∃g c,e=.returned (.slice (some ⟨g,0,none⟩) (nw l) c)/\Gr w w'/\w.heap.size<=g/\c<=maxLen ∧
  w'.ownsRow w.heap.size 35 1 (.slice (some ⟨g,0,none⟩) (nw l) c) (nw l) ((List.range (nw l)).map λi=>uU ((AZ l i:Nat):Int))
theorem X73(hV:BG w p b l)(cap:Nat):Calls prog 301 #[.slice (some ⟨b,0,none⟩) (nw l) cap] w (VSg w l):=by
 obtain⟨i0,hi,I,L,M⟩:=info_parts OV;have E:=V1 hV.n1 hV.n2;have hsn:=Lib.run_eql_slice_nil (P:=prog) w 55 35 (some ⟨b,0,none⟩) (nw l) cap 0 0 underlying55
 have U:(w.alloc (.cells #[] 35)).ownsRow w.heap.size 35 1 (.slice (some ⟨w.heap.size,0,none⟩) 0 0) 0 []:=
  ⟨rfl,.inr ⟨w.heap.size,0,#[],rfl,μ _,heap_alloc_new w _,μ _,by unfold maxLen;omega,rfl,rfl⟩⟩
 have J:∀(j:Nat) (u:Value),((List.range (nw l)).map λi=>uU ((AZ l i:Nat):Int))[j]?=some u->(w.alloc (.cells #[] 35)).cell? (Addr.add ⟨b,0,none⟩ j)=some u:=λj u hj=>by
  rw[ξD]at hj
  have V:j<nw l:=by
   rcases δ j (nw l)with h|h
   ·exact h
   ·rw[ζz (by simpa using h)]at hj;cases hj
  rw[List.getElem?_range V]at hj;simp only[ψh,Option.some.injEq]at hj;have e:Addr.add ⟨b,0,none⟩ j=⟨b,j,none⟩:=by unfold Addr.add;split <;> simp_all
  rw[e,ψS (h:=hV.hb),hV.cw j V,hj]
 have N:∀u∈(List.range (nw l)).map λi=>uU ((AZ l i:Nat):Int),u.oneCell'=true:=λu hu=>by
  obtain⟨i,_,rfl⟩:=ξw.1 hu;rfl
 have HO:=U;have HC:=J;have H1:=N;have HN:=E;go_in;go_wp2_with(at_builtin;refine wpList_append_own _ rfl _ _ 55 rfl w.heap.size 35 i0 (uU 0) 1 8 underlying55 hi I L M rfl (by decide) _ _ _ rfl HO ⟨b,0,none⟩ (nw l) cap ((List.range (nw l)).map λi=>uU ((AZ l i:Nat):Int)) rfl (by simp) HC H1 (by unfold maxLen;omega) Ω (by simp) ?_;intro v' w1 X Z _;obtain⟨g,c,hv,D,hg2,O⟩:=YS7 X Ω;subst hv);go_ret;have Y:(w.alloc (.cells #[] 35)).grownBy w1 (some w.heap.size):=Z;refine⟨g,c,rfl,?_,D,O,by simpa using X⟩;refine AB.gr ((((Gr.refl w).alloc _).touch _).trans' (LL Y (λk=>k=w.heap.size) (λk e _=>by cases e;rfl)) ?_);rintro i hi rfl;omega
def JqX(w:World)(l:List Bool)(e:Ending)(w':World):Prop:=
 ∃p b,e=.returned (pP p)/\Gr w w'/\BG w' p b l/\w.heap.size<=p/\w.heap.size<=b
theorem Z27(hV:BG w p b l):Calls prog 289 #[pP p] w (JqX w l):=by
 obtain⟨cap,a1,a2,c0⟩:=hV.c0;have c1:=hV.c1;have hpw:=hV.hp;have HV:=hV;go_in;go_upto_region 3 with(fail)
 go_region_with (go_at_call 301;refine(X73 (HV.gr ((Gr.refl w).drew)) _).mono ?_;rintro e w1 ⟨g,c,rfl,Z,U,J,X⟩;have c1':=(Z.cell (b:=p) (by assumption) 1).trans c1)
 all_goals
  have HF:=(λT=>Q13 HV.n1 HV.n2 (T:=T) X rfl J rfl);have Y:=(Gr.refl w).drew.trans Z;have hs:w.heap.size<=g:=U;go_wp2;go_ret;obtain⟨hF,hlt⟩:=HF 299;exact⟨_,_,rfl,Y.alloc _,hF,Y.size,hs⟩
theorem Gr.tab(h:Gr w W)(hz:1<w.heap.size)(ht:AQ w):AQ W:=λi hi=>by rw[h.cell hz];exact ht i hi
theorem AB.tab(h:AB S w W)(hz:1<w.heap.size)(hS:¬S 1)(ht:AQ w):AQ W:=λi hi=>by rw[h.cell hz hS];exact ht i hi
theorem AQ.lt(h:AQ w):1<w.heap.size:=by
 have:=h 0 (by decide);unfold World.cell? at this
 grind
theorem TU(P:Program)(ts:Array TypeId)(t:TypeId)(k:IntKind)(x y:Int)(w:World):(Builtin.min_ ts t #[.int k x,.int k y]).run P w=.ok (.int k (min x y)) w:=by
 simp only[Builtin.min_,List.foldlM];simp[Y9c]
theorem NW(P:Program)(ts:Array TypeId)(t:TypeId)(k:IntKind)(x y:Int)(w:World):(Builtin.max_ ts t #[.int k x,.int k y]).run P w=.ok (.int k (max x y)) w:=by
 simp only[Builtin.max_,List.foldlM];simp[YQd]
theorem V9n(l:List Bool){a b c:Int}(h1:a<=b)(h2:b<=c):((EF l a b:Nat):Int)+(EF l b c:Nat)=(EF l a c:Nat):=by
 rw[LA,LA,LA]
 have:=NI (f:=λi=>decide (a<=(i:Nat)/\((i:Nat):Int)<b)&&at_ l i) (g:=λi=>decide (b<=(i:Nat)/\((i:Nat):Int)<c)&&at_ l i) (λi=>by
  grind) l.length
 unfold E8
 grind
theorem Vbb(l:List Bool){b:Int}(h:l.length<=b):EF l 0 b=cnt (at_ l) l.length:=by
 rw[LA];exact C2 (λi hi=>by grind)
theorem XA(l:List Bool){r:Nat}(h:r<=l.length):EF l 0 (r:Int)=cnt (at_ l) r:=by
 rw[LA];unfold E8;rw[QW h (λi h1 _=>by grind)]
 grind [C2,φ]
theorem Z1(h:q<cnt (at_ l) l.length):C4 l q<l.length/\at_ l (C4 l q)=true/\cnt (at_ l) (C4 l q)=q:=X9n h
theorem VZZ(h:cnt (at_ l) l.length<=q):C4 l q=l.length:=Vit h
theorem XlK{n:Int}(h:(Lit.int .u8 n).wf=true):0<=n/\n<=255:=by
 simpa[Lit.wf,IntKind.min,IntKind.max,IntKind.signed,IntKind.bits]using h
theorem QFj(a:Addr)(i j:Nat):(a.add i).add j=a.add (i+j):=by
 obtain⟨b,o,s⟩:=a;unfold Addr.add;by_cases h1:i=0
 ·subst h1;simp
 ·by_cases h2:j=0
  ·subst h2;simp
  ·have:i+j≠0:=Ω
   simp[h1,h2,ξv]
end Go.Proofs.YtcihfnpokdbfpaaGreatDoor
