/- HeapNobody holds of every input. Written by mklaw.py. -/
import Derived.Test.YtmjoodkiiekjcaaGreatDoorHeapNobodyL
namespace Go.Proofs.YtmjoodkiiekjcaaGreatDoor
set_option maxRecDepth 100000
section
open Go.ChangeShapes Go.WideShapes Go.ChangeAt Go.RowKit Word
namespace heapNobody
theorem YDU (H:Type) (enc:TypeId × Value->H) (W:World) (base:Nat) (args:Array Value) (ds gs:List (DataW H)) (before:List MemPlace)
  (hval:∀ (j:Nat) t v,Tryz.f9.params[j]?=some t->args[j]?=some v->Value.okWide Tryz.prog W .any base t v)
  (hW:DataW.Whole enc Tryz.prog Tryz.f9.params.toList Rows.heapNobodySpec.vars false W args.toList ds gs before) (hL:laidMetH Tryz.prog Rows.heapNobodyRow.laid W):
  Calls Tryz.prog 9 args W fun e W'=>∃ v,e=.returned v/\Rows.heapNobodySpec.post enc Tryz.prog Tryz.f9 false true false false W args v W':=by
 have hT:=Zgl hL;have hW':=hW;obtain ⟨p,q,hA0,hV,rfl,_,_⟩:=hW;have hA:DataW.TrodAll enc Tryz.prog W 0 (fun _=>true) true Tryz.f9.params.toList args.toList ds p:=hA0;rw [Tryz.params9] at hA hval;obtain ⟨v0,vs0,d0,ds0,p0,q0,hargs,rfl,rfl,h0,r0⟩:=trodAll_cons hA;obtain ⟨v1,vs1,d1,ds1,p1,q1,rfl,rfl,rfl,h1,r1⟩:=trodAll_cons r0;obtain ⟨v2,vs2,d2,ds2,p2,q2,rfl,rfl,rfl,h2,r2⟩:=trodAll_cons r1;obtain ⟨rfl,rfl,rfl⟩:=trodAll_nil r2;obtain rfl:args=#[v0,v1,v2]:=by cases args;simp_all
 obtain ⟨rfl,rfl⟩:=trodVars_none hV;obtain ⟨x,rfl,hbx⟩:=Xpm (hval 0 36 v0 rfl rfl) h0;obtain ⟨a,rfl,_,_,wa⟩:=open_int Tryz.underlying3 (hval 1 3 v1 rfl rfl) h1;obtain ⟨b,rfl,_,_,wb⟩:=open_int Tryz.underlying3 (hval 2 3 v2 rfl rfl) h2;refine (ZjV hT x a b).mono fun e W' ⟨he,hg⟩=>?_;subst he;refine ⟨_,rfl,Zfn hW' rfl (by kernel_rfl) ?_ (by simp [Rows.heapNobodySpec]) hg⟩;rw [Tryz.params9];have hall:([36,3,3].all fun t=>Tryz.prog.readableRec t&&decide (t<Tryz.prog.types.size))=true:=by kernel_rfl
 intro t ht;have:=List.all_eq_true.1 hall t ht;simpa using this
theorem JQp (os:Os):laidMet Tryz.prog Rows.heapNobodyRow.laid ((laidWorld os).forCall (fun _ _=>0) ⟨#[],#[.agg #[.int .i64 0,.int .i64 0,.int .i64 0,.int .i64 0,.int .i64 0,.int .i64 0,.int .i64 0,.int .u64 0,.float .f64 0],.int .i64 0,.int .i64 0],[]⟩).memory:=
 laidMet_of_run' 8 (by kernel_rfl) (by kernel_rfl)
theorem Z6Q (os:Os) {H:Type} (enc:TypeId × Value->H):∃ xs places,DataW.whole enc Tryz.prog ((laidWorld os).forCall (fun _ _=>0) ⟨#[],#[.agg #[.int .i64 0,.int .i64 0,.int .i64 0,.int .i64 0,.int .i64 0,.int .i64 0,.int .i64 0,.int .u64 0,.float .f64 0],.int .i64 0,.int .i64 0],[]⟩).memory Tryz.f9.params.toList Rows.heapNobodySpec.vars false (show Array Value from #[.agg #[.int .i64 0,.int .i64 0,.int .i64 0,.int .i64 0,.int .i64 0,.int .i64 0,.int .i64 0,.int .u64 0,.float .f64 0],.int .i64 0,.int .i64 0]).toList 8=some (xs,[],places):=
 ⟨[.agg [.lit (.int .i64 0),.lit (.int .i64 0),.lit (.int .i64 0),.lit (.int .i64 0),.agg [.lit (.int .i64 0),.lit (.int .i64 0),.lit (.int .i64 0)],.lit (.int .u64 0),.lit (.float .f64 0)],.lit (.int .i64 0),.lit (.int .i64 0)],[],by kernel_rfl⟩
theorem ZYJ (os:Os) (started:os.Started) (H:Type) (enc:TypeId × Value->H) (F:Stop.Interp):
  ReturnsInHanded {} Tryz.checked os 9 .any ((OpenSpec.ofChange Rows.heapNobodySpec).preRow enc Tryz.prog Tryz.f9 Rows.heapNobodyRow.domain false Rows.heapNobodyRow.laid) (((OpenSpec.ofChange Rows.heapNobodySpec).at F).post enc Tryz.prog Tryz.f9 false true false false):=by
 obtain ⟨xs,places,hx⟩:=Z6Q os enc
 refine returnsInHanded_of_row (C:=Tryz.checked) (s:=OpenSpec.ofChange Rows.heapNobodySpec) own started (by as_aux_lemma=>kernel_rfl) Tryz.func9
  (witness_row_at (enc:=enc) (C:=Tryz.checked) false (laidWorld os) #[.agg #[.int .i64 0,.int .i64 0,.int .i64 0,.int .i64 0,.int .i64 0,.int .i64 0,.int .i64 0,.int .u64 0,.float .f64 0],.int .i64 0,.int .i64 0] rfl (by as_aux_lemma=>kernel_rfl) (by as_aux_lemma=>kernel_rfl) (by as_aux_lemma=>kernel_rfl)
   (OpenSpec.preRow_of_cond 8 hx (by as_aux_lemma=>kernel_rfl) (fun k hk=>by cases hk) (by as_aux_lemma=>kernel_rfl) (JQp os))) ?_
 intro W base args ds gs before hval hW _ _ _ hL _ _;exact YDU H enc W base args ds gs before hval hW hL
theorem VkO:Rows.HeapNobodySaid:=
 OpenClaim.holds_of_cond 9 Tryz.f9 rfl rfl rfl rfl rfl rfl rfl ⟨rfl,rfl,rfl,rfl,rfl⟩ rfl rfl rfl rfl rfl YUs Tryz.func9 JSQ
  (of_decide_eq_true (by kernel_rfl)) (by unfold Func.isWrapper;first | (rw [if_pos (by decide +kernel)];kernel_rfl) | (rw [if_neg (by decide +kernel)];exact ⟨rfl,rfl⟩))
  (fun os started H enc _ F=>by rw [OpenClaim.pre_eq_preRow];exact ZYJ os started H enc F)
theorem plain (f:FuncId) (fn:Func) (hf:Tryz.pinned.checked.prog.funcNamed "ullage/ullagelaw27.HeapNobody"=some f) (hfn:Tryz.pinned.checked.prog.funcs[f]?=some fn):
  ∀ (j:Nat) t,fn.params[j]?=some t->Tryz.pinned.checked.prog.wantsStandIn t=false:=by
 obtain rfl:f=9:=Option.some.inj ((show Tryz.prog.funcNamed "ullage/ullagelaw27.HeapNobody"=some 9 by kernel_rfl).symm.trans hf) |>.symm;obtain rfl:fn=Tryz.f9:=(Option.some.inj (Tryz.func9.symm.trans hfn)).symm;intro j t ht;rw [Tryz.params9] at ht;have hm:t∈[36,3,3]:=by simpa using Array.mem_of_getElem? ht
 have hall:([36,3,3].all fun u=>!Tryz.prog.wantsStandIn u)=true:=by kernel_rfl
 exact (show Tryz.prog.wantsStandIn t=false by simpa using List.all_eq_true.1 hall t hm)
theorem card:Rows.HeapNobodyCardSaid:=
 Claim7.holds_tied_plain_at .later [] _ _ _ _ VkO (fun _ h=>by cases h) (by as_aux_lemma=>kernel_rfl) (fun _ h=>by cases h) heapNobody_row_tie rfl ⟨rfl,rfl⟩ (by as_aux_lemma=>kernel_rfl) rfl (fun f fn hf hfn=>⟨by kernel_rfl,plain f fn hf hfn⟩) (by as_aux_lemma=>kernel_rfl)
end heapNobody
#print axioms heapNobody.card
end
end Go.Proofs.YtmjoodkiiekjcaaGreatDoor
