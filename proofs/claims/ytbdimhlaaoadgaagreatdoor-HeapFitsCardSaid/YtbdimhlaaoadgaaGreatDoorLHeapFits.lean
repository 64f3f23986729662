/- HeapFits holds of every input. Written by mklaw.py. -/
import Derived.Test.YtbdimhlaaoadgaaGreatDoorHeapsM
import Derived.Test.YtbdimhlaaoadgaaGreatDoorJHeapFits
namespace Go.Proofs.YtbdimhlaaoadgaaGreatDoor
open _root_.Go.Proofs.Tryz
set_option maxRecDepth 100000
section
open Go.ChangeShapes Go.WideShapes Go.ChangeAt Go.RowKit Word
namespace heapFits
theorem YDU(H:Type)(enc:TypeId×Value->H)(W:World)(base:Nat)(args:Array Value)(ds gs:List (DataW H))(before:List MemPlace)
  (hval:∀(j:Nat) t v,f7.params[j]?=some t->args[j]?=some v->Value.okWide prog W .any base t v)
  (hW:DataW.Whole enc prog f7.params.toList Rows.heapFitsSpec.vars false W args.toList ds gs before) (hL:laidMetH prog Rows.heapFitsRow.laid W):
  Calls prog 7 args W λe W'=>∃v,e=.returned v/\Rows.heapFitsSpec.post enc prog f7 false true false false W args v W':=by
 have hT:=Zgl hL;have U:=hW;obtain⟨p,q,J,hV,rfl,_,_⟩:=hW;have hA:DataW.TrodAll enc prog W 0 (λ_=>true) true f7.params.toList args.toList ds p:=J;rw[params7]at hA hval;obtain⟨v0,vs0,d0,ds0,p0,q0,hargs,rfl,rfl,h0,r0⟩:=trodAll_cons hA;obtain⟨v1,vs1,d1,ds1,p1,q1,rfl,rfl,rfl,h1,r1⟩:=trodAll_cons r0;obtain⟨rfl,rfl,rfl⟩:=trodAll_nil r1;obtain rfl:args=#[v0,v1]:=by cases args;simp_all
 obtain⟨rfl,rfl⟩:=trodVars_none hV;obtain⟨c,rfl,Z⟩:=Y87 (hval 0 24 v0 rfl rfl) h0;obtain⟨Al,capl,ll,rfl,hlml,Y⟩:=Vlo (hval 1 80 v1 rfl rfl) h1;refine(JYr hT c Z Y).mono λe W' ⟨he,hg⟩=>?_;subst he;refine⟨_,rfl,Zfn U rfl (by kernel_rfl) ?_ (by simp[Rows.heapFitsSpec]) hg⟩;rw[params7];have X:([24,80].all λt=>prog.readableRec t&&decide (t<prog.types.size))=true:=by kernel_rfl
 intro t ht;have:=ζ7.1 X t ht;simpa using this
theorem JQp(os:Os):laidMet prog Rows.heapFitsRow.laid ((laidWorld os).forCall (λ_ _=>0) ⟨#[],#[.agg #[.int .i64 0,.int .i64 0,.int .i64 0,.int .i64 0,.int .i64 0,.int .i64 0,.int .i64 0,.float .f64 0],.slice none 0 0],[]⟩).memory:=
 laidMet_of_run' 8 (by kernel_rfl) (by kernel_rfl)
theorem Z6Q(os:Os){H:Type}(enc:TypeId×Value->H):∃xs places,DataW.whole enc prog ((laidWorld os).forCall (λ_ _=>0) ⟨#[],#[.agg #[.int .i64 0,.int .i64 0,.int .i64 0,.int .i64 0,.int .i64 0,.int .i64 0,.int .i64 0,.float .f64 0],.slice none 0 0],[]⟩).memory f7.params.toList Rows.heapFitsSpec.vars false (show Array Value from #[.agg #[.int .i64 0,.int .i64 0,.int .i64 0,.int .i64 0,.int .i64 0,.int .i64 0,.int .i64 0,.float .f64 0],.slice none 0 0]).toList 8=some (xs,[],places):=
 ⟨[.agg [.lit (.int .i64 0),.lit (.int .i64 0),.lit (.int .i64 0),.lit (.int .i64 0),.lit (.int .i64 0),.lit (.int .i64 0),.lit (.int .i64 0),.lit (.float .f64 0)],.nil],[],by kernel_rfl⟩
theorem ZYJ(os:Os)(started:os.Started)(H:Type)(enc:TypeId×Value->H)(F:Stop.Interp):
  ReturnsInHanded {} checked os 7 .any ((OpenSpec.ofChange Rows.heapFitsSpec).preRow enc prog f7 Rows.heapFitsRow.domain false Rows.heapFitsRow.laid) (((OpenSpec.ofChange Rows.heapFitsSpec).at F).post enc prog f7 false true false false):=by
 obtain⟨xs,places,hx⟩:=Z6Q os enc
 refine returnsInHanded_of_row (C:=checked) (s:=OpenSpec.ofChange Rows.heapFitsSpec) own started (by as_aux_lemma=>kernel_rfl) func7
  (witness_row_at (enc:=enc) (C:=checked) false (laidWorld os) #[.agg #[.int .i64 0,.int .i64 0,.int .i64 0,.int .i64 0,.int .i64 0,.int .i64 0,.int .i64 0,.float .f64 0],.slice none 0 0] rfl (by as_aux_lemma=>kernel_rfl) (by as_aux_lemma=>kernel_rfl) (by as_aux_lemma=>kernel_rfl)
   (OpenSpec.preRow_of_cond 8 hx (by as_aux_lemma=>kernel_rfl) (λk hk=>by cases hk) (by as_aux_lemma=>kernel_rfl) (JQp os))) ?_
 intro W J Z ds gs X Y hW _ _ _ hL _ _;exact YDU H enc W J Z ds gs X Y hW hL
theorem VkO:Rows.HeapFitsSaid:=
 OpenClaim.holds_of_cond 7 f7 rfl rfl rfl rfl rfl rfl rfl ⟨rfl,rfl,rfl,rfl,rfl⟩ rfl rfl rfl rfl rfl YUs func7 JSQ
  (of_decide_eq_true (by kernel_rfl)) (by unfold Func.isWrapper;first|(rw[θ (by decide +kernel)];kernel_rfl)|(rw[ψ (by decide +kernel)];exact⟨rfl,rfl⟩))
  (λos started H enc _ F=>by rw[OpenClaim.pre_eq_preRow];exact ZYJ os started H enc F)
theorem plain(f:FuncId)(fn:Func)(hf:Tryz.pinned.checked.prog.funcNamed "ullage/ullagelaw27.HeapFits"=some f)(hfn:Tryz.pinned.checked.prog.funcs[f]?=some fn):
  ∀(j:Nat) t,fn.params[j]?=some t->Tryz.pinned.checked.prog.wantsStandIn t=false:=by
 obtain rfl:f=7:=Option.some.inj ((show prog.funcNamed "ullage/ullagelaw27.HeapFits"=some 7 by kernel_rfl).symm.trans hf) |>.symm;obtain rfl:fn=f7:=(Option.some.inj (func7.symm.trans hfn)).symm;intro j t ht;rw[params7]at ht;have hm:t∈[24,80]:=by simpa using Array.mem_of_getElem? ht
 have X:([24,80].all λu=>!prog.wantsStandIn u)=true:=by kernel_rfl
 exact(show prog.wantsStandIn t=false by simpa using ζ7.1 X t hm)
theorem card:Rows.HeapFitsCardSaid:=
 Claim7.holds_tied_plain_at .later [] _ _ _ _ VkO (λ_ h=>by cases h) (by as_aux_lemma=>kernel_rfl) (λ_ h=>by cases h) heapFits_row_tie rfl ⟨rfl,rfl⟩ (by as_aux_lemma=>kernel_rfl) rfl (λf fn hf hfn=>⟨by kernel_rfl,plain f fn hf hfn⟩) (by as_aux_lemma=>kernel_rfl)
end heapFits
#print axioms heapFits.card
end
end Go.Proofs.YtbdimhlaaoadgaaGreatDoor
