/- TreeRises holds of every input. Written by mklaw.py. -/
import Derived.Test.YtbdimhlaaoadgaaGreatDoorTreesM
import Derived.Test.YtbdimhlaaoadgaaGreatDoorJTreeRises
import Derived.Test.YtbdimhlaaoadgaaGreatDoorKTreeRises
namespace Go.Proofs.YtbdimhlaaoadgaaGreatDoor
open _root_.Go.Proofs.Tryz
set_option maxRecDepth 100000
section
open Go.ChangeShapes Go.WideShapes Go.ChangeAt Go.RowKit Word
namespace treeRises
theorem O0(H:Type)(enc:TypeId×Value->H)(W:World)(base:Nat)(args:Array Value)(ds gs:List (DataW H))(before:List MemPlace)
  (hval:∀(j:Nat) t v,f3.params[j]?=some t->args[j]?=some v->Value.okWide prog W .any base t v)
  (hW:DataW.Whole enc prog f3.params.toList Rows.treeRisesSpec.vars false W args.toList ds gs before) (hL:laidMetH prog Rows.treeRisesRow.laid W):
  Calls prog 3 args W λe W'=>∃v,e=.returned v/\Rows.treeRisesSpec.post enc prog f3 false true false false W args v W':=by
 have hT:=YG hL;have V:=hW;obtain⟨p,q,U,hV,rfl,_,_⟩:=hW;have hA:DataW.TrodAll enc prog W 0 (λ_=>true) true f3.params.toList args.toList ds p:=U;rw[params3]at hA hval;obtain⟨v0,vs0,d0,ds0,p0,q0,hargs,rfl,rfl,h0,r0⟩:=trodAll_cons hA;obtain⟨v1,vs1,d1,ds1,p1,q1,rfl,rfl,rfl,h1,r1⟩:=trodAll_cons r0;obtain⟨rfl,rfl,rfl⟩:=trodAll_nil r1;obtain rfl:args=#[v0,v1]:=by cases args;simp_all
 obtain⟨rfl,rfl⟩:=trodVars_none hV;obtain⟨c,rfl,J⟩:=Y87 (hval 0 24 v0 rfl rfl) h0;obtain⟨Ab,capb,lb,rfl,Y,X⟩:=YXv (hval 1 25 v1 rfl rfl) h1;refine(Qce hT c J X Y).mono λe W' ⟨he,hg⟩=>?_;subst he;refine⟨_,rfl,YF V rfl (by kernel_rfl) ?_ (by simp[Rows.treeRisesSpec]) hg⟩;rw[params3];have Z:([24,25].all λt=>prog.readableRec t&&decide (t<prog.types.size))=true:=by kernel_rfl
 intro t ht;have:=ξb.1 Z t ht;simpa using this
theorem NJ(os:Os):laidMet prog Rows.treeRisesRow.laid ((laidWorld os).forCall (λ_ _=>0) ⟨#[],#[.agg #[.int .i64 0,.int .i64 0,.int .i64 0,.int .i64 0,.int .i64 0,.int .i64 0,.int .i64 0,.float .f64 0],.slice none 0 0],[]⟩).memory:=
 laidMet_of_run' 8 (by kernel_rfl) (by kernel_rfl)
theorem PI(os:Os){H:Type}(enc:TypeId×Value->H):∃xs places,DataW.whole enc prog ((laidWorld os).forCall (λ_ _=>0) ⟨#[],#[.agg #[.int .i64 0,.int .i64 0,.int .i64 0,.int .i64 0,.int .i64 0,.int .i64 0,.int .i64 0,.float .f64 0],.slice none 0 0],[]⟩).memory f3.params.toList Rows.treeRisesSpec.vars false (show Array Value from #[.agg #[.int .i64 0,.int .i64 0,.int .i64 0,.int .i64 0,.int .i64 0,.int .i64 0,.int .i64 0,.float .f64 0],.slice none 0 0]).toList 8=some (xs,[],places):=
 ⟨[.agg [.lit (.int .i64 0),.lit (.int .i64 0),.lit (.int .i64 0),.lit (.int .i64 0),.lit (.int .i64 0),.lit (.int .i64 0),.lit (.int .i64 0),.lit (.float .f64 0)],.nil],[],by kernel_rfl⟩
theorem PN(os:Os)(started:os.Started)(H:Type)(enc:TypeId×Value->H)(F:Stop.Interp):
  ReturnsInHanded {} checked os 3 .any ((OpenSpec.ofChange Rows.treeRisesSpec).preRow enc prog f3 Rows.treeRisesRow.domain false Rows.treeRisesRow.laid) (((OpenSpec.ofChange Rows.treeRisesSpec).at F).post enc prog f3 false true false false):=by
 obtain⟨xs,places,hx⟩:=PI os enc
 refine returnsInHanded_of_row (C:=checked) (s:=OpenSpec.ofChange Rows.treeRisesSpec) own started (by as_aux_lemma=>kernel_rfl) func3
  (witness_row_at (enc:=enc) (C:=checked) false (laidWorld os) #[.agg #[.int .i64 0,.int .i64 0,.int .i64 0,.int .i64 0,.int .i64 0,.int .i64 0,.int .i64 0,.float .f64 0],.slice none 0 0] rfl (by as_aux_lemma=>kernel_rfl) (by as_aux_lemma=>kernel_rfl) (by as_aux_lemma=>kernel_rfl)
   (OpenSpec.preRow_of_cond 8 hx (by as_aux_lemma=>kernel_rfl) (λk hk=>by cases hk) (by as_aux_lemma=>kernel_rfl) (NJ os))) ?_
 intro W J Y ds gs X Z hW _ _ _ hL _ _;exact O0 H enc W J Y ds gs X Z hW hL
theorem OF:Rows.TreeRisesSaid:=
 OpenClaim.holds_of_cond 3 f3 rfl rfl rfl rfl rfl rfl rfl ⟨rfl,rfl,rfl,rfl,rfl⟩ rfl rfl rfl rfl rfl O9 func3 NL
  (of_decide_eq_true (by kernel_rfl)) (by unfold Func.isWrapper;first|(rw[φ (by decide +kernel)];kernel_rfl)|(rw[ξ (by decide +kernel)];exact⟨rfl,rfl⟩))
  (λos started H enc _ F=>by rw[OpenClaim.pre_eq_preRow];exact PN os started H enc F)
theorem plain(f:FuncId)(fn:Func)(hf:Tryz.pinned.checked.prog.funcNamed "ullage/ullagelaw39.TreeRises"=some f)(hfn:Tryz.pinned.checked.prog.funcs[f]?=some fn):
  ∀(j:Nat) t,fn.params[j]?=some t->Tryz.pinned.checked.prog.wantsStandIn t=false:=by
 obtain rfl:f=3:=Option.some.inj ((show prog.funcNamed "ullage/ullagelaw39.TreeRises"=some 3 by kernel_rfl).symm.trans hf) |>.symm;obtain rfl:fn=f3:=(Option.some.inj (func3.symm.trans hfn)).symm;intro j t ht;rw[params3]at ht;have hm:t∈[24,25]:=by simpa using ξ9 ht
 have X:([24,25].all λu=>!prog.wantsStandIn u)=true:=by kernel_rfl
 exact(show prog.wantsStandIn t=false by simpa using ξb.1 X t hm)
theorem card:Rows.TreeRisesCardSaid:=
 Claim7.holds_tied_plain_at .later [] _ _ _ _ OF (λ_ h=>by cases h) (by as_aux_lemma=>kernel_rfl) (λ_ h=>by cases h) treeRises_row_tie rfl ⟨rfl,rfl⟩ (by as_aux_lemma=>kernel_rfl) rfl (λf fn hf hfn=>⟨by kernel_rfl,plain f fn hf hfn⟩) (by as_aux_lemma=>kernel_rfl)
end treeRises
#print axioms treeRises.card
end
end Go.Proofs.YtbdimhlaaoadgaaGreatDoor
