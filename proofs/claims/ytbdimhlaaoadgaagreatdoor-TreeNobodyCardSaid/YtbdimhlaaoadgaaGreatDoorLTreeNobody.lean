/- TreeNobody holds of every input. Written by mklaw.py. -/
import Derived.Test.YtbdimhlaaoadgaaGreatDoorTreesM
import Derived.Test.YtbdimhlaaoadgaaGreatDoorJTreeNobody
import Derived.Test.YtbdimhlaaoadgaaGreatDoorKTreeNobody
namespace Go.Proofs.YtbdimhlaaoadgaaGreatDoor
open _root_.Go.Proofs.Tryz
set_option maxRecDepth 100000
open Go.ChangeShapes Go.WideShapes Go.ChangeAt Go.RowKit Word
namespace treeNobody
theorem O0(H:Type)(enc:TypeId×Value->H)(W:World)(base:Nat)(args:Array Value)(ds gs:List (DataW H))(before:List MemPlace)
  (hval:∀(j:Nat) t v,f4.params[j]?=some t->args[j]?=some v->Value.okWide prog W .any base t v)
  (hW:DataW.Whole enc prog f4.params.toList Rows.treeNobodySpec.vars false W args.toList ds gs before) (hL:laidMetH prog Rows.treeNobodyRow.laid W):
  Calls prog 4 args W λe W'=>∃v,e=.returned v/\Rows.treeNobodySpec.post enc prog f4 false true false false W args v W':=by
 have hT:=YG hL;have Z:=hW;obtain⟨p,q,Y,hV,rfl,_,_⟩:=hW;have hA:DataW.TrodAll enc prog W 0 (λ_=>true) true f4.params.toList args.toList ds p:=Y;rw[params4]at hA hval;obtain⟨v0,vs0,d0,ds0,p0,q0,hargs,rfl,rfl,h0,r0⟩:=trodAll_cons hA;obtain⟨rfl,rfl,rfl⟩:=trodAll_nil r0;obtain rfl:args=#[v0]:=by cases args;simp_all
 obtain⟨rfl,rfl⟩:=trodVars_none hV;obtain⟨x,rfl,hbx⟩:=XvD (hval 0 50 v0 rfl rfl) h0;refine(Z0T hT x).mono λe W' ⟨he,hg⟩=>?_;subst he;refine⟨_,rfl,YF Z rfl (by kernel_rfl) ?_ (by simp[Rows.treeNobodySpec]) hg⟩;rw[params4];have X:([50].all λt=>prog.readableRec t&&decide (t<prog.types.size))=true:=by kernel_rfl
 intro t ht;have:=ξb.1 X t ht;simpa using this
theorem NJ(os:Os):laidMet prog Rows.treeNobodyRow.laid ((laidWorld os).forCall (λ_ _=>0) ⟨#[],#[.agg #[.int .u8 0,uU 0,uU 0]],[]⟩).memory:=
 laidMet_of_run' 8 (by kernel_rfl) (by kernel_rfl)
theorem PI(os:Os){H:Type}(enc:TypeId×Value->H):∃xs places,DataW.whole enc prog ((laidWorld os).forCall (λ_ _=>0) ⟨#[],#[.agg #[.int .u8 0,.int .u64 0,.int .u64 0]],[]⟩).memory f4.params.toList Rows.treeNobodySpec.vars false (show Array Value from #[.agg #[.int .u8 0,.int .u64 0,.int .u64 0]]).toList 8=some (xs,[],places):=
 ⟨[.agg [.lit (.int .u8 0),.lit (.int .u64 0),.lit (.int .u64 0)]],[],by kernel_rfl⟩
theorem PN(os:Os)(started:os.Started)(H:Type)(enc:TypeId×Value->H)(F:Stop.Interp):
  ReturnsInHanded {} checked os 4 .any ((OpenSpec.ofChange Rows.treeNobodySpec).preRow enc prog f4 Rows.treeNobodyRow.domain false Rows.treeNobodyRow.laid) (((OpenSpec.ofChange Rows.treeNobodySpec).at F).post enc prog f4 false true false false):=by
 obtain⟨xs,places,hx⟩:=PI os enc
 refine returnsInHanded_of_row (C:=checked) (s:=OpenSpec.ofChange Rows.treeNobodySpec) own started (by as_aux_lemma=>kernel_rfl) func4
  (witness_row_at (enc:=enc) (C:=checked) false (laidWorld os) #[.agg #[.int .u8 0,uU 0,uU 0]] rfl (by as_aux_lemma=>kernel_rfl) (by as_aux_lemma=>kernel_rfl) (by as_aux_lemma=>kernel_rfl)
   (OpenSpec.preRow_of_cond 8 hx (by as_aux_lemma=>kernel_rfl) (λk hk=>by cases hk) (by as_aux_lemma=>kernel_rfl) (NJ os))) ?_
 intro W J Y ds gs X Z hW _ _ _ hL _ _;exact O0 H enc W J Y ds gs X Z hW hL
theorem OF:Rows.TreeNobodySaid:=
 OpenClaim.holds_of_cond 4 f4 rfl rfl rfl rfl rfl rfl rfl ⟨rfl,rfl,rfl,rfl,rfl⟩ rfl rfl rfl rfl rfl O9 func4 NL
  (of_decide_eq_true (by kernel_rfl)) (by unfold Func.isWrapper;first|(rw[φ (by decide +kernel)];kernel_rfl)|(rw[ξ (by decide +kernel)];exact⟨rfl,rfl⟩))
  (λos started H enc _ F=>by rw[OpenClaim.pre_eq_preRow];exact PN os started H enc F)
theorem plain(f:FuncId)(fn:Func)(hf:Tryz.pinned.checked.prog.funcNamed "ullage/ullagelaw39.TreeNobody"=some f)(hfn:Tryz.pinned.checked.prog.funcs[f]?=some fn):
  ∀(j:Nat) t,fn.params[j]?=some t->Tryz.pinned.checked.prog.wantsStandIn t=false:=by
 obtain rfl:f=4:=Option.some.inj ((show prog.funcNamed "ullage/ullagelaw39.TreeNobody"=some 4 by kernel_rfl).symm.trans hf) |>.symm;obtain rfl:fn=f4:=(Option.some.inj (func4.symm.trans hfn)).symm;intro j t ht;rw[params4]at ht;have hm:t∈[50]:=by simpa using ξ9 ht
 have X:([50].all λu=>!prog.wantsStandIn u)=true:=by kernel_rfl
 exact(show prog.wantsStandIn t=false by simpa using ξb.1 X t hm)
theorem card:Rows.TreeNobodyCardSaid:=
 Claim7.holds_tied_plain_at .later [] _ _ _ _ OF (λ_ h=>by cases h) (by as_aux_lemma=>kernel_rfl) (λ_ h=>by cases h) treeNobody_row_tie rfl ⟨rfl,rfl⟩ (by as_aux_lemma=>kernel_rfl) rfl (λf fn hf hfn=>⟨by kernel_rfl,plain f fn hf hfn⟩) (by as_aux_lemma=>kernel_rfl)
end treeNobody
#print axioms treeNobody.card
end Go.Proofs.YtbdimhlaaoadgaaGreatDoor
