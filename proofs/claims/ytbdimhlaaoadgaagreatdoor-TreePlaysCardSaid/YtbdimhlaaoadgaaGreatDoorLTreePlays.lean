/- TreePlays holds of every input. Written by mklaw.py. -/
import Derived.Test.YtbdimhlaaoadgaaGreatDoorTreesM
import Derived.Test.YtbdimhlaaoadgaaGreatDoorJTreePlays
import Derived.Test.YtbdimhlaaoadgaaGreatDoorKTreePlays
namespace Go.Proofs.YtbdimhlaaoadgaaGreatDoor
open _root_.Go.Proofs.Tryz
set_option maxRecDepth 100000
open Go.ChangeShapes Go.WideShapes Go.ChangeAt Go.RowKit Word
namespace treePlays
theorem O0(H:Type)(enc:TypeId×Value->H)(W:World)(base:Nat)(args:Array Value)(ds gs:List (DataW H))(before:List MemPlace)
  (hval:∀(j:Nat) t v,f5.params[j]?=some t->args[j]?=some v->Value.okWide prog W .any base t v)
  (hW:DataW.Whole enc prog f5.params.toList Rows.treePlaysSpec.vars false W args.toList ds gs before) (hL:laidMetH prog Rows.treePlaysRow.laid W):
  Calls prog 5 args W λe W'=>∃v,e=.returned v/\Rows.treePlaysSpec.post enc prog f5 false true false false W args v W':=by
 have hT:=YG hL;have M:=hW;obtain⟨p,q,V,hV,rfl,_,_⟩:=hW;have hA:DataW.TrodAll enc prog W 0 (λ_=>true) true f5.params.toList args.toList ds p:=V;rw[params5]at hA hval;obtain⟨v0,vs0,d0,ds0,p0,q0,hargs,rfl,rfl,h0,r0⟩:=trodAll_cons hA;obtain⟨v1,vs1,d1,ds1,p1,q1,rfl,rfl,rfl,h1,r1⟩:=trodAll_cons r0;obtain⟨v2,vs2,d2,ds2,p2,q2,rfl,rfl,rfl,h2,r2⟩:=trodAll_cons r1;obtain⟨rfl,rfl,rfl⟩:=trodAll_nil r2;obtain rfl:args=#[v0,v1,v2]:=by cases args;simp_all
 obtain⟨rfl,rfl⟩:=trodVars_none hV;obtain⟨c,rfl,J⟩:=Y87 (hval 0 24 v0 rfl rfl) h0;obtain⟨E,U,I,N,O,rfl⟩:=YkA (hval 1 54 v1 rfl rfl) h1;obtain⟨Aa,capa,la,rfl,X,Z⟩:=JYh (hval 2 55 v2 rfl rfl) h2;refine(XeS hT c J E U I N O Z X).mono λe W' ⟨he,hg⟩=>?_;subst he;refine⟨_,rfl,YF M rfl (by kernel_rfl) ?_ (by simp[Rows.treePlaysSpec]) hg⟩;rw[params5];have Y:([24,54,55].all λt=>prog.readableRec t&&decide (t<prog.types.size))=true:=by kernel_rfl
 intro t ht;have:=ξb.1 Y t ht;simpa using this
theorem NJ(os:Os):laidMet prog Rows.treePlaysRow.laid ((laidWorld os).forCall (λ_ _=>0) ⟨#[],#[.agg #[iI 0,iI 0,iI 0,iI 0,iI 0,iI 0,iI 0,.float .f64 0],.agg #[iI 0,iI 0,iI 0,iI 0,iI 0],.slice none 0 0],[]⟩).memory:=
 laidMet_of_run' 8 (by kernel_rfl) (by kernel_rfl)
theorem PI(os:Os){H:Type}(enc:TypeId×Value->H):∃xs places,DataW.whole enc prog ((laidWorld os).forCall (λ_ _=>0) ⟨#[],#[.agg #[.int .i64 0,.int .i64 0,.int .i64 0,.int .i64 0,.int .i64 0,.int .i64 0,.int .i64 0,.float .f64 0],.agg #[.int .i64 0,.int .i64 0,.int .i64 0,.int .i64 0,.int .i64 0],.slice none 0 0],[]⟩).memory f5.params.toList Rows.treePlaysSpec.vars false (show Array Value from #[.agg #[.int .i64 0,.int .i64 0,.int .i64 0,.int .i64 0,.int .i64 0,.int .i64 0,.int .i64 0,.float .f64 0],.agg #[.int .i64 0,.int .i64 0,.int .i64 0,.int .i64 0,.int .i64 0],.slice none 0 0]).toList 8=some (xs,[],places):=
 ⟨[.agg [.lit (.int .i64 0),.lit (.int .i64 0),.lit (.int .i64 0),.lit (.int .i64 0),.lit (.int .i64 0),.lit (.int .i64 0),.lit (.int .i64 0),.lit (.float .f64 0)],.agg [.lit (.int .i64 0),.lit (.int .i64 0),.lit (.int .i64 0),.lit (.int .i64 0),.lit (.int .i64 0)],.nil],[],by kernel_rfl⟩
theorem PN(os:Os)(started:os.Started)(H:Type)(enc:TypeId×Value->H)(F:Stop.Interp):
  ReturnsInHanded {} checked os 5 .any ((OpenSpec.ofChange Rows.treePlaysSpec).preRow enc prog f5 Rows.treePlaysRow.domain false Rows.treePlaysRow.laid) (((OpenSpec.ofChange Rows.treePlaysSpec).at F).post enc prog f5 false true false false):=by
 obtain⟨xs,places,hx⟩:=PI os enc
 refine returnsInHanded_of_row (C:=checked) (s:=OpenSpec.ofChange Rows.treePlaysSpec) own started (by as_aux_lemma=>kernel_rfl) func5
  (witness_row_at (enc:=enc) (C:=checked) false (laidWorld os) #[.agg #[iI 0,iI 0,iI 0,iI 0,iI 0,iI 0,iI 0,.float .f64 0],.agg #[iI 0,iI 0,iI 0,iI 0,iI 0],.slice none 0 0] rfl (by as_aux_lemma=>kernel_rfl) (by as_aux_lemma=>kernel_rfl) (by as_aux_lemma=>kernel_rfl)
   (OpenSpec.preRow_of_cond 8 hx (by as_aux_lemma=>kernel_rfl) (λk hk=>by cases hk) (by as_aux_lemma=>kernel_rfl) (NJ os))) ?_
 intro W J Y ds gs X Z hW _ _ _ hL _ _;exact O0 H enc W J Y ds gs X Z hW hL
theorem OF:Rows.TreePlaysSaid:=
 OpenClaim.holds_of_cond 5 f5 rfl rfl rfl rfl rfl rfl rfl ⟨rfl,rfl,rfl,rfl,rfl⟩ rfl rfl rfl rfl rfl O9 func5 NL
  (of_decide_eq_true (by kernel_rfl)) (by unfold Func.isWrapper;first|(rw[φ (by decide +kernel)];kernel_rfl)|(rw[ξ (by decide +kernel)];exact⟨rfl,rfl⟩))
  (λos started H enc _ F=>by rw[OpenClaim.pre_eq_preRow];exact PN os started H enc F)
theorem plain(f:FuncId)(fn:Func)(hf:Tryz.pinned.checked.prog.funcNamed "ullage/ullagelaw39.TreePlays"=some f)(hfn:Tryz.pinned.checked.prog.funcs[f]?=some fn):
  ∀(j:Nat) t,fn.params[j]?=some t->Tryz.pinned.checked.prog.wantsStandIn t=false:=by
 obtain rfl:f=5:=Option.some.inj ((show prog.funcNamed "ullage/ullagelaw39.TreePlays"=some 5 by kernel_rfl).symm.trans hf) |>.symm;obtain rfl:fn=f5:=(Option.some.inj (func5.symm.trans hfn)).symm;intro j t ht;rw[params5]at ht;have hm:t∈[24,54,55]:=by simpa using ξ9 ht
 have X:([24,54,55].all λu=>!prog.wantsStandIn u)=true:=by kernel_rfl
 exact(show prog.wantsStandIn t=false by simpa using ξb.1 X t hm)
theorem card:Rows.TreePlaysCardSaid:=
 Claim7.holds_tied_plain_at .later [] _ _ _ _ OF (λ_ h=>by cases h) (by as_aux_lemma=>kernel_rfl) (λ_ h=>by cases h) treePlays_row_tie rfl ⟨rfl,rfl⟩ (by as_aux_lemma=>kernel_rfl) rfl (λf fn hf hfn=>⟨by kernel_rfl,plain f fn hf hfn⟩) (by as_aux_lemma=>kernel_rfl)
end treePlays
#print axioms treePlays.card
end Go.Proofs.YtbdimhlaaoadgaaGreatDoor
