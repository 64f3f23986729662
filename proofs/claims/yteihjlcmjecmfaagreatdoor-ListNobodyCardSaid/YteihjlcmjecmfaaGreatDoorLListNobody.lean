/- ListNobody holds of every input. Written by mklaw.py. -/
import Derived.Test.YteihjlcmjecmfaaGreatDoorListNobodyN
namespace Go.Proofs.YteihjlcmjecmfaaGreatDoor
open _root_.Go.Proofs.Tryz
set_option maxRecDepth 100000
section
open Go.ChangeShapes Go.WideShapes Go.ChangeAt Go.RowKit Word
namespace listNobody
theorem YDU(H:Type)(enc:TypeId×Value->H)(W:World)(base:Nat)(args:Array Value)(ds gs:List (DataW H))(before:List MemPlace)
  (hval:∀(j:Nat) t v,f3.params[j]?=some t->args[j]?=some v->Value.okWide prog W .any base t v)
  (hW:DataW.Whole enc prog f3.params.toList Rows.listNobodySpec.vars false W args.toList ds gs before) (hL:laidMetH prog Rows.listNobodyRow.laid W):
  Calls prog 3 args W λe W'=>∃v,e=.returned v/\Rows.listNobodySpec.post enc prog f3 false true false false W args v W':=by
 have hT:=Zgl hL;have Z:=hW;obtain⟨p,q,Y,hV,rfl,_,_⟩:=hW;have hA:DataW.TrodAll enc prog W 0 (λ_=>true) true f3.params.toList args.toList ds p:=Y;rw[params3]at hA hval;obtain⟨v0,vs0,d0,ds0,p0,q0,hargs,rfl,rfl,h0,r0⟩:=trodAll_cons hA;obtain⟨rfl,rfl,rfl⟩:=trodAll_nil r0;obtain rfl:args=#[v0]:=by cases args;simp_all
 obtain⟨rfl,rfl⟩:=trodVars_none hV;obtain⟨x,rfl,hbx⟩:=Jrp (hval 0 24 v0 rfl rfl) h0;refine(Zh0 hT x).mono λe W' ⟨he,hg⟩=>?_;subst he;refine⟨_,rfl,Zfn Z rfl (by kernel_rfl) ?_ (by simp[Rows.listNobodySpec]) hg⟩;rw[params3];have X:([24].all λt=>prog.readableRec t&&decide (t<prog.types.size))=true:=by kernel_rfl
 intro t ht;have:=ξt.1 X t ht;simpa using this
theorem JQp(os:Os):laidMet prog Rows.listNobodyRow.laid ((laidWorld os).forCall (λ_ _=>0) ⟨#[],#[.agg #[.int .u8 0,.int .i64 0,.int .u64 0,.int .u64 0]],[]⟩).memory:=
 laidMet_of_run' 8 (by kernel_rfl) (by kernel_rfl)
theorem reads(os:Os){H:Type}(enc:TypeId×Value->H):∃xs places,DataW.whole enc prog ((laidWorld os).forCall (λ_ _=>0) ⟨#[],#[.agg #[.int .u8 0,.int .i64 0,.int .u64 0,.int .u64 0]],[]⟩).memory f3.params.toList Rows.listNobodySpec.vars false (show Array Value from #[.agg #[.int .u8 0,.int .i64 0,.int .u64 0,.int .u64 0]]).toList 8=some (xs,[],places):=
 ⟨[.agg [.lit (.int .u8 0),.lit (.int .i64 0),.lit (.int .u64 0),.lit (.int .u64 0)]],[],by kernel_rfl⟩
theorem ZYJ(os:Os)(started:os.Started)(H:Type)(enc:TypeId×Value->H)(F:Stop.Interp):
  ReturnsInHanded {} checked os 3 .any ((OpenSpec.ofChange Rows.listNobodySpec).preRow enc prog f3 Rows.listNobodyRow.domain false Rows.listNobodyRow.laid) (((OpenSpec.ofChange Rows.listNobodySpec).at F).post enc prog f3 false true false false):=by
 obtain⟨xs,places,hx⟩:=reads os enc
 refine returnsInHanded_of_row (C:=checked) (s:=OpenSpec.ofChange Rows.listNobodySpec) own started (by as_aux_lemma=>kernel_rfl) func3
  (witness_row_at (enc:=enc) (C:=checked) false (laidWorld os) #[.agg #[.int .u8 0,.int .i64 0,.int .u64 0,.int .u64 0]] rfl (by as_aux_lemma=>kernel_rfl) (by as_aux_lemma=>kernel_rfl) (by as_aux_lemma=>kernel_rfl)
   (OpenSpec.preRow_of_cond 8 hx (by as_aux_lemma=>kernel_rfl) (λk hk=>by cases hk) (by as_aux_lemma=>kernel_rfl) (JQp os))) ?_
 intro W Y J ds gs X Z hW _ _ _ hL _ _;exact YDU H enc W Y J ds gs X Z hW hL
theorem VkO:Rows.ListNobodySaid:=
 OpenClaim.holds_of_cond 3 f3 rfl rfl rfl rfl rfl rfl rfl ⟨rfl,rfl,rfl,rfl,rfl⟩ rfl rfl rfl rfl rfl YUs func3 JSQ
  (of_decide_eq_true (by kernel_rfl)) (by unfold Func.isWrapper;first|(rw[μ (by decide +kernel)];kernel_rfl)|(rw[ϑ (by decide +kernel)];exact⟨rfl,rfl⟩))
  (λos started H enc _ F=>by rw[OpenClaim.pre_eq_preRow];exact ZYJ os started H enc F)
theorem plain(f:FuncId)(fn:Func)(hf:Tryz.pinned.checked.prog.funcNamed "ullage/ullagelaw38.ListNobody"=some f)(hfn:Tryz.pinned.checked.prog.funcs[f]?=some fn):
  ∀(j:Nat) t,fn.params[j]?=some t->Tryz.pinned.checked.prog.wantsStandIn t=false:=by
 obtain rfl:f=3:=Option.some.inj ((show prog.funcNamed "ullage/ullagelaw38.ListNobody"=some 3 by kernel_rfl).symm.trans hf) |>.symm;obtain rfl:fn=f3:=(Option.some.inj (func3.symm.trans hfn)).symm;intro j t ht;rw[params3]at ht;have hm:t∈[24]:=by simpa using Array.mem_of_getElem? ht
 have X:([24].all λu=>!prog.wantsStandIn u)=true:=by kernel_rfl
 exact(show prog.wantsStandIn t=false by simpa using ξt.1 X t hm)
theorem card:Rows.ListNobodyCardSaid:=
 Claim7.holds_tied_plain_at .later [] _ _ _ _ VkO (λ_ h=>by cases h) (by as_aux_lemma=>kernel_rfl) (λ_ h=>by cases h) listNobody_row_tie rfl ⟨rfl,rfl⟩ (by as_aux_lemma=>kernel_rfl) rfl (λf fn hf hfn=>⟨by kernel_rfl,plain f fn hf hfn⟩) (by as_aux_lemma=>kernel_rfl)
end listNobody
#print axioms listNobody.card
end
end Go.Proofs.YteihjlcmjecmfaaGreatDoor
