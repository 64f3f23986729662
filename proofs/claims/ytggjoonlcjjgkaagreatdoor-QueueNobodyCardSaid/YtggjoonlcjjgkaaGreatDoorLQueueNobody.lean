/- QueueNobody holds of every input. Written by mklaw.py. -/
import Derived.Test.YtggjoonlcjjgkaaGreatDoorQueueNobodyM
namespace Go.Proofs.YtggjoonlcjjgkaaGreatDoor
open _root_.Go.Proofs.Tryz
set_option maxRecDepth 100000
section
open Go.ChangeShapes Go.WideShapes Go.ChangeAt Go.RowKit Word
namespace queueNobody
theorem YDU(H:Type)(enc:TypeId×Value->H)(W:World)(base:Nat)(args:Array Value)(ds gs:List (DataW H))(before:List MemPlace)
  (hval:∀(j:Nat) t v,f3.params[j]?=some t->args[j]?=some v->Value.okWide prog W .any base t v)
  (hW:DataW.Whole enc prog f3.params.toList Rows.queueNobodySpec.vars false W args.toList ds gs before) (hL:laidMetH prog Rows.queueNobodyRow.laid W):
  Calls prog 3 args W λe W'=>∃v,e=.returned v/\Rows.queueNobodySpec.post enc prog f3 false true false false W args v W':=by
 have hT:=Zgl hL;have Y:=hW;obtain⟨p,q,Z,hV,rfl,_,_⟩:=hW;have hA:DataW.TrodAll enc prog W 0 (λ_=>true) true f3.params.toList args.toList ds p:=Z;rw[params3]at hA hval;obtain⟨v0,vs0,d0,ds0,p0,q0,hargs,rfl,rfl,h0,r0⟩:=trodAll_cons hA;obtain⟨rfl,rfl,rfl⟩:=trodAll_nil r0;obtain rfl:args=#[v0]:=by cases args;simp_all
 obtain⟨rfl,rfl⟩:=trodVars_none hV;obtain⟨x,rfl,hbx⟩:=JpN (hval 0 24 v0 rfl rfl) h0;refine(YCy hT x).mono λe W' ⟨he,hg⟩=>?_;subst he;refine⟨_,rfl,Zfn Y rfl (by kernel_rfl) ?_ (by simp[Rows.queueNobodySpec]) hg⟩;rw[params3];have X:([24].all λt=>prog.readableRec t&&decide (t<prog.types.size))=true:=by kernel_rfl
 intro t ht;have:=ξs.1 X t ht;simpa using this
theorem JQp(os:Os):laidMet prog Rows.queueNobodyRow.laid ((laidWorld os).forCall (λ_ _=>0) ⟨#[],#[.agg #[.int .u8 0,.int .u64 0,.int .u64 0]],[]⟩).memory:=
 laidMet_of_run' 8 (by kernel_rfl) (by kernel_rfl)
theorem Z6Q(os:Os){H:Type}(enc:TypeId×Value->H):∃xs places,DataW.whole enc prog ((laidWorld os).forCall (λ_ _=>0) ⟨#[],#[.agg #[.int .u8 0,.int .u64 0,.int .u64 0]],[]⟩).memory f3.params.toList Rows.queueNobodySpec.vars false (show Array Value from #[.agg #[.int .u8 0,.int .u64 0,.int .u64 0]]).toList 8=some (xs,[],places):=
 ⟨[.agg [.lit (.int .u8 0),.lit (.int .u64 0),.lit (.int .u64 0)]],[],by kernel_rfl⟩
theorem ZYJ(os:Os)(started:os.Started)(H:Type)(enc:TypeId×Value->H)(F:Stop.Interp):
  ReturnsInHanded {} checked os 3 .any ((OpenSpec.ofChange Rows.queueNobodySpec).preRow enc prog f3 Rows.queueNobodyRow.domain false Rows.queueNobodyRow.laid) (((OpenSpec.ofChange Rows.queueNobodySpec).at F).post enc prog f3 false true false false):=by
 obtain⟨xs,places,hx⟩:=Z6Q os enc
 refine returnsInHanded_of_row (C:=checked) (s:=OpenSpec.ofChange Rows.queueNobodySpec) own started (by as_aux_lemma=>kernel_rfl) func3
  (witness_row_at (enc:=enc) (C:=checked) false (laidWorld os) #[.agg #[.int .u8 0,.int .u64 0,.int .u64 0]] rfl (by as_aux_lemma=>kernel_rfl) (by as_aux_lemma=>kernel_rfl) (by as_aux_lemma=>kernel_rfl)
   (OpenSpec.preRow_of_cond 8 hx (by as_aux_lemma=>kernel_rfl) (λk hk=>by cases hk) (by as_aux_lemma=>kernel_rfl) (JQp os))) ?_
 intro W J Y ds gs X Z hW _ _ _ hL _ _;exact YDU H enc W J Y ds gs X Z hW hL
theorem VkO:Rows.QueueNobodySaid:=
 OpenClaim.holds_of_cond 3 f3 rfl rfl rfl rfl rfl rfl rfl ⟨rfl,rfl,rfl,rfl,rfl⟩ rfl rfl rfl rfl rfl YUs func3 JSQ
  (of_decide_eq_true (by kernel_rfl)) (by unfold Func.isWrapper;first|(rw[θ (by decide +kernel)];kernel_rfl)|(rw[ψ (by decide +kernel)];exact⟨rfl,rfl⟩))
  (λos started H enc _ F=>by rw[OpenClaim.pre_eq_preRow];exact ZYJ os started H enc F)
theorem plain(f:FuncId)(fn:Func)(hf:Tryz.pinned.checked.prog.funcNamed "ullage/ullagelaw40.QueueNobody"=some f)(hfn:Tryz.pinned.checked.prog.funcs[f]?=some fn):
  ∀(j:Nat) t,fn.params[j]?=some t->Tryz.pinned.checked.prog.wantsStandIn t=false:=by
 obtain rfl:f=3:=Option.some.inj ((show prog.funcNamed "ullage/ullagelaw40.QueueNobody"=some 3 by kernel_rfl).symm.trans hf) |>.symm;obtain rfl:fn=f3:=(Option.some.inj (func3.symm.trans hfn)).symm;intro j t ht;rw[params3]at ht;have hm:t∈[24]:=by simpa using Array.mem_of_getElem? ht
 have X:([24].all λu=>!prog.wantsStandIn u)=true:=by kernel_rfl
 exact(show prog.wantsStandIn t=false by simpa using ξs.1 X t hm)
theorem card:Rows.QueueNobodyCardSaid:=
 Claim7.holds_tied_plain_at .later [] _ _ _ _ VkO (λ_ h=>by cases h) (by as_aux_lemma=>kernel_rfl) (λ_ h=>by cases h) queueNobody_row_tie rfl ⟨rfl,rfl⟩ (by as_aux_lemma=>kernel_rfl) rfl (λf fn hf hfn=>⟨by kernel_rfl,plain f fn hf hfn⟩) (by as_aux_lemma=>kernel_rfl)
end queueNobody
#print axioms queueNobody.card
end
end Go.Proofs.YtggjoonlcjjgkaaGreatDoor
