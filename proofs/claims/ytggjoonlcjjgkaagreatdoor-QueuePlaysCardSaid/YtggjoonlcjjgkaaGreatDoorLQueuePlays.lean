/- QueuePlays holds of every input. Written by mklaw.py. -/
import Derived.Test.YtggjoonlcjjgkaaGreatDoorQueuePlaysM
namespace Go.Proofs.YtggjoonlcjjgkaaGreatDoor
open _root_.Go.Proofs.Tryz
set_option maxRecDepth 100000
section
open Go.ChangeShapes Go.WideShapes Go.ChangeAt Go.RowKit Word
namespace queuePlays
theorem YDU(H:Type)(enc:TypeId×Value->H)(W:World)(base:Nat)(args:Array Value)(ds gs:List (DataW H))(before:List MemPlace)
  (hval:∀(j:Nat) t v,f5.params[j]?=some t->args[j]?=some v->Value.okWide prog W .any base t v)
  (hW:DataW.Whole enc prog f5.params.toList Rows.queuePlaysSpec.vars false W args.toList ds gs before) (hL:laidMetH prog Rows.queuePlaysRow.laid W):
  Calls prog 5 args W λe W'=>∃v,e=.returned v/\Rows.queuePlaysSpec.post enc prog f5 false true false false W args v W':=by
 have hT:=Zgl hL;have N:=hW;obtain⟨p,q,J,hV,rfl,_,_⟩:=hW;have hA:DataW.TrodAll enc prog W 0 (λ_=>true) true f5.params.toList args.toList ds p:=J;rw[params5]at hA hval;obtain⟨v0,vs0,d0,ds0,p0,q0,hargs,rfl,rfl,h0,r0⟩:=trodAll_cons hA;obtain⟨v1,vs1,d1,ds1,p1,q1,rfl,rfl,rfl,h1,r1⟩:=trodAll_cons r0;obtain⟨v2,vs2,d2,ds2,p2,q2,rfl,rfl,rfl,h2,r2⟩:=trodAll_cons r1;obtain⟨rfl,rfl,rfl⟩:=trodAll_nil r2;obtain rfl:args=#[v0,v1,v2]:=by cases args;simp_all
 obtain⟨rfl,rfl⟩:=trodVars_none hV;obtain⟨c,rfl,M⟩:=Y87 (hval 0 40 v0 rfl rfl) h0;obtain⟨V,I,E,O,U,L,rfl⟩:=Qev (hval 1 51 v1 rfl rfl) h1;obtain⟨Aa,capa,la,rfl,X,Y⟩:=XTf (hval 2 52 v2 rfl rfl) h2;refine(XET hT c M V I E O U L Y X).mono λe W' ⟨he,hg⟩=>?_;subst he;refine⟨_,rfl,Zfn N rfl (by kernel_rfl) ?_ (by simp[Rows.queuePlaysSpec]) hg⟩;rw[params5];have Z:([40,51,52].all λt=>prog.readableRec t&&decide (t<prog.types.size))=true:=by kernel_rfl
 intro t ht;have:=ξv.1 Z t ht;simpa using this
theorem JQp(os:Os):laidMet prog Rows.queuePlaysRow.laid ((laidWorld os).forCall (λ_ _=>0) ⟨#[],#[.agg #[.int .i64 0,.int .i64 0,.int .i64 0,.int .i64 0,.int .i64 0,.int .i64 0,.int .i64 0,.float .f64 0],.agg #[.int .i64 0,.int .i64 0,.int .i64 0,.int .i64 0,.int .i64 0,.int .i64 0],.slice none 0 0],[]⟩).memory:=
 laidMet_of_run' 8 (by kernel_rfl) (by kernel_rfl)
theorem Z6Q(os:Os){H:Type}(enc:TypeId×Value->H):∃xs places,DataW.whole enc prog ((laidWorld os).forCall (λ_ _=>0) ⟨#[],#[.agg #[.int .i64 0,.int .i64 0,.int .i64 0,.int .i64 0,.int .i64 0,.int .i64 0,.int .i64 0,.float .f64 0],.agg #[.int .i64 0,.int .i64 0,.int .i64 0,.int .i64 0,.int .i64 0,.int .i64 0],.slice none 0 0],[]⟩).memory f5.params.toList Rows.queuePlaysSpec.vars false (show Array Value from #[.agg #[.int .i64 0,.int .i64 0,.int .i64 0,.int .i64 0,.int .i64 0,.int .i64 0,.int .i64 0,.float .f64 0],.agg #[.int .i64 0,.int .i64 0,.int .i64 0,.int .i64 0,.int .i64 0,.int .i64 0],.slice none 0 0]).toList 8=some (xs,[],places):=
 ⟨[.agg [.lit (.int .i64 0),.lit (.int .i64 0),.lit (.int .i64 0),.lit (.int .i64 0),.lit (.int .i64 0),.lit (.int .i64 0),.lit (.int .i64 0),.lit (.float .f64 0)],.agg [.lit (.int .i64 0),.lit (.int .i64 0),.lit (.int .i64 0),.lit (.int .i64 0),.lit (.int .i64 0),.lit (.int .i64 0)],.nil],[],by kernel_rfl⟩
theorem ZYJ(os:Os)(started:os.Started)(H:Type)(enc:TypeId×Value->H)(F:Stop.Interp):
  ReturnsInHanded {} checked os 5 .any ((OpenSpec.ofChange Rows.queuePlaysSpec).preRow enc prog f5 Rows.queuePlaysRow.domain false Rows.queuePlaysRow.laid) (((OpenSpec.ofChange Rows.queuePlaysSpec).at F).post enc prog f5 false true false false):=by
 obtain⟨xs,places,hx⟩:=Z6Q os enc
 refine returnsInHanded_of_row (C:=checked) (s:=OpenSpec.ofChange Rows.queuePlaysSpec) own started (by as_aux_lemma=>kernel_rfl) func5
  (witness_row_at (enc:=enc) (C:=checked) false (laidWorld os) #[.agg #[.int .i64 0,.int .i64 0,.int .i64 0,.int .i64 0,.int .i64 0,.int .i64 0,.int .i64 0,.float .f64 0],.agg #[.int .i64 0,.int .i64 0,.int .i64 0,.int .i64 0,.int .i64 0,.int .i64 0],.slice none 0 0] rfl (by as_aux_lemma=>kernel_rfl) (by as_aux_lemma=>kernel_rfl) (by as_aux_lemma=>kernel_rfl)
   (OpenSpec.preRow_of_cond 8 hx (by as_aux_lemma=>kernel_rfl) (λk hk=>by cases hk) (by as_aux_lemma=>kernel_rfl) (JQp os))) ?_
 intro W Z J ds gs X Y hW _ _ _ hL _ _;exact YDU H enc W Z J ds gs X Y hW hL
theorem VkO:Rows.QueuePlaysSaid:=
 OpenClaim.holds_of_cond 5 f5 rfl rfl rfl rfl rfl rfl rfl ⟨rfl,rfl,rfl,rfl,rfl⟩ rfl rfl rfl rfl rfl YUs func5 JSQ
  (of_decide_eq_true (by kernel_rfl)) (by unfold Func.isWrapper;first|(rw[θ (by decide +kernel)];kernel_rfl)|(rw[φ (by decide +kernel)];exact⟨rfl,rfl⟩))
  (λos started H enc _ F=>by rw[OpenClaim.pre_eq_preRow];exact ZYJ os started H enc F)
theorem plain(f:FuncId)(fn:Func)(hf:Tryz.pinned.checked.prog.funcNamed "ullage/ullagelaw40.QueuePlays"=some f)(hfn:Tryz.pinned.checked.prog.funcs[f]?=some fn):
  ∀(j:Nat) t,fn.params[j]?=some t->Tryz.pinned.checked.prog.wantsStandIn t=false:=by
 obtain rfl:f=5:=Option.some.inj ((show prog.funcNamed "ullage/ullagelaw40.QueuePlays"=some 5 by kernel_rfl).symm.trans hf) |>.symm;obtain rfl:fn=f5:=(Option.some.inj (func5.symm.trans hfn)).symm;intro j t ht;rw[params5]at ht;have hm:t∈[40,51,52]:=by simpa using Array.mem_of_getElem? ht
 have X:([40,51,52].all λu=>!prog.wantsStandIn u)=true:=by kernel_rfl
 exact(show prog.wantsStandIn t=false by simpa using ξv.1 X t hm)
theorem card:Rows.QueuePlaysCardSaid:=
 Claim7.holds_tied_plain_at .later [] _ _ _ _ VkO (λ_ h=>by cases h) (by as_aux_lemma=>kernel_rfl) (λ_ h=>by cases h) queuePlays_row_tie rfl ⟨rfl,rfl⟩ (by as_aux_lemma=>kernel_rfl) rfl (λf fn hf hfn=>⟨by kernel_rfl,plain f fn hf hfn⟩) (by as_aux_lemma=>kernel_rfl)
end queuePlays
#print axioms queuePlays.card
end
end Go.Proofs.YtggjoonlcjjgkaaGreatDoor
