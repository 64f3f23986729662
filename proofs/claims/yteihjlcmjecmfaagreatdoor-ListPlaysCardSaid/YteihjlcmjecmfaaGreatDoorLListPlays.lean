/- ListPlays holds of every input. Written by mklaw.py. -/
import Derived.Test.YteihjlcmjecmfaaGreatDoorListPlaysN
namespace Go.Proofs.YteihjlcmjecmfaaGreatDoor
open _root_.Go.Proofs.Tryz
set_option maxRecDepth 100000
section
open Go.ChangeShapes Go.WideShapes Go.ChangeAt Go.RowKit Word
namespace listPlays
theorem YDU(H:Type)(enc:TypeId×Value->H)(W:World)(base:Nat)(args:Array Value)(ds gs:List (DataW H))(before:List MemPlace)
  (hval:∀(j:Nat) t v,f4.params[j]?=some t->args[j]?=some v->Value.okWide prog W .any base t v)
  (hW:DataW.Whole enc prog f4.params.toList Rows.listPlaysSpec.vars false W args.toList ds gs before) (hL:laidMetH prog Rows.listPlaysRow.laid W):
  Calls prog 4 args W λe W'=>∃v,e=.returned v/\Rows.listPlaysSpec.post enc prog f4 false true false false W args v W':=by
 have hT:=Zgl hL;have J:=hW;obtain⟨p,q,V,hV,rfl,_,_⟩:=hW;have hA:DataW.TrodAll enc prog W 0 (λ_=>true) true f4.params.toList args.toList ds p:=V;rw[params4]at hA hval;obtain⟨v0,vs0,d0,ds0,p0,q0,hargs,rfl,rfl,h0,r0⟩:=trodAll_cons hA;obtain⟨v1,vs1,d1,ds1,p1,q1,rfl,rfl,rfl,h1,r1⟩:=trodAll_cons r0;obtain⟨v2,vs2,d2,ds2,p2,q2,rfl,rfl,rfl,h2,r2⟩:=trodAll_cons r1;obtain⟨rfl,rfl,rfl⟩:=trodAll_nil r2;obtain rfl:args=#[v0,v1,v2]:=by cases args;simp_all
 obtain⟨rfl,rfl⟩:=trodVars_none hV;obtain⟨c,rfl,U⟩:=Y87 (hval 0 41 v0 rfl rfl) h0;obtain⟨xs,ys,zs,rfl,hbs⟩:=Q7t (hval 1 42 v1 rfl rfl) h1;obtain⟨Aa,capa,la,rfl,X,Y⟩:=VUE (hval 2 43 v2 rfl rfl) h2;refine(YPg hT c U xs ys zs Y X).mono λe W' ⟨he,hg⟩=>?_;subst he;refine⟨_,rfl,Zfn J rfl (by kernel_rfl) ?_ (by simp[Rows.listPlaysSpec]) hg⟩;rw[params4];have Z:([41,42,43].all λt=>prog.readableRec t&&decide (t<prog.types.size))=true:=by kernel_rfl
 intro t ht;have:=ζ8.1 Z t ht;simpa using this
theorem JQp(os:Os):laidMet prog Rows.listPlaysRow.laid ((laidWorld os).forCall (λ_ _=>0) ⟨#[],#[.agg #[.int .i64 0,.int .i64 0,.int .i64 0,.int .i64 0,.int .i64 0,.int .i64 0,.int .i64 0,.float .f64 0],.agg #[.int .i64 0,.int .i64 0,.int .i64 0],.slice none 0 0],[]⟩).memory:=
 laidMet_of_run' 8 (by kernel_rfl) (by kernel_rfl)
theorem reads(os:Os){H:Type}(enc:TypeId×Value->H):∃xs places,DataW.whole enc prog ((laidWorld os).forCall (λ_ _=>0) ⟨#[],#[.agg #[.int .i64 0,.int .i64 0,.int .i64 0,.int .i64 0,.int .i64 0,.int .i64 0,.int .i64 0,.float .f64 0],.agg #[.int .i64 0,.int .i64 0,.int .i64 0],.slice none 0 0],[]⟩).memory f4.params.toList Rows.listPlaysSpec.vars false (show Array Value from #[.agg #[.int .i64 0,.int .i64 0,.int .i64 0,.int .i64 0,.int .i64 0,.int .i64 0,.int .i64 0,.float .f64 0],.agg #[.int .i64 0,.int .i64 0,.int .i64 0],.slice none 0 0]).toList 8=some (xs,[],places):=
 ⟨[.agg [.lit (.int .i64 0),.lit (.int .i64 0),.lit (.int .i64 0),.lit (.int .i64 0),.lit (.int .i64 0),.lit (.int .i64 0),.lit (.int .i64 0),.lit (.float .f64 0)],.agg [.lit (.int .i64 0),.lit (.int .i64 0),.lit (.int .i64 0)],.nil],[],by kernel_rfl⟩
theorem ZYJ(os:Os)(started:os.Started)(H:Type)(enc:TypeId×Value->H)(F:Stop.Interp):
  ReturnsInHanded {} checked os 4 .any ((OpenSpec.ofChange Rows.listPlaysSpec).preRow enc prog f4 Rows.listPlaysRow.domain false Rows.listPlaysRow.laid) (((OpenSpec.ofChange Rows.listPlaysSpec).at F).post enc prog f4 false true false false):=by
 obtain⟨xs,places,hx⟩:=reads os enc
 refine returnsInHanded_of_row (C:=checked) (s:=OpenSpec.ofChange Rows.listPlaysSpec) own started (by as_aux_lemma=>kernel_rfl) func4
  (witness_row_at (enc:=enc) (C:=checked) false (laidWorld os) #[.agg #[.int .i64 0,.int .i64 0,.int .i64 0,.int .i64 0,.int .i64 0,.int .i64 0,.int .i64 0,.float .f64 0],.agg #[.int .i64 0,.int .i64 0,.int .i64 0],.slice none 0 0] rfl (by as_aux_lemma=>kernel_rfl) (by as_aux_lemma=>kernel_rfl) (by as_aux_lemma=>kernel_rfl)
   (OpenSpec.preRow_of_cond 8 hx (by as_aux_lemma=>kernel_rfl) (λk hk=>by cases hk) (by as_aux_lemma=>kernel_rfl) (JQp os))) ?_
 intro W J Y ds gs X Z hW _ _ _ hL _ _;exact YDU H enc W J Y ds gs X Z hW hL
theorem VkO:Rows.ListPlaysSaid:=
 OpenClaim.holds_of_cond 4 f4 rfl rfl rfl rfl rfl rfl rfl ⟨rfl,rfl,rfl,rfl,rfl⟩ rfl rfl rfl rfl rfl YUs func4 JSQ
  (of_decide_eq_true (by kernel_rfl)) (by unfold Func.isWrapper;first|(rw[μ (by decide +kernel)];kernel_rfl)|(rw[κ (by decide +kernel)];exact⟨rfl,rfl⟩))
  (λos started H enc _ F=>by rw[OpenClaim.pre_eq_preRow];exact ZYJ os started H enc F)
theorem plain(f:FuncId)(fn:Func)(hf:Tryz.pinned.checked.prog.funcNamed "ullage/ullagelaw38.ListPlays"=some f)(hfn:Tryz.pinned.checked.prog.funcs[f]?=some fn):
  ∀(j:Nat) t,fn.params[j]?=some t->Tryz.pinned.checked.prog.wantsStandIn t=false:=by
 obtain rfl:f=4:=Option.some.inj ((show prog.funcNamed "ullage/ullagelaw38.ListPlays"=some 4 by kernel_rfl).symm.trans hf) |>.symm;obtain rfl:fn=f4:=(Option.some.inj (func4.symm.trans hfn)).symm;intro j t ht;rw[params4]at ht;have hm:t∈[41,42,43]:=by simpa using Array.mem_of_getElem? ht
 have X:([41,42,43].all λu=>!prog.wantsStandIn u)=true:=by kernel_rfl
 exact(show prog.wantsStandIn t=false by simpa using ζ8.1 X t hm)
theorem card:Rows.ListPlaysCardSaid:=
 Claim7.holds_tied_plain_at .later [] _ _ _ _ VkO (λ_ h=>by cases h) (by as_aux_lemma=>kernel_rfl) (λ_ h=>by cases h) listPlays_row_tie rfl ⟨rfl,rfl⟩ (by as_aux_lemma=>kernel_rfl) rfl (λf fn hf hfn=>⟨by kernel_rfl,plain f fn hf hfn⟩) (by as_aux_lemma=>kernel_rfl)
end listPlays
#print axioms listPlays.card
end
end Go.Proofs.YteihjlcmjecmfaaGreatDoor
