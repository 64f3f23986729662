/- HeapAlike holds of every input. Written by mklaw.py. -/
import Derived.Test.YtcihfnpokdbfpaaGreatDoorTwoN
import Derived.Test.YtcihfnpokdbfpaaGreatDoorJHeapAlike
namespace Go.Proofs.YtcihfnpokdbfpaaGreatDoor
open _root_.Go.Proofs.Tryz
set_option maxRecDepth 100000
open Go.ChangeShapes Go.WideShapes Go.ChangeAt Go.RowKit Word
namespace heapAlike
theorem YX(H:Type)(enc:TypeId×Value->H)(W:World)(base:Nat)(args:Array Value)(ds gs:List (DataW H))(before:List MemPlace)
  (hval:∀(j:Nat) t v,f4.params[j]?=some t->args[j]?=some v->Value.okWide prog W .any base t v)
  (hW:DataW.Whole enc prog f4.params.toList Rows.heapAlikeSpec.vars false W args.toList ds gs before) (hL:laidMetH prog Rows.heapAlikeRow.laid W):Calls prog 4 args W λe W'=>∃v,e=.returned v/\Rows.heapAlikeSpec.post enc prog f4 false true false false W args v W':=by
 have hT:=Zgl hL;have U:=hW;obtain⟨p,q,J,hV,rfl,_,_⟩:=hW;have hA:DataW.TrodAll enc prog W 0 (λ_=>true) true f4.params.toList args.toList ds p:=J;rw[params4]at hA hval;obtain⟨v0,vs0,d0,ds0,p0,q0,hargs,rfl,rfl,h0,r0⟩:=trodAll_cons hA;obtain⟨v1,vs1,d1,ds1,p1,q1,rfl,rfl,rfl,h1,r1⟩:=trodAll_cons r0;obtain⟨v2,vs2,d2,ds2,p2,q2,rfl,rfl,rfl,h2,r2⟩:=trodAll_cons r1;obtain⟨rfl,rfl,rfl⟩:=trodAll_nil r2;obtain rfl:args=#[v0,v1,v2]:=by cases args;simp_all
 obtain⟨rfl,rfl⟩:=trodVars_none hV;obtain⟨c,rfl,Z⟩:=YW (hval 0 24 v0 rfl rfl) h0;obtain⟨d,rfl,V⟩:=YW (hval 1 24 v1 rfl rfl) h1;obtain⟨Al,capl,ll,rfl,hlml,Y⟩:=Vlo (hval 2 25 v2 rfl rfl) h2;refine(Xrf hT c Z d V Y).mono λe W' ⟨he,hg⟩=>?_;subst he;refine⟨_,rfl,Zfn U rfl (by kernel_rfl) ?_ (by simp[Rows.heapAlikeSpec]) hg⟩;rw[params4];have X:([24,24,25].all λt=>prog.readableRec t&&decide (t<prog.types.size))=true:=by kernel_rfl
 intro t ht;have:=ζ1.1 X t ht;simpa using this
theorem VM(os:Os):laidMet prog Rows.heapAlikeRow.laid ((laidWorld os).forCall (λ_ _=>0) ⟨#[],#[.agg #[iI 0,iI 0,iI 0,iI 0,iI 0,iI 0,iI 0,.float .f64 0],.agg #[iI 0,iI 0,iI 0,iI 0,iI 0,iI 0,iI 0,.float .f64 0],.slice none 0 0],[]⟩).memory:=
 laidMet_of_run' 8 (by kernel_rfl) (by kernel_rfl)
theorem ZM(os:Os){H:Type}(enc:TypeId×Value->H):∃xs places,DataW.whole enc prog ((laidWorld os).forCall (λ_ _=>0) ⟨#[],#[.agg #[.int .i64 0,.int .i64 0,.int .i64 0,.int .i64 0,.int .i64 0,.int .i64 0,.int .i64 0,.float .f64 0],.agg #[.int .i64 0,.int .i64 0,.int .i64 0,.int .i64 0,.int .i64 0,.int .i64 0,.int .i64 0,.float .f64 0],.slice none 0 0],[]⟩).memory f4.params.toList Rows.heapAlikeSpec.vars false (show Array Value from #[.agg #[.int .i64 0,.int .i64 0,.int .i64 0,.int .i64 0,.int .i64 0,.int .i64 0,.int .i64 0,.float .f64 0],.agg #[.int .i64 0,.int .i64 0,.int .i64 0,.int .i64 0,.int .i64 0,.int .i64 0,.int .i64 0,.float .f64 0],.slice none 0 0]).toList 8=some (xs,[],places):=
 ⟨[.agg [.lit (.int .i64 0),.lit (.int .i64 0),.lit (.int .i64 0),.lit (.int .i64 0),.lit (.int .i64 0),.lit (.int .i64 0),.lit (.int .i64 0),.lit (.float .f64 0)],.agg [.lit (.int .i64 0),.lit (.int .i64 0),.lit (.int .i64 0),.lit (.int .i64 0),.lit (.int .i64 0),.lit (.int .i64 0),.lit (.int .i64 0),.lit (.float .f64 0)],.nil],[],by kernel_rfl⟩
theorem ZX(os:Os)(started:os.Started)(H:Type)(enc:TypeId×Value->H)(F:Stop.Interp):
  ReturnsInHanded {} checked os 4 .any ((OpenSpec.ofChange Rows.heapAlikeSpec).preRow enc prog f4 Rows.heapAlikeRow.domain false Rows.heapAlikeRow.laid) (((OpenSpec.ofChange Rows.heapAlikeSpec).at F).post enc prog f4 false true false false):=by
 obtain⟨xs,places,hx⟩:=ZM os enc
 refine returnsInHanded_of_row (C:=checked) (s:=OpenSpec.ofChange Rows.heapAlikeSpec) own started (by as_aux_lemma=>kernel_rfl) func4
  (witness_row_at (enc:=enc) (C:=checked) false (laidWorld os) #[.agg #[iI 0,iI 0,iI 0,iI 0,iI 0,iI 0,iI 0,.float .f64 0],.agg #[iI 0,iI 0,iI 0,iI 0,iI 0,iI 0,iI 0,.float .f64 0],.slice none 0 0] rfl (by as_aux_lemma=>kernel_rfl) (by as_aux_lemma=>kernel_rfl) (by as_aux_lemma=>kernel_rfl)
   (OpenSpec.preRow_of_cond 8 hx (by as_aux_lemma=>kernel_rfl) (λk hk=>by cases hk) (by as_aux_lemma=>kernel_rfl) (VM os))) ?_
 intro W J Z ds gs X Y hW _ _ _ hL _ _;exact YX H enc W J Z ds gs X Y hW hL
theorem XW:Rows.HeapAlikeSaid:=
 OpenClaim.holds_of_cond 4 f4 rfl rfl rfl rfl rfl rfl rfl ⟨rfl,rfl,rfl,rfl,rfl⟩ rfl rfl rfl rfl rfl Y4 func4 VN
  (of_decide_eq_true (by kernel_rfl)) (by unfold Func.isWrapper;first|(rw[θ (by decide +kernel)];kernel_rfl)|(rw[ψ (by decide +kernel)];exact⟨rfl,rfl⟩))
  (λos started H enc _ F=>by rw[OpenClaim.pre_eq_preRow];exact ZX os started H enc F)
theorem plain(f:FuncId)(fn:Func)(hf:Tryz.pinned.checked.prog.funcNamed "ullage/ullagelaw27.HeapAlike"=some f)(hfn:Tryz.pinned.checked.prog.funcs[f]?=some fn):
  ∀(j:Nat) t,fn.params[j]?=some t->Tryz.pinned.checked.prog.wantsStandIn t=false:=by
 obtain rfl:f=4:=Option.some.inj ((show prog.funcNamed "ullage/ullagelaw27.HeapAlike"=some 4 by kernel_rfl).symm.trans hf) |>.symm;obtain rfl:fn=f4:=(Option.some.inj (func4.symm.trans hfn)).symm;intro j t ht;rw[params4]at ht;have hm:t∈[24,24,25]:=by simpa using ψR ht
 have X:([24,24,25].all λu=>!prog.wantsStandIn u)=true:=by kernel_rfl
 exact(show prog.wantsStandIn t=false by simpa using ζ1.1 X t hm)
theorem card:Rows.HeapAlikeCardSaid:=
 Claim7.holds_tied_plain_at .later [] _ _ _ _ XW (λ_ h=>by cases h) (by as_aux_lemma=>kernel_rfl) (λ_ h=>by cases h) heapAlike_row_tie rfl ⟨rfl,rfl⟩ (by as_aux_lemma=>kernel_rfl) rfl (λf fn hf hfn=>⟨by kernel_rfl,plain f fn hf hfn⟩) (by as_aux_lemma=>kernel_rfl)
end heapAlike
#print axioms heapAlike.card
end Go.Proofs.YtcihfnpokdbfpaaGreatDoor
