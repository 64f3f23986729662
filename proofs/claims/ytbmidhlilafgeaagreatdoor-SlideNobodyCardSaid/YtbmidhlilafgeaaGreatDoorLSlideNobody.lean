/- SlideNobody holds of every input. Written by mklaw.py. -/
import Derived.Test.YtbmidhlilafgeaaGreatDoorSlideNobodyI
namespace Go.Proofs.YtbmidhlilafgeaaGreatDoor
open Go.ChangeShapes Go.WideShapes Go.ChangeAt Go.RowKit Word
namespace slideNobody
set_option maxRecDepth 100000 in
theorem contract (H:Type) (enc:TypeId × Value->H) (W:World) (base:Nat) (args:Array Value) (ds gs:List (DataW H)) (before:List MemPlace)
  (hval:∀ (j:Nat) t v,Tryz.f11.params[j]?=some t->args[j]?=some v->Value.okWide Tryz.prog W .any base t v)
  (hW:DataW.Whole enc Tryz.prog Tryz.f11.params.toList Rows.slideNobodySpec.vars false W args.toList ds gs before) (hL:laidMetH Tryz.prog Rows.slideNobodyRow.laid W):
  Calls Tryz.prog 11 args W fun e W'=>∃ v,e=.returned v/\Rows.slideNobodySpec.post enc Tryz.prog Tryz.f11 false true false false W args v W':=by
 have hT:=tab_of_laid hL
 have hW':=hW
 obtain ⟨p,q,hA0,hV,rfl,_,_⟩:=hW
 have hA:DataW.TrodAll enc Tryz.prog W 0 (fun _=>true) true Tryz.f11.params.toList args.toList ds p:=hA0
 rw [Tryz.params11] at hA hval
 obtain ⟨v0,vs0,d0,ds0,p0,q0,hargs,rfl,rfl,h0,r0⟩:=trodAll_cons hA
 obtain ⟨v1,vs1,d1,ds1,p1,q1,rfl,rfl,rfl,h1,r1⟩:=trodAll_cons r0
 obtain ⟨rfl,rfl,rfl⟩:=trodAll_nil r1
 obtain rfl:args=#[v0,v1]:=by cases args;simp_all
 obtain ⟨rfl,rfl⟩:=trodVars_none hV
 obtain ⟨a,rfl,_,_,wa⟩:=open_int Tryz.underlying3 (hval 0 3 v0 rfl rfl) h0
 obtain ⟨mi,rfl,_,_,wm⟩:=open_int Tryz.underlying50 (hval 1 50 v1 rfl rfl) h1
 obtain ⟨m,rfl,hbm⟩:=nat_u64 wm
 refine (nobody24_walk hT a m).mono fun e W' ⟨he,hg⟩=>?_
 subst he
 refine ⟨_,rfl,law_post hW' rfl (by kernel_rfl) ?_ (by simp [Rows.slideNobodySpec]) hg⟩
 rw [Tryz.params11]
 have hall:([3,50].all fun t=>Tryz.prog.readableRec t&&decide (t<Tryz.prog.types.size))=true:=by kernel_rfl
 intro t ht
 have:=List.all_eq_true.1 hall t ht
 simpa using this
theorem laid_met (os:Os):laidMet Tryz.prog Rows.slideNobodyRow.laid ((laidWorld os).forCall (fun _ _=>0) ⟨#[],#[.int .i64 0,.int .u64 0],[]⟩).memory:=
 laidMet_of_run' 8 (by kernel_rfl) (by kernel_rfl)
theorem reads (os:Os) {H:Type} (enc:TypeId × Value->H):∃ xs places,DataW.whole enc Tryz.prog ((laidWorld os).forCall (fun _ _=>0) ⟨#[],#[.int .i64 0,.int .u64 0],[]⟩).memory Tryz.f11.params.toList Rows.slideNobodySpec.vars false (show Array Value from #[.int .i64 0,.int .u64 0]).toList 8=some (xs,[],places):=
 ⟨[.lit (.int .i64 0),.lit (.int .u64 0)],[],by kernel_rfl⟩
set_option maxRecDepth 100000 in
theorem lifted (os:Os) (started:os.Started) (H:Type) (enc:TypeId × Value->H) (F:Stop.Interp):
  ReturnsInHanded {} Tryz.checked os 11 .any ((OpenSpec.ofChange Rows.slideNobodySpec).preRow enc Tryz.prog Tryz.f11 Rows.slideNobodyRow.domain false Rows.slideNobodyRow.laid) (((OpenSpec.ofChange Rows.slideNobodySpec).at F).post enc Tryz.prog Tryz.f11 false true false false):=by
 obtain ⟨xs,places,hx⟩:=reads os enc
 refine returnsInHanded_of_row (C:=Tryz.checked) (s:=OpenSpec.ofChange Rows.slideNobodySpec) own started (by kernel_rfl) Tryz.func11
  (witness_row_at (enc:=enc) (C:=Tryz.checked) false (laidWorld os) #[.int .i64 0,.int .u64 0] rfl (by kernel_rfl) (by kernel_rfl) (by kernel_rfl)
   (OpenSpec.preRow_of_cond 8 hx (by kernel_rfl) (fun k hk=>by cases hk) (by kernel_rfl) (laid_met os))) ?_
 intro W base args ds gs before hval hW _ _ _ hL _ _
 exact contract H enc W base args ds gs before hval hW hL
theorem said:Rows.SlideNobodySaid:=
 OpenClaim.holds_of_cond 11 Tryz.f11 rfl rfl rfl rfl rfl rfl rfl ⟨rfl,rfl,rfl,rfl,rfl⟩ rfl rfl rfl rfl rfl (by kernel_rfl) Tryz.func11 (by kernel_rfl)
  (of_decide_eq_true (by kernel_rfl)) (by unfold Func.isWrapper;first | (rw [if_pos (by decide +kernel)];kernel_rfl) | (rw [if_neg (by decide +kernel)];exact ⟨rfl,rfl⟩))
  (fun os started H enc _ F=>by rw [OpenClaim.pre_eq_preRow];exact lifted os started H enc F)
theorem plain (f:FuncId) (fn:Func) (hf:Tryz.pinned.checked.prog.funcNamed "ullage/ullagelaw24.SlideNobody"=some f) (hfn:Tryz.pinned.checked.prog.funcs[f]?=some fn):
  ∀ (j:Nat) t,fn.params[j]?=some t->Tryz.pinned.checked.prog.wantsStandIn t=false:=by
 obtain rfl:f=11:=Option.some.inj ((show Tryz.prog.funcNamed "ullage/ullagelaw24.SlideNobody"=some 11 by kernel_rfl).symm.trans hf) |>.symm
 obtain rfl:fn=Tryz.f11:=(Option.some.inj (Tryz.func11.symm.trans hfn)).symm
 intro j t ht
 rw [Tryz.params11] at ht
 have hm:t∈[3,50]:=by simpa using Array.mem_of_getElem? ht
 have hall:([3,50].all fun u=>!Tryz.prog.wantsStandIn u)=true:=by kernel_rfl
 exact (show Tryz.prog.wantsStandIn t=false by simpa using List.all_eq_true.1 hall t hm)
theorem card:Rows.SlideNobodyCardSaid:=
 Claim7.holds_tied_plain_at .later [] _ _ _ _ said (fun _ h=>by cases h) (by kernel_rfl) (fun _ h=>by cases h) slideNobody_row_tie rfl ⟨rfl,rfl⟩ (by kernel_rfl) rfl (fun f fn hf hfn=>⟨by kernel_rfl,plain f fn hf hfn⟩) (by kernel_rfl)
end slideNobody
#print axioms slideNobody.card
end Go.Proofs.YtbmidhlilafgeaaGreatDoor
