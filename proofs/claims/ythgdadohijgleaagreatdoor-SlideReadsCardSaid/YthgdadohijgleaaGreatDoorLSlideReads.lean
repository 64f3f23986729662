/- SlideReads holds of every input. Written by mklaw.py. -/
import Derived.Test.YthgdadohijgleaaGreatDoorSlideReadsK
namespace Go.Proofs.YthgdadohijgleaaGreatDoor
open Go.ChangeShapes Go.WideShapes Go.ChangeAt Go.RowKit Word
namespace slideReads
set_option maxRecDepth 100000 in
theorem contract (H:Type) (enc:TypeId × Value->H) (W:World) (base:Nat) (args:Array Value) (ds gs:List (DataW H)) (before:List MemPlace)
  (hval:∀ (j:Nat) t v,Tryz.f13.params[j]?=some t->args[j]?=some v->Value.okWide Tryz.prog W .any base t v)
  (hW:DataW.Whole enc Tryz.prog Tryz.f13.params.toList Rows.slideReadsSpec.vars false W args.toList ds gs before) (hL:laidMetH Tryz.prog Rows.slideReadsRow.laid W) (hz:∀ (j:Nat) t d n,(Tryz.f13.params.toList)[j]?=some t->ds[j]?=some d->n∈DataW.weights Tryz.prog t d->n<=reachBytes):
  Calls Tryz.prog 13 args W fun e W'=>∃ v,e=.returned v/\Rows.slideReadsSpec.post enc Tryz.prog Tryz.f13 false true false false W args v W':=by
 have hT:=tab_of_laid hL
 have hW':=hW
 obtain ⟨p,q,hA0,hV,rfl,_,_⟩:=hW
 have hA:DataW.TrodAll enc Tryz.prog W 0 (fun _=>true) true Tryz.f13.params.toList args.toList ds p:=hA0
 rw [Tryz.params13] at hA hval hz
 obtain ⟨v0,vs0,d0,ds0,p0,q0,hargs,rfl,rfl,h0,r0⟩:=trodAll_cons hA
 obtain ⟨v1,vs1,d1,ds1,p1,q1,rfl,rfl,rfl,h1,r1⟩:=trodAll_cons r0
 obtain ⟨v2,vs2,d2,ds2,p2,q2,rfl,rfl,rfl,h2,r2⟩:=trodAll_cons r1
 obtain ⟨rfl,rfl,rfl⟩:=trodAll_nil r2
 obtain rfl:args=#[v0,v1,v2]:=by cases args;simp_all
 obtain ⟨rfl,rfl⟩:=trodVars_none hV
 obtain ⟨A1x,A2x,A3x,c1x,c2x,c3x,xx,rfl,hLx⟩:=open_laidC (hval 0 94 v0 rfl rfl) h0 (fun n hn=>hz 0 _ _ n rfl rfl hn)
 obtain ⟨As,caps,ls,rfl,hlms,hAcs⟩:=open_u16s (hval 1 95 v1 rfl rfl) h1
 obtain ⟨mi,rfl,_,_,wm⟩:=open_int Tryz.underlying49 (hval 2 49 v2 rfl rfl) h2
 obtain ⟨m,rfl,hbm⟩:=nat_u64 wm
 refine (reads24_walk hT hLx hAcs hlms hbm).mono fun e W' ⟨he,hg⟩=>?_
 subst he
 refine ⟨_,rfl,law_post hW' rfl (by kernel_rfl) ?_ (by simp [Rows.slideReadsSpec]) hg⟩
 rw [Tryz.params13]
 have hall:([94,95,49].all fun t=>Tryz.prog.readableRec t&&decide (t<Tryz.prog.types.size))=true:=by kernel_rfl
 intro t ht
 have:=List.all_eq_true.1 hall t ht
 simpa using this
theorem laid_met (os:Os):laidMet Tryz.prog Rows.slideReadsRow.laid ((laidWorld os).forCall (fun _ _=>0) ⟨#[],#[.agg #[.int .u8 0,.slice none 0 0,.slice none 0 0,.slice none 0 0,.int .u8 0,.int .u8 0,.int .u8 0],.slice none 0 0,.int .u64 0],[]⟩).memory:=
 laidMet_of_run' 8 (by kernel_rfl) (by kernel_rfl)
theorem reads (os:Os) {H:Type} (enc:TypeId × Value->H):∃ xs places,DataW.whole enc Tryz.prog ((laidWorld os).forCall (fun _ _=>0) ⟨#[],#[.agg #[.int .u8 0,.slice none 0 0,.slice none 0 0,.slice none 0 0,.int .u8 0,.int .u8 0,.int .u8 0],.slice none 0 0,.int .u64 0],[]⟩).memory Tryz.f13.params.toList Rows.slideReadsSpec.vars false (show Array Value from #[.agg #[.int .u8 0,.slice none 0 0,.slice none 0 0,.slice none 0 0,.int .u8 0,.int .u8 0,.int .u8 0],.slice none 0 0,.int .u64 0]).toList 8=some (xs,[],places):=
 ⟨[.agg [.lit (.int .u8 0),.nil,.nil,.nil,.lit (.int .u8 0),.lit (.int .u8 0),.lit (.int .u8 0)],.nil,.lit (.int .u64 0)],[],by kernel_rfl⟩
set_option maxRecDepth 100000 in
theorem lifted (os:Os) (started:os.Started) (H:Type) (enc:TypeId × Value->H) (F:Stop.Interp):
  ReturnsInHanded {} Tryz.checked os 13 .any ((OpenSpec.ofChange Rows.slideReadsSpec).preRow enc Tryz.prog Tryz.f13 Rows.slideReadsRow.domain false Rows.slideReadsRow.laid) (((OpenSpec.ofChange Rows.slideReadsSpec).at F).post enc Tryz.prog Tryz.f13 false true false false):=by
 obtain ⟨xs,places,hx⟩:=reads os enc
 refine returnsInHanded_of_row (C:=Tryz.checked) (s:=OpenSpec.ofChange Rows.slideReadsSpec) own started (by as_aux_lemma=>kernel_rfl) Tryz.func13
  (witness_row_at (enc:=enc) (C:=Tryz.checked) false (laidWorld os) #[.agg #[.int .u8 0,.slice none 0 0,.slice none 0 0,.slice none 0 0,.int .u8 0,.int .u8 0,.int .u8 0],.slice none 0 0,.int .u64 0] rfl (by as_aux_lemma=>kernel_rfl) (by as_aux_lemma=>kernel_rfl) (by as_aux_lemma=>kernel_rfl)
   (OpenSpec.preRow_of_cond 8 hx (by as_aux_lemma=>kernel_rfl) (fun k hk=>by cases hk) (by as_aux_lemma=>kernel_rfl) (laid_met os))) ?_
 intro W base args ds gs before hval hW _ _ hz hL _ _
 exact contract H enc W base args ds gs before hval hW hL (fun j t d n ht hd hn=>by
  have:=List.all_eq_true.1 hz n (DataW.weights_mem_each ((List.getElem?_append_left (List.getElem?_eq_some_iff.1 ht).1).trans ht) ((List.getElem?_append_left (List.getElem?_eq_some_iff.1 hd).1).trans hd) n hn)
  simpa using this)
theorem said:Rows.SlideReadsSaid:=
 OpenClaim.holds_of_cond 13 Tryz.f13 rfl rfl rfl rfl rfl rfl rfl ⟨rfl,rfl,rfl,rfl,rfl⟩ rfl rfl rfl rfl rfl named Tryz.func13 closed
  (of_decide_eq_true (by kernel_rfl)) (by unfold Func.isWrapper;first | (rw [if_pos (by decide +kernel)];kernel_rfl) | (rw [if_neg (by decide +kernel)];exact ⟨rfl,rfl⟩))
  (fun os started H enc _ F=>by rw [OpenClaim.pre_eq_preRow];exact lifted os started H enc F)
theorem plain (f:FuncId) (fn:Func) (hf:Tryz.pinned.checked.prog.funcNamed "ullage/ullagelaw24.SlideReads"=some f) (hfn:Tryz.pinned.checked.prog.funcs[f]?=some fn):
  ∀ (j:Nat) t,fn.params[j]?=some t->Tryz.pinned.checked.prog.wantsStandIn t=false:=by
 obtain rfl:f=13:=Option.some.inj ((show Tryz.prog.funcNamed "ullage/ullagelaw24.SlideReads"=some 13 by kernel_rfl).symm.trans hf) |>.symm
 obtain rfl:fn=Tryz.f13:=(Option.some.inj (Tryz.func13.symm.trans hfn)).symm
 intro j t ht
 rw [Tryz.params13] at ht
 have hm:t∈[94,95,49]:=by simpa using Array.mem_of_getElem? ht
 have hall:([94,95,49].all fun u=>!Tryz.prog.wantsStandIn u)=true:=by kernel_rfl
 exact (show Tryz.prog.wantsStandIn t=false by simpa using List.all_eq_true.1 hall t hm)
theorem card:Rows.SlideReadsCardSaid:=
 Claim7.holds_tied_plain_at .later [] _ _ _ _ said (fun _ h=>by cases h) (by as_aux_lemma=>kernel_rfl) (fun _ h=>by cases h) slideReads_row_tie rfl ⟨rfl,rfl⟩ (by as_aux_lemma=>kernel_rfl) rfl (fun f fn hf hfn=>⟨by kernel_rfl,plain f fn hf hfn⟩) (by as_aux_lemma=>kernel_rfl)
end slideReads
#print axioms slideReads.card
end Go.Proofs.YthgdadohijgleaaGreatDoor
