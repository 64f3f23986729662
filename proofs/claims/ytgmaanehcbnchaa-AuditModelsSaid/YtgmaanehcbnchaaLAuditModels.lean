/- AuditModels holds of every input. -/
import Derived.Test.YtgmaanehcbnchaaAuditModelsG
import Derived.Laws.Cover2
namespace Go.Proofs.Ytgmaanehcbnchaa
open _root_.Go.Proofs.Try
set_option maxRecDepth 100000
section
open Go.ChangeShapes Go.WideShapes Go.ChangeAt Go.RowKit Word
namespace auditModels
theorem ZYJ(os:Os)(started:os.Started)(H:Type)(enc:TypeId×Value->H):
  ReturnsInHanded {} checked os 3 .any (Rows.auditModelsSpec.pre6 enc prog f3 Rows.auditModelsRow.domain false) (Rows.auditModelsSpec.post enc prog f3 false true false false):=by
 refine returnsInHanded_of_change (C:=checked) own started (by kernel_rfl) func3
  (ChangeSpec.witness6 (enc:=enc) (C:=checked) false ⟨#[],#[.int .i64 0,.int .i64 0,.slice none 0 0],[]⟩ 8 (by kernel_rfl) (by kernel_rfl) (by kernel_rfl) (by kernel_rfl)) ?_
 intro W base args ds gs before hval0 hW hcnd _;have hval:∀(j:Nat) t v,f3.params[j]?=some t->args[j]?=some v->Value.okWide prog W .any base t v:=hval0;have hW':=hW;obtain⟨p,q,hA0,hV,rfl,hfz,hnd⟩:=hW;have hA:DataW.TrodAll enc prog W 0 (λ_=>true) true f3.params.toList args.toList ds p:=hA0;rw[params3]at hA hval;obtain⟨v0,vs0,d0,ds0,p0,q0,hargs,rfl,rfl,h0,r0⟩:=trodAll_cons hA;obtain⟨v1,vs1,d1,ds1,p1,q1,rfl,rfl,rfl,h1,r1⟩:=trodAll_cons r0;obtain⟨v2,vs2,d2,ds2,p2,q2,rfl,rfl,rfl,h2,r2⟩:=trodAll_cons r1;obtain⟨rfl,rfl,rfl⟩:=trodAll_nil r2;obtain rfl:args=#[v0,v1,v2]:=by cases args;simp_all
 obtain⟨rfl,rfl⟩:=trodVars_none hV;obtain⟨c,rfl,_,_,wc⟩:=open_int underlying3 (hval 0 3 v0 rfl rfl) h0;obtain⟨n,rfl,_,_,wn⟩:=open_int underlying3 (hval 1 3 v1 rfl rfl) h1;obtain⟨A,cap,l,rfl,hlm,hO⟩:=Vlo (hval 2 22 v2 rfl rfl) h2;refine(Qjs hO hlm c n (JGZ wc) (JGZ wn)).mono λe W' ⟨he,hg⟩=>?_;subst he;refine⟨_,rfl,Zfn hW' rfl (by kernel_rfl) ?_ (by simp[Rows.auditModelsSpec]) hg⟩;rw[params3];have hall:([3,3,22].all λt=>prog.readableRec t&&decide (t<prog.types.size))=true:=by kernel_rfl
 intro t ht;have:=ζZ.1 hall t ht;simpa using this
theorem said:Rows.AuditModelsSaid:=
 OpenClaim.holds_of_wide 3 f3 rfl rfl rfl rfl rfl rfl rfl ⟨rfl,rfl,rfl,rfl,rfl⟩ rfl rfl rfl rfl rfl (by kernel_rfl) func3 (by kernel_rfl)
  (of_decide_eq_true (by kernel_rfl)) (by unfold Func.isWrapper;first|(rw[χ (by decide +kernel)];kernel_rfl)|(rw[ν (by decide +kernel)];exact⟨rfl,rfl⟩))
  (λos started H enc _=>ZYJ os started H enc)
end auditModels
#print axioms auditModels.said
end
end Go.Proofs.Ytgmaanehcbnchaa
