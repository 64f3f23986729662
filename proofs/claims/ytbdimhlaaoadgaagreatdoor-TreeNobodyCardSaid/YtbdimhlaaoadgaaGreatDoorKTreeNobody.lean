/- What TreeNobody alone leans on: my own lemmas, merged by shake2.py. -/
import Derived.Test.YtbdimhlaaoadgaaGreatDoorTreesM
namespace Go.Proofs.YtbdimhlaaoadgaaGreatDoor
open _root_.Go.Proofs.Tryz
set_option maxHeartbeats 6400000
set_option maxRecDepth 100000
open Go.RowKit Go.Shelf Word
theorem Qhw(w:World):Calls prog 45 #[.pointer none] w λe w'=>e=.returned (.agg #[iI 0,iI 0,iI 0,iI 0,iI 0,iI 0,iI 0,.float .f64 0])/\Gr w w':=by
 have hsf:=Qwi;have hr:=Rec.new w 24 [iI 0,iI 0,iI 0,iI 0,iI 0,iI 0,iI 0,.float .f64 0];have HL:=(SA hr (by kernel_rfl) (by kernel_rfl));go_enter func45,ntmps45;go_wp2_with(go_at_call 63;refine(Jvl _).mono ?_;rintro e w1 ⟨rfl,rfl⟩);refine ζG (v:=.agg #[iI 0,iI 0,iI 0,iI 0,iI 0,iI 0,iI 0,.float .f64 0]) ?_ rfl ⟨rfl,(Gr.refl w).alloc _⟩;simp[results,results45,asAddr,HL]
theorem Qqg(w:World):Calls prog 13 #[.pointer none,iI 0,.agg #[iI 1,iI 2,iI 3,iI 4]] w λe w'=>e=.returned (.tuple #[.pointer none,iI 9])/\Gr w w':=by
 have X:=((Gr.refl w).alloc (.cells #[.int .i64 1,.int .i64 2,.int .i64 3,.int .i64 4] 35));have hf0:∀V,(Instr.field 24 (.agg #[iI 0,iI 0,iI 0,iI 0,iI 0,iI 0,iI 0,.float .f64 0]) 0).run prog V=.ok (iI 0) V:=λ_=>by kernel_rfl
 go_enter func13,ntmps13;go_wp2_with(go_at_call 45;refine(Qhw _).mono ?_;rintro e w1 ⟨rfl,hg⟩;have HG1:=(X.trans hg));go_ret2
 simp_all
theorem N7(w:World):cQ 48 #[.pointer none] w (.bool true):=by
 go_enter func48,ntmps48;go_wp2;go_ret
 simp_all
theorem Y7g(w:World)(k:Nat):cQ 22 #[.pointer none,uU k] w (.tuple #[.float .f64 0,iI 9]):=by
 go_enter func22,ntmps22;go_wp2_with(go_at_call 48;refine(N7 _).mono ?_;rintro e w1 ⟨rfl,rfl⟩);go_ret2
 simp_all
theorem Vfa(w:World)(k:Nat):cQ 16 #[.pointer none,uU k] w (.tuple #[uU 0,.float .f64 0,iI 9]):=by
 go_enter func16,ntmps16;go_wp2_with(go_at_call 48;refine(N7 _).mono ?_;rintro e w1 ⟨rfl,rfl⟩)
 go_ret3
 simp_all
theorem Jrv(w:World)(k y:Nat):cQ 14 #[.pointer none,uU k,.float .f64 y] w (iI 9):=by
 go_enter func14,ntmps14;go_wp2_with(go_at_call 48;refine(N7 _).mono ?_;rintro e w1 ⟨rfl,rfl⟩);go_ret
 simp_all
theorem Viw(w:World)(k:Nat):cQ 18 #[.pointer none,uU k] w (iI 9):=by
 go_enter func18,ntmps18;go_wp2_with(go_at_call 48;refine(N7 _).mono ?_;rintro e w1 ⟨rfl,rfl⟩);go_ret
 simp_all
theorem J69(w:World):cQ 21 #[.pointer none] w (iI 0):=by
 go_enter func21,ntmps21;go_wp2_with(go_at_call 48;refine(N7 _).mono ?_;rintro e w1 ⟨rfl,rfl⟩);go_ret
 simp_all
theorem Z0T{w:World}(hT:AO w)(x:CN):Calls prog 4 #[.agg x.L.toArray] w λe w'=>e=.returned (.bool true)/\Gr w w':=by
 have HT:=ι hT;have hr:=Rec.new w 50 [.int .u8 x.kd,uU x.k,uU x.f];have J:=ι ((Gr.refl w).alloc (.cells #[.int .u8 x.kd,.int .u64 x.k,.int .u64 x.f] 50));have hf0:(FloatKind.f64.format.order 0 0==some Ordering.eq)=true:=by kernel_rfl
 unfold CN.L;obtain⟨wz,X⟩:∃wz,wz=w.alloc (.cells #[.int .u8 x.kd,.int .u64 x.k,.int .u64 x.f] 50):=⟨_,rfl⟩;obtain⟨bx,Y⟩:∃bx,bx=w.heap.size:=⟨_,rfl⟩;have HB:Hid (Rec wz bx 50 [.int .u8 x.kd,uU x.k,uU x.f]):=⟨by rw[X,Y];exact hr⟩;rw[<-X]at J;have M:=ι X;have N:=ι Y;clear hT hr X Y;go_enter func4,ntmps4;go_upto_region 2 with(fail);rw[<-M.o,<-N.o];clear M N;go_upto_region 3 with(go_at_call 13;refine(Qqg _).mono ?_;rintro e w1 ⟨rfl,hg⟩;have U:=ι hg;clear hg);have V:=ι (J.o.trans U.o);have Z:=HB.o.gr U.o;have z1:=Z.cc 1;have zl:=Z.lt;clear J HB U Z
 go_wp2_with(first
  | (go_at_call 22;refine AK (Y7g _ _) ?_)
  | (go_at_call 16;refine AK (Vfa _ _) ?_)
  | (go_at_call 14;refine AK (Jrv _ _ _) ?_)
  | (go_at_call 18;refine AK (Viw _ _) ?_)
  | (go_at_call 21;refine AK (J69 _) ?_)
  | (go_at_call 11;refine(XH _ (V.o.tab HT.o.lt HT.o)).mono ?_;rintro e w3 ⟨rfl,hg⟩;have O:=ι hg;clear hg))
 go_ret;exact⟨rfl,V.o.trans O.o⟩
end Go.Proofs.YtbdimhlaaoadgaaGreatDoor
