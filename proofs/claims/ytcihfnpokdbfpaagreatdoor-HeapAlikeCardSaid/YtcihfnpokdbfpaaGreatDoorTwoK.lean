/- Lemmas. -/
import Derived.Test.YtcihfnpokdbfpaaGreatDoorTwoJ
namespace Go.Proofs.YtcihfnpokdbfpaaGreatDoor
open _root_.Go.Proofs.Tryz
set_option maxHeartbeats 12800000
set_option maxRecDepth 100000
open Go.RowKit Go.Shelf Word
variable{g g':Gph}{c:HCf}{s s':HSt}{a kd:Int}{f:Int->Option Value}{rs:List Int}{L:List Ob}{b64 b65 base j m mm n nb p p1 p2 q r x y:Nat}{S:Nat->Prop}{u' v:Vm}{A B W5 w w' w1 w2:World}
def HSt.cut(s:HSt)(w:World):HSt:={s with X:=AD s.X w}
theorem HIn.cut(h:HIn w c g s):HIn w c g (s.cut w):=⟨h.com.sub (λ_ _ hk=>hk.1),h.mem.cut,h.img,h.gok,h.cok,h.bt,h.bs,h.sl⟩
structure DI(s s':HSt):Prop where
 lf:s'.lf<=s.lf
 cyc:s'.cyc=if s.lf≠0/\s'.lf=0 then wrap64 (s.cyc+1)else s.cyc
theorem DI.same(s:HSt):DI s s:=⟨μ _,by omega⟩
def HOp(w:World)(c:HCf)(s:HSt)(g':Gph)(w':World):Prop:=∃s',BK w c s g' s' w'/\DI s s'
theorem HOp.same(h:HIn w c g s)(hn:s.o=none↔s.lf=0)(gr:Gr w w'):HOp w c s g w':=⟨s,⟨gr.touch _,h.gr gr,rfl,λ_ h=>.inl h,hn⟩,DI.same s⟩
theorem YKV(h:HIn w c g s)(hn:s.o=none↔s.lf=0)(gr:Gr w w1)(hW:((s.cut w).sp c).W u' (s.cut w).X w1 w2)(hi:Img u' g' s.F s.base s.top)(hg:g'.Ok)(hS:g'.S=g.S):Calls prog 62 #[pP s.A.hp] w2 λe w3=>e=.returned (.tuple #[])/\∃s',BK w c s g' s' w3/\DI s s'/\HKp s s'/\AB (λk=>k=s.A.hp) w2 w3:=by
 refine(Zis (h.cut.gr gr) hW hi hg hS).mono ?_;rintro e w3 ⟨rfl,s',hr,hA,hl,hc,hF,hT⟩;refine⟨rfl,s',⟨(gr.touch _).trans' (hr.t.mono (λk _ hk=>hk.imp (λh=>h.1) id)) (λ_ _ h=>h),hr.i,hr.hp,λk hk=>?_,hr.o⟩,⟨hl,?_⟩,⟨hF.F,hF.base,hF.top⟩,hT⟩
 ·rcases hr.S k hk with h1|h1
  ·exact .inl (h1.imp (λh=>h.1) id)
  ·exact .inr (ω gr.size h1)
 ·rw[hc];by_cases h0:s.lf=0
  ·rw[ψ (λhh=>hh.1 (hn.2 h0)),ψ (λhh=>hh.1 h0)];rfl
  ·have Y:(s.cut w).o≠none:=λe=>h0 (hn.1 e);by_cases h1:s'.lf=0
   ·rw[θ ⟨Y,h1⟩,θ ⟨h0,h1⟩];rfl
   ·rw[ψ (λhh=>h1 hh.2),ψ (λhh=>h1 hh.2)];rfl
theorem ZWm(h:HIn w c g s)(hn:s.o=none↔s.lf=0)(gr:Gr w w1)(hW:((s.cut w).sp c).W u' (s.cut w).X w1 w2)(hi:Img u' g' s.F s.base s.top)(hg:g'.Ok)(hS:g'.S=g.S):Calls prog 62 #[pP s.A.hp] w2 λe w3=>e=.returned (.tuple #[])/\∃s',BK w c s g' s' w3/\DI s s'/\HKp s s':=
 (YKV h hn gr hW hi hg hS).mono λ_ _ ⟨h1,s',h2,h3,h4,_⟩=>⟨h1,s',h2,h3,h4⟩
theorem NE(h:HIn w c g s)(hn:s.o=none↔s.lf=0)(gr:Gr w w1)(hW:((s.cut w).sp c).W u' (s.cut w).X w1 w2)(hi:Img u' g' s.F s.base s.top)(hg:g'.Ok)(hS:g'.S=g.S):Calls prog 62 #[pP s.A.hp] w2 λe w3=>e=.returned (.tuple #[])/\HOp w c s g' w3:=
 (ZWm h hn gr hW hi hg hS).mono λ_ _ ⟨h1,s',h2,h3,_⟩=>⟨h1,s',h2,h3⟩
theorem HIn.rdP(h:HIn w c g s)(hx:g.Ro x):0<((s.F x:Nat):Int)->(s.sp c).P (s.F x:Nat):=λh0=>by
 have h1:=h.img.z;rcases hx with rfl|hx
 ·omega
 ·have h2:=h.img.lo x hx;have h3:1<=(g.ob x).size:=by unfold GOb.size;omega
  exact⟨s.F x,rfl,h2.1,by omega⟩
theorem HIn.fdP(h:HIn w c g s)(hx:g.Ro x)(i:Int)(hk:kd≠0):s.u.plE (s.F x:Nat) i kd=0->(s.sp c).P ((s.F x:Nat)+1+i):=λh0=>by
 rw[h.img.plE hx i hk]at h0;obtain⟨-,n,-,-,-,e,h1,h2⟩:=h.img.inP h.gok hx hk h0;exact⟨s.F x+1+n,e,h1,h2⟩
theorem PX(h:HIn w c g s)(a:Int):(g.sl a=false->Calls prog 94 #[pP s.A.hp,.slice (some ⟨w.heap.size,0,none⟩) 1 1] (w.alloc (.cells #[.int .i64 a] 3)) λe w'=>e=.returned (.tuple #[.slice none 0 0,iI 17])/\Gr w w') ∧
  (g.sl a=true->Calls prog 94 #[pP s.A.hp,.slice (some ⟨w.heap.size,0,none⟩) 1 1] (w.alloc (.cells #[.int .i64 a] 3)) λe w'=>∃gb cp,e=.returned (.tuple #[.slice (some ⟨gb,0,none⟩) 1 cp,iI 0])/\Gr w w'/\w.heap.size<=gb/\w'.cell? ⟨gb,0,none⟩=some (iI (s.F (g.at a):Nat))):=by
 have X:=(Gr.refl w).alloc (.cells #[.int .i64 a] 3)
 have hf:=XEM (h.gr X) (b:=w.heap.size) (l:=[a]) (by simp) (λj hj=>by
  have:j=0:=by simpa using hj
  simp_all) (by simp)
 refine⟨λhs=>hf.mono ?_,λhs=>hf.mono ?_⟩
 ·rintro e w' ⟨hg,(⟨h1,-⟩|⟨-,h1⟩)⟩
  ·simp_all
  ·exact⟨h1,X.trans hg⟩
 ·rintro e w' ⟨hg,(⟨-,v,rfl,ho⟩|⟨⟨x,hx,h1⟩,-⟩)⟩
  ·obtain⟨gb,cp,rfl,h2,-,-,-⟩:=E6 ho (by simp);exact⟨gb,cp,rfl,X.trans hg,ω X.size h2,BU ho (j:=0) rfl⟩
  simp_all
theorem J4u(h:HIn w c g s)(hn:s.o=none↔s.lf=0)(a i:Int):Calls prog 142 #[pP s.A.hp,iI a,iI i] w λe w'=>e=.returned (.tuple #[uU (g.fdV a i 3:Nat),iI (g.fdE a i 3)])/\HOp w c s g w':=by
 obtain⟨F0,F1⟩:=PX h a;have HN:=hn;cases hsl:g.sl a with
 | false=>
  have HF:=(F0 hsl)
  have HE:Hid (g.fdE a i 3=17/\g.fdV a i 3=0):=⟨by
   have e:g.fdE a i 3=17:=by unfold Gph.fdE;rw[hsl];rfl
   exact⟨e,by unfold Gph.fdV;rw[e];rfl⟩⟩
  generalize s.A.hp=ap at HF⊢;go_in;go_wp2_with(go_at_call 94;refine Qa (HF) λw1 HG=>?_);go_ret2;exact⟨BT (congrArg (λn:Nat=>uU (n:Int)) HE.o.2.symm) (BR HE.o.1.symm),HOp.same h HN HG⟩
 | true=>
  have HF:=(F1 hsl);have Z:=Gph.at_ro hsl;have U:=(λ(W:World) (gg:Gr w W)=>M5 (h.cut.gr gg));have Y:=(λ(W:World) (gg:Gr w W)=>QV8 (JL ..) (h.cut.gr gg).sp (s.F (g.at a):Nat) i (h.cut.rdP Z) (h.cut.fdP Z i (by decide)));have e1:s.u.gtE (s.F (g.at a):Nat) i 3=g.fdE a i 3:=by rw[h.img.gtE h.gok Z i (by decide),Gph.fdE_er hsl]
  have e2:s.u.gtV (s.F (g.at a):Nat) i 3=g.fdV a i 3:=by rw[h.img.gtV h.gok Z i (by decide) (by decide)];unfold Gph.fdV;rw[Gph.fdE_er hsl]
  have e3:(s.cut w).u=s.u:=rfl;rw[e3,e1,e2]at Y;have I:(s.cut w).A.hp=s.A.hp:=rfl;rw[I]at U;have D:=(λ(w1 w2:World) (gr:Gr w w1) (he:((s.cut w).sp c).E s.u (s.cut w).X w1 w2)=>NE h hn gr he.toW h.img h.gok rfl);generalize g.fdV a i 3=rv at Y⊢;generalize g.fdE a i 3=re at Y⊢;skip;generalize (s.F (g.at a):Nat)=ad at HF Y;obtain⟨ap,hp⟩:=ε s.A.hp;rw[<-hp]at HF U D⊢;clear hn hsl F0 F1 Z e1 e2 e3 I hp;go_in;go_upto_region 4 with(go_at_call 94;refine(HF).mono ?_;rintro e w1 ⟨gb,cp,rfl,M,N,L⟩;have J:=L;have Xb:=N;clear L N);obtain⟨Sx,G,HS⟩:=AA.start λW'=>W'.cell? ⟨gb,0,none⟩=some (iI (ad:Nat));have y0:=AA.fact G λ_ h=>h;have V:=HS.o (w1.drew) (J);have B:Inhabited (AA Sx):=⟨⟨_,V⟩⟩;clear G;refine BI Sx 12 [([0,2,3,4,5],1),([],6)] [7,8,9,10,11] V ?_;refine AL ?_;go_wp2_with((go_at_call 96;refine AJ (U _ M.drew) ?_));refine⟨.inr (AA.of (HS.o _ (J))),?_⟩;refine AL ?_;go_wp2_with((go_at_call 214;refine Qa (Y _ M.drew) λw2 O=>?_));refine⟨.inr (AA.of (HS.o _ ((O.1.cell (A6 J) (λhk=>ξb _ (ϑ hk.2.2 Xb)) 0).trans J))),?_⟩;refine CU ?_;clear y0 V B;clear HS Sx;go_wp2_with(go_at_call 62;refine Qa (D _ _ M.drew O) λw3 Xa=>?_);go_ret2;exact⟨rfl,Xa⟩
theorem SK(h:HIn w c g s)(hn:s.o=none↔s.lf=0)(a i:Int):Calls prog 109 #[pP s.A.hp,iI a,iI i] w λe w'=>e=.returned (.tuple #[.float .f64 (g.fdV a i 2),iI (g.fdE a i 2)])/\HOp w c s g w':=by
 obtain⟨F0,F1⟩:=PX h a;have HN:=hn;cases hsl:g.sl a with
 | false=>
  have HF:=(F0 hsl)
  have HE:Hid (g.fdE a i 2=17/\g.fdV a i 2=0):=⟨by
   have e:g.fdE a i 2=17:=by unfold Gph.fdE;rw[hsl];rfl
   exact⟨e,by unfold Gph.fdV;rw[e];rfl⟩⟩
  generalize s.A.hp=ap at HF⊢;clear hn hsl F0 F1;go_in;go_wp2_with(go_at_call 94;refine Qa (HF) λw1 HG=>?_);go_ret2;exact⟨BT (congrArg (λn:Nat=>Value.float .f64 n) HE.o.2.symm) (BR HE.o.1.symm),HOp.same h HN HG⟩
 | true=>
  have HF:=(F1 hsl);have Z:=Gph.at_ro hsl;have U:=(λ(W:World) (gg:Gr w W)=>M5 (h.cut.gr gg));have Y:=(λ(W:World) (gg:Gr w W)=>QUr (JL ..) (h.cut.gr gg).sp (s.F (g.at a):Nat) i (h.cut.rdP Z) (h.cut.fdP Z i (by decide)));have e1:s.u.gtE (s.F (g.at a):Nat) i 2=g.fdE a i 2:=by rw[h.img.gtE h.gok Z i (by decide),Gph.fdE_er hsl]
  have e2:s.u.gtV (s.F (g.at a):Nat) i 2=g.fdV a i 2:=by rw[h.img.gtV h.gok Z i (by decide) (by decide)];unfold Gph.fdV;rw[Gph.fdE_er hsl]
  have e3:(s.cut w).u=s.u:=rfl;rw[e3,e1,e2]at Y;have I:(s.cut w).A.hp=s.A.hp:=rfl;rw[I]at U;have D:=(λ(w1 w2:World) (gr:Gr w w1) (he:((s.cut w).sp c).E s.u (s.cut w).X w1 w2)=>NE h hn gr he.toW h.img h.gok rfl);generalize g.fdV a i 2=rv at Y⊢;generalize g.fdE a i 2=re at Y⊢;skip;generalize (s.F (g.at a):Nat)=ad at HF Y;obtain⟨ap,hp⟩:=ε s.A.hp;rw[<-hp]at HF U D⊢;clear hn hsl F0 F1 Z e1 e2 e3 I hp;go_in;go_upto_region 4 with(go_at_call 94;refine(HF).mono ?_;rintro e w1 ⟨gb,cp,rfl,M,N,L⟩;have J:=L;have Xb:=N;clear L N);obtain⟨Sx,G,HS⟩:=AA.start λW'=>W'.cell? ⟨gb,0,none⟩=some (iI (ad:Nat));have y0:=AA.fact G λ_ h=>h;have V:=HS.o (w1.drew) (J);have B:Inhabited (AA Sx):=⟨⟨_,V⟩⟩;clear G;refine BI Sx 12 [([0,2,3,4,5],1),([],6)] [7,8,9,10,11] V ?_;refine AL ?_;go_wp2_with((go_at_call 96;refine AJ (U _ M.drew) ?_));refine⟨.inr (AA.of (HS.o _ (J))),?_⟩;refine AL ?_;go_wp2_with((go_at_call 178;refine Qa (Y _ M.drew) λw2 O=>?_));refine⟨.inr (AA.of (HS.o _ ((O.1.cell (A6 J) (λhk=>ξb _ (ϑ hk.2.2 Xb)) 0).trans J))),?_⟩;refine CU ?_;clear y0 V B;clear HS Sx;go_wp2_with(go_at_call 62;refine Qa (D _ _ M.drew O) λw3 Xa=>?_);go_ret2;exact⟨rfl,Xa⟩
theorem JMQ(g:Gph)(a i kd:Int)(x:Nat):(g.wrG a i kd x).S=g.S:=by unfold Gph.wrG;split <;> rfl
theorem HIn.wrI(h:HIn w c g s)(hs:g.sl a=true)(i:Int)(hk:kd≠0)(hk1:kd≠1)(x:Nat):Img (s.u.seV (s.F (g.at a):Nat) i kd x) (g.wrG a i kd x) s.F s.base s.top:=by
 have X:=Gph.at_ro hs;unfold Gph.wrG;by_cases he:g.fdE a i kd=0
 ·rw[θ he];have Y:g.erE (g.at a) i kd=0:=by rw[<-Gph.fdE_er hs];exact he
  have:=h.img.seV h.mem.ok h.gok X i hk x (λe=>absurd e hk1) (by have:=h.hi;have:=h.bt;omega) Y;rw[ψ hk1]at this;exact this
 ·rw[ψ he]
  have e:s.u.seV (s.F (g.at a):Nat) i kd x=s.u:=by
   unfold Vm.seV;rw[h.img.plE X i hk,<-Gph.fdE_er hs,ψ he]
  rw[e];exact h.img
theorem HIn.wrO(h:HIn w c g s)(hs:g.sl a=true)(i:Int)(hk:kd≠0)(hk1:kd≠1)(x:Nat):(g.wrG a i kd x).Ok:=by
 have Y:=Gph.at_ro hs;unfold Gph.wrG;by_cases he:g.fdE a i kd=0
 ·rw[θ he];have X:g.erE (g.at a) i kd=0:=by rw[<-Gph.fdE_er hs];exact he
  obtain⟨hr,n,rfl,h1,h2,-⟩:=h.img.inP h.gok Y hk X;obtain⟨q1,q2⟩:=h.gok.rd hr;exact h.gok.put q1 q2 (λhn=>absurd (h2.2 Ω) hk1)
 ·rw[ψ he];exact h.gok
theorem Vld(h:HIn w c g s)(hn:s.o=none↔s.lf=0)(a i:Int)(hx:x<18446744073709551616):Calls prog 103 #[pP s.A.hp,iI a,iI i,uU x] w λe w'=>e=.returned (iI (g.fdE a i 3))/\HOp w c s (g.wrG a i 3 x) w':=by
 obtain⟨F0,F1⟩:=PX h a;have HN:=hn;cases hsl:g.sl a with
 | false=>
  have HF:=(F0 hsl)
  have HE:Hid (g.fdE a i 3=17/\g.wrG a i 3 x=g):=⟨by
   have e:g.fdE a i 3=17:=by unfold Gph.fdE;rw[hsl];rfl
   exact⟨e,by unfold Gph.wrG;rw[e];rfl⟩⟩
  generalize s.A.hp=ap at HF⊢;clear hn hsl F0 F1 hx;go_in;go_wp2_with(go_at_call 94;refine Qa (HF) λw1 HG=>?_);go_ret;exact⟨AU HE.o.1.symm,by rw[HE.o.2];exact HOp.same h HN HG⟩
 | true=>
  have HF:=(F1 hsl);have J:=Gph.at_ro hsl;have U:=(λ(W:World) (gg:Gr w W)=>M5 (h.cut.gr gg));have Y:=(λ(W:World) (gg:Gr w W)=>XXd (JL ..) (YJ ..) (h.cut.gr gg).sp (s.F (g.at a):Nat) i (h.cut.rdP J) (h.cut.fdP J i (by decide)) hx);have e1:s.u.gtE (s.F (g.at a):Nat) i 3=g.fdE a i 3:=by rw[h.img.gtE h.gok J i (by decide),Gph.fdE_er hsl]
  have e3:(s.cut w).u=s.u:=rfl;rw[e3,e1]at Y;have E:(s.cut w).A.hp=s.A.hp:=rfl;rw[E]at U;have M:=(λ(w1 w2:World) (gr:Gr w w1) (he:((s.cut w).sp c).W (s.u.seV (s.F (g.at a):Nat) i 3 x) (s.cut w).X w1 w2)=>NE h hn gr he (h.wrI hsl i (by decide) (by decide) x) (h.wrO hsl i (by decide) (by decide) x) (JMQ ..));generalize g.fdE a i 3=re at Y⊢;generalize s.u.seV (s.F (g.at a):Nat) i 3 x=un at Y M;generalize (s.F (g.at a):Nat)=ad at HF Y;obtain⟨ap,hp⟩:=ε s.A.hp;rw[<-hp]at HF U M⊢;clear hn hsl F0 F1 J e1 e3 E hp hx;go_in;go_upto_region 4 with(go_at_call 94;refine(HF).mono ?_;rintro e w1 ⟨gb,cp,rfl,N,O,L⟩;have Z:=L;have Xa:=O;clear L O);obtain⟨Sx,D,HS⟩:=AA.start λW'=>W'.cell? ⟨gb,0,none⟩=some (iI (ad:Nat));have y0:=AA.fact D λ_ h=>h;have V:=HS.o (w1.drew) (Z);have G:Inhabited (AA Sx):=⟨⟨_,V⟩⟩;clear D;refine BI Sx 9 [([0,2,3,4,5,6],1),([],7)] [8] V ?_;refine AL ?_;go_wp2_with((go_at_call 96;refine AJ (U _ N.drew) ?_));refine⟨.inr (AA.of (HS.o _ (Z))),?_⟩;refine AL ?_;go_wp2_with((go_at_call 172;refine Qa (Y _ N.drew) λw2 I=>?_));refine⟨.inr (AA.of (HS.o _ ((I.1.cell (A6 Z) (λhk=>ξb _ (ϑ hk.2 Xa)) 0).trans Z))),?_⟩;refine CU ?_;clear y0 V G;clear HS Sx;go_wp2_with(go_at_call 62;refine Qa (M _ _ N.drew I) λw3 B=>?_);go_ret;exact⟨rfl,B⟩
theorem Xe2(h:HIn w c g s)(hn:s.o=none↔s.lf=0)(a i:Int)(hx:x<18446744073709551616):Calls prog 102 #[pP s.A.hp,iI a,iI i,.float .f64 x] w λe w'=>e=.returned (iI (g.fdE a i 2))/\HOp w c s (g.wrG a i 2 x) w':=by
 obtain⟨F0,F1⟩:=PX h a;have HN:=hn;cases hsl:g.sl a with
 | false=>
  have HF:=(F0 hsl)
  have HE:Hid (g.fdE a i 2=17/\g.wrG a i 2 x=g):=⟨by
   have e:g.fdE a i 2=17:=by unfold Gph.fdE;rw[hsl];rfl
   exact⟨e,by unfold Gph.wrG;rw[e];rfl⟩⟩
  generalize s.A.hp=ap at HF⊢;clear hn hsl F0 F1 hx;go_in;go_wp2_with(go_at_call 94;refine Qa (HF) λw1 HG=>?_);go_ret;exact⟨AU HE.o.1.symm,by rw[HE.o.2];exact HOp.same h HN HG⟩
 | true=>
  have HF:=(F1 hsl);have J:=Gph.at_ro hsl;have U:=(λ(W:World) (gg:Gr w W)=>M5 (h.cut.gr gg));have Y:=(λ(W:World) (gg:Gr w W)=>Ycv (JL ..) (YJ ..) (h.cut.gr gg).sp (s.F (g.at a):Nat) i (h.cut.rdP J) (h.cut.fdP J i (by decide)) hx);have e1:s.u.gtE (s.F (g.at a):Nat) i 2=g.fdE a i 2:=by rw[h.img.gtE h.gok J i (by decide),Gph.fdE_er hsl]
  have e3:(s.cut w).u=s.u:=rfl;rw[e3,e1]at Y;have E:(s.cut w).A.hp=s.A.hp:=rfl;rw[E]at U;have M:=(λ(w1 w2:World) (gr:Gr w w1) (he:((s.cut w).sp c).W (s.u.seV (s.F (g.at a):Nat) i 2 x) (s.cut w).X w1 w2)=>NE h hn gr he (h.wrI hsl i (by decide) (by decide) x) (h.wrO hsl i (by decide) (by decide) x) (JMQ ..));generalize g.fdE a i 2=re at Y⊢;generalize s.u.seV (s.F (g.at a):Nat) i 2 x=un at Y M;generalize (s.F (g.at a):Nat)=ad at HF Y;obtain⟨ap,hp⟩:=ε s.A.hp;rw[<-hp]at HF U M⊢;clear hn hsl F0 F1 J e1 e3 E hp hx;go_in;go_upto_region 4 with(go_at_call 94;refine(HF).mono ?_;rintro e w1 ⟨gb,cp,rfl,N,O,L⟩;have Z:=L;have Xa:=O;clear L O);obtain⟨Sx,D,HS⟩:=AA.start λW'=>W'.cell? ⟨gb,0,none⟩=some (iI (ad:Nat));have y0:=AA.fact D λ_ h=>h;have V:=HS.o (w1.drew) (Z);have G:Inhabited (AA Sx):=⟨⟨_,V⟩⟩;clear D;refine BI Sx 9 [([0,2,3,4,5,6],1),([],7)] [8] V ?_;refine AL ?_;go_wp2_with((go_at_call 96;refine AJ (U _ N.drew) ?_));refine⟨.inr (AA.of (HS.o _ (Z))),?_⟩;refine AL ?_;go_wp2_with((go_at_call 171;refine Qa (Y _ N.drew) λw2 I=>?_));refine⟨.inr (AA.of (HS.o _ ((I.1.cell (A6 Z) (λhk=>ξb _ (ϑ hk.2 Xa)) 0).trans Z))),?_⟩;refine CU ?_;clear y0 V G;clear HS Sx;go_wp2_with(go_at_call 62;refine Qa (M _ _ N.drew I) λw3 B=>?_);go_ret;exact⟨rfl,B⟩
theorem XQ(h:HIn w c g s)(a b:Int):((g.sl a&&g.sl b)=false->Calls prog 94 #[pP s.A.hp,.slice (some ⟨w.heap.size,0,none⟩) 2 2] (w.alloc (.cells #[.int .i64 a,.int .i64 b] 3)) λe w'=>e=.returned (.tuple #[.slice none 0 0,iI 17])/\Gr w w') ∧
  ((g.sl a&&g.sl b)=true->Calls prog 94 #[pP s.A.hp,.slice (some ⟨w.heap.size,0,none⟩) 2 2] (w.alloc (.cells #[.int .i64 a,.int .i64 b] 3)) λe w'=>∃gb cp,e=.returned (.tuple #[.slice (some ⟨gb,0,none⟩) 2 cp,iI 0])/\Gr w w'/\w.heap.size<=gb/\w'.cell? ⟨gb,0,none⟩=some (iI (s.F (g.at a):Nat))/\w'.cell? ⟨gb,1,none⟩=some (iI (s.F (g.at b):Nat))):=by
 have X:=(Gr.refl w).alloc (.cells #[.int .i64 a,.int .i64 b] 3);have hr:=Rec.new w 3 [iI a,iI b]
 have hf:=XEM (h.gr X) (b:=w.heap.size) (l:=[a,b]) (by simp) (λj hj=>by
  have:j=0\/j=1:=by have:j<2:=hj;omega
  rcases this with rfl|rfl
  ·exact hr.cc 0
  simp_all) (by simp)
 refine⟨λhs=>hf.mono ?_,λhs=>hf.mono ?_⟩
 ·rintro e w' ⟨hg,(⟨h1,-⟩|⟨-,h1⟩)⟩
  ·simp_all
  ·exact⟨h1,X.trans hg⟩
 ·rintro e w' ⟨hg,(⟨-,v,rfl,ho⟩|⟨⟨x,hx,h1⟩,-⟩)⟩
  ·obtain⟨gb,cp,rfl,h2,-,-,-⟩:=E6 ho (by simp);exact⟨gb,cp,rfl,X.trans hg,ω X.size h2,BU ho (j:=0) rfl,BU ho (j:=1) rfl⟩
  grind
theorem Gph.Ro.le(ho:g.Ok)(hy:g.Ro y):y<=g.L.length:=by
 rcases hy with rfl|hy
 ·omega
 ·exact(ho.rd hy).2
theorem JQG(h:HIn w c g s)(ha:g.sl a=true)(hy:g.Ro y):Calls prog 83 #[pP s.A.r,iI a,iI (s.F y:Nat)] w λe w'=>e=.returned (iI 0)/\AB (λk=>k=s.A.g) w w'/\HIn w' c (g.setSl a y) s:=by
 obtain⟨n,rfl,h1,h2⟩:=OB ha;refine Qa (VHr h.com.rt (i:=n) (by rw[s.len];exact h1) (ψB _)) λw'⟨t,hr⟩=>?_
 have X:s.rs (g.setSl n y)=(s.rs g).set n (s.F y:Nat):=by
  unfold HSt.rs Gph.setSl
  simp_all
 refine⟨rfl,t,?_,h.mem.touch t (λk hk e=>⟨λhx=>h.com.x.2.2.1 (by simp_all),λe2=>h.com.n3.2.1 Ω⟩) (λ_ h=>h),h.img.slot hy,h.gok.slot (hy.le h.gok),h.cok,h.bt,h.bs,?_⟩
 ·rw[X];exact h.com.root t hr
 ·show (g.S.set _ _).length=c.sl
  rw[ζa];exact h.sl
theorem HIn.rcell(h:HIn w c g s):w.cell? ⟨s.A.hp,9,none⟩=some (pP s.A.r):=h.com.row.cc 9
theorem BK.slot(h:BK w c s g s' w')(t:AB (λk=>k=s'.A.g) w' w2)(hi:HIn w2 c g' s'):BK w c s g' s' w2:=
 ⟨h.t.trans' t (λk hk e=>by
  have:=h.S k (.inr (.inr (.inl e)));rcases this with h1|h1
  ·exact h1
  ·omega),hi,h.hp,h.S,h.o⟩
theorem V9V(h:HIn w c g s)(hn:s.o=none↔s.lf=0)(a b i:Int):Calls prog 93 #[pP s.A.hp,iI a,iI b,iI i] w λe w'=>e=.returned (iI (g.loE a b i))/\HOp w c s (g.loG a b i) w':=by
 obtain⟨F0,F1⟩:=XQ h a b;have H:=h;have HN:=hn;cases hsl:(g.sl a&&g.sl b)with
 | false=>
  have HF:=(F0 hsl)
  have HE:Hid (g.loE a b i=17/\g.loG a b i=g):=⟨by
   have e:g.loE a b i=17:=by unfold Gph.loE Gph.two;rw[hsl];rfl
   exact⟨e,by unfold Gph.loG;rw[e];rfl⟩⟩
  generalize s.A.hp=ap at HF⊢;clear h hn hsl F0 F1;go_in;go_wp2_with(go_at_call 94;refine Qa (HF) λw1 HG=>?_);go_ret;exact⟨AU HE.o.1.symm,by rw[HE.o.2];exact HOp.same H HN HG⟩
 | true=>
  have HF:=(F1 hsl);have hE:g.loE a b i=g.fdE b i 1:=by unfold Gph.loE Gph.two;rw[θ hsl]
  have hG:g.loG a b i=if g.fdE b i 1=0 then g.setSl a (g.fdV b i 1)else g:=by unfold Gph.loG;rw[hE]
  rw[hE,hG];rw[ζd]at hsl;have Z:=Gph.at_ro hsl.2;have N:=(λ(W:World) (gg:Gr w W)=>M5 (h.cut.gr gg));have Y:=(λ(W:World) (gg:Gr w W)=>Z2 (JL ..) (h.cut.gr gg).sp (s.F (g.at b):Nat) i (h.cut.rdP Z) (h.cut.fdP Z i (by decide)));obtain⟨q1,q2⟩:=h.img.ptE h.gok Z i;have e1:s.u.ptE (s.F (g.at b):Nat) i=g.fdE b i 1:=by rw[q1,Gph.fdE_er hsl.2]
  have e3:(s.cut w).u=s.u:=rfl;rw[e3,e1]at Y;have B:(s.cut w).A.hp=s.A.hp:=rfl;rw[B]at N;have O:=(λ(w1 w2:World) (gr:Gr w w1) (he:((s.cut w).sp c).E s.u (s.cut w).X w1 w2)=>ZWm h hn gr he.toW h.img h.gok rfl)
  have HQ:=ι (λ(hz:g.fdE b i 1=0)=>(by
   have h0:g.erE (g.at b) i 1=0:=by rw[<-Gph.fdE_er hsl.2];exact hz
   have:=q2 h0;have e:g.fdV b i 1=(g.ob (g.at b)).w.getD i.toNat 0:=by unfold Gph.fdV;rw[θ hz]
   rw[<-e]at this
   exact this:s.u.ptV (s.F (g.at b):Nat) i=s.F (g.fdV b i 1)/\g.Ro (g.fdV b i 1)))
  have HA:=ι hsl.1;generalize s.u.ptV (s.F (g.at b):Nat) i=rv at Y HQ;generalize g.fdV b i 1=y at HQ⊢;generalize g.fdE b i 1=re at Y HQ⊢;generalize (s.F (g.at b):Nat)=ad at HF Y;generalize (s.F (g.at a):Nat)=ad2 at HF;obtain⟨ap,hp⟩:=ε s.A.hp;rw[<-hp]at HF N O⊢;have HP:=ι hp;obtain⟨gx,I⟩:=ε (if re=0 then g.setSl a y else g)
  rw[<-I];have Xc:=ι I;clear h hn hsl F0 F1 Z e1 e3 B hp hE hG q1 q2 I;go_in;go_upto_region 4 with(go_at_call 94;refine(HF).mono ?_;rintro e w1 ⟨gb,cp,rfl,Xa,Xd,-,Xf⟩;have U:=ι Xa;have J:=ι Xf;have Xh:=ι Xd;clear Xa Xf Xd);obtain⟨Sx,Xb,HS⟩:=AA.start λW'=>W'.cell? ⟨gb,1,none⟩=some (iI (ad:Nat));have y0:=AA.fact Xb λ_ h=>h;have M:=HS.o (w1.drew) (J.o);have L:Inhabited (AA Sx):=⟨⟨_,M⟩⟩;clear Xb;refine BI Sx 12 [([0,2,3,4,5],1),([],6)] [7,8,9,10,11] M ?_;refine AL ?_;go_wp2_with((go_at_call 96;refine AJ (N _ U.o.drew) ?_));refine⟨.inr (AA.of (HS.o _ (J.o))),?_⟩;refine AL ?_;go_wp2_with((go_at_call 168;refine Qb (Y _ U.o.drew) λw2 V=>?_));refine⟨.inr (AA.of (HS.o _ ((V.o.1.cell (A6 J.o) (λhk=>ξb _ (ϑ hk.2.2 Xh.o)) 1).trans J.o))),?_⟩;refine CU ?_;clear y0 M L;clear HS Sx;by_cases hz:re=0
  ·subst hz;obtain⟨z1,z2⟩:=HQ.o rfl;have Xg:=ι z2;subst z1;clear z2;go_upto_region 8 with(go_at_call 62;refine Qa (O _ _ U.o.drew V.o) λw3⟨s',hr,hs,hF⟩=>?_;have HR:=ι (ξ hr (ξ hs hF));clear hr hs hF);have y9:=HR.o.1.i.rcell;rw[HR.o.1.hp,<-HP.o]at y9;have G:=ι (JQG HR.o.1.i HA.o Xg.o);rw[HR.o.2.2.F]at G;go_wp2_with(go_at_call 83;refine Qa (G.o) λw4⟨t4,h4⟩=>?_;have Xe:=ι (ξ t4 h4);clear t4 h4);go_ret;rw[show gx=g.setSl a y from by have:=Xc.o;simpa using this];exact⟨rfl,s',HR.o.1.slot Xe.o.1 Xe.o.2,HR.o.2.1⟩
  ·have d1:(re==0)=false:=by simpa using hz
   have D:=ι hz;go_wp2_with(go_at_call 62;refine Qa (O _ _ U.o.drew V.o) λw3⟨s',hr,hs,hF⟩=>?_;have HR:=ι (ξ hr (ξ hs hF));clear hr hs hF);go_ret;rw[show gx=g from by have:=Xc.o;rw[ψ D.o]at this;exact this];exact⟨rfl,s',HR.o.1,HR.o.2.1⟩
theorem HIn.wrP(h:HIn w c g s)(hs:g.sl a=true)(i:Int)(hy:g.Ro y):g.fdE a i 1=0->Img (s.u.seV (s.F (g.at a):Nat) i 1 (s.F y)) (g.setFd a i y) s.F s.base s.top:=λhe=>by
 have Y:=Gph.at_ro hs;have X:g.erE (g.at a) i 1=0:=by rw[<-Gph.fdE_er hs];exact he
 have:=h.img.seV h.mem.ok h.gok Y i (kd:=1) (by decide) y (λ_=>hy) (by have:=h.hi;have:=h.bt;omega) X;exact this
theorem HIn.wrPO(h:HIn w c g s)(hs:g.sl a=true)(i:Int)(hy:g.Ro y):g.fdE a i 1=0->(g.setFd a i y).Ok:=λhe=>by
 have Y:=Gph.at_ro hs;have X:g.erE (g.at a) i 1=0:=by rw[<-Gph.fdE_er hs];exact he
 obtain⟨hr,n,rfl,h1,h2,-⟩:=h.img.inP h.gok Y (by decide) X;obtain⟨q1,q2⟩:=h.gok.rd hr;exact h.gok.put q1 q2 (λ_=>hy.le h.gok)
theorem HIn.adr(h:HIn w c g s)(hy:g.Ro y):s.F y<=2147483647:=by
 rcases hy with rfl|hy
 ·rw[h.img.z];omega
 ·have h1:=h.img.lo y hy;have:=h.hi;have:=h.bt;omega
theorem QmE(h:HIn w c g s)(hn:s.o=none↔s.lf=0)(a i b:Int):Calls prog 89 #[pP s.A.hp,iI a,iI i,iI b] w λe w'=>e=.returned (iI (g.stE a i b))/\HOp w c s (g.stG a i b) w':=by
 obtain⟨F0,F1⟩:=XQ h a b;have HN:=hn;cases hsl:(g.sl a&&g.sl b)with
 | false=>
  have HF:=(F0 hsl)
  have HE:Hid (g.stE a i b=17/\g.stG a i b=g):=⟨by
   have e:g.stE a i b=17:=by unfold Gph.stE Gph.two;rw[hsl];rfl
   exact⟨e,by unfold Gph.stG;rw[e];rfl⟩⟩
  generalize s.A.hp=ap at HF⊢;clear hn hsl F0 F1;go_in;go_wp2_with(go_at_call 94;refine Qa (HF) λw1 HG=>?_);go_ret;exact⟨AU HE.o.1.symm,by rw[HE.o.2];exact HOp.same h HN HG⟩
 | true=>
  have HF:=(F1 hsl);have hE:g.stE a i b=g.fdE a i 1:=by unfold Gph.stE Gph.two;rw[θ hsl]
  have hG:g.stG a i b=if g.fdE a i 1=0 then g.setFd a i (g.at b)else g:=by unfold Gph.stG;rw[hE]
  rw[hE,hG];rw[ζd]at hsl;have J:=Gph.at_ro hsl.1;have U:=Gph.at_ro hsl.2;have N:=(λ(W:World) (gg:Gr w W)=>M5 (h.cut.gr gg));have Y:=(λ(W:World) (gg:Gr w W)=>Xz9 (JL ..) (YJ ..) (h.cut.gr gg).sp (s.F (g.at a):Nat) i (h.cut.rdP J) (h.cut.fdP J i (by decide)) (h.adr U));have e1:s.u.gtE (s.F (g.at a):Nat) i 1=g.fdE a i 1:=by rw[h.img.gtE h.gok J i (by decide),Gph.fdE_er hsl.1]
  have e3:(s.cut w).u=s.u:=rfl;rw[e3,e1]at Y;have D:(s.cut w).A.hp=s.A.hp:=rfl;rw[D]at N
  have V:=(λ(w1 w2:World) (gr:Gr w w1) (he:((s.cut w).sp c).W (s.u.seV (s.F (g.at a):Nat) i 1 (s.F (g.at b))) (s.cut w).X w1 w2)=>(by
   by_cases hz:g.fdE a i 1=0
   ·rw[θ hz];exact NE h hn gr he (h.wrP hsl.1 i U hz) (h.wrPO hsl.1 i U hz) rfl
   ·rw[ψ hz]
    have e:s.u.seV (s.F (g.at a):Nat) i 1 (s.F (g.at b))=s.u:=by
     unfold Vm.seV;rw[h.img.plE J i (by decide),<-Gph.fdE_er hsl.1,ψ hz]
    rw[e]at he
    exact NE h hn gr he h.img h.gok rfl:Calls prog 62 #[pP s.A.hp] w2 λe w3=>e=.returned (.tuple #[])/\HOp w c s (if g.fdE a i 1=0 then g.setFd a i (g.at b)else g) w3))
  generalize (if g.fdE a i 1=0 then g.setFd a i (g.at b)else g)=gx at V⊢;generalize g.fdE a i 1=re at Y⊢;generalize s.u.seV (s.F (g.at a):Nat) i 1 (s.F (g.at b))=un at Y V;generalize (s.F (g.at a):Nat)=ad at HF Y;generalize (s.F (g.at b):Nat)=Xc at HF Y;obtain⟨ap,hp⟩:=ε s.A.hp;rw[<-hp]at HF N V⊢;clear hn hsl F0 F1 J U e1 e3 D hp hE hG;go_in;go_upto_region 4 with(go_at_call 94;refine(HF).mono ?_;rintro e w1 ⟨gb,cp,rfl,E,L,B,G⟩;have Z:=(ξ B G);have Xb:=L;clear B G L);obtain⟨Sx,I,HS⟩:=AA.start λW'=>(W'.cell? ⟨gb,0,none⟩=some (iI (ad:Nat))/\W'.cell? ⟨gb,1,none⟩=some (iI (Xc:Nat)))
  have y0:=AA.fact I λ_ h=>h.1;have y1:=AA.fact I λ_ h=>h.2;have O:=HS.o (w1.drew) (Z);have Xa:Inhabited (AA Sx):=⟨⟨_,O⟩⟩;clear I;refine BI Sx 11 [([0,2,3,4,5,6,7,8],1),([],9)] [10] O ?_;refine AL ?_;go_wp2_with((go_at_call 96;refine AJ (N _ E.drew) ?_));refine⟨.inr (AA.of (HS.o _ (Z))),?_⟩;refine AL ?_;go_wp2_with((go_at_call 166;refine Qa (Y _ E.drew) λw2 M=>?_));refine⟨.inr (AA.of (HS.o _ (⟨(M.1.cell (A6 Z.1) (λhk=>ξb _ (ϑ hk.2 Xb)) 0).trans Z.1,(M.1.cell (A6 Z.1) (λhk=>ξb _ (ϑ hk.2 Xb)) 1).trans Z.2⟩))),?_⟩;refine CU ?_;clear y0 y1 O Xa;clear HS Sx;go_wp2_with(go_at_call 62;refine Qa (V _ _ E.drew M) λw3 Xd=>?_);go_ret;exact⟨rfl,Xd⟩
theorem HOp.of(hn:s.o=none↔s.lf=0)(t:AB (λk=>k=s.A.g) w w')(hi:HIn w' c g' s):HOp w c s g' w':=
 ⟨s,⟨t.mono (λ_ _ e=>.inr (.inr (.inl e))),hi,rfl,λ_ h=>.inl h,hn⟩,DI.same s⟩
theorem HIn.rcpy(h:HIn w c g s)(a b:Int):Calls prog 167 #[pP s.A.r,iI a,iI b] w λe w'=>e=.returned (iI (g.two a b 0))/\AB (λk=>k=s.A.g) w w'/\HIn w' c (g.cpG a b) s:=by
 refine Qa (Jv2 h.com.rt a b) λw'⟨t,hr⟩=>?_;have Y:FJ w' s.X s.A c s.base s.top s.u s.o s.lf s.nb:=h.mem.touch t (λk hk e=>⟨λhx=>h.com.x.2.2.1 (by simp_all),λe2=>h.com.n3.2.1 Ω⟩) (λ_ h=>h);rw[MW,MW];unfold QU at hr;rw[MW,MW]at hr;unfold Gph.two Gph.cpG;cases ha:g.sl a with
 | false=>
  rw[ha]at hr;exact⟨by simp,t,h.com.root t (by simp_all),Y,h.img,h.gok,h.cok,h.bt,h.bs,h.sl⟩
 | true=>
  cases hb:g.sl b with
  | false=>
   rw[ha,hb]at hr;exact⟨by simp,t,h.com.root t (by simp_all),Y,by simpa using h.img,by simpa using h.gok,h.cok,h.bt,h.bs,by simpa using h.sl⟩
  | true=>
   obtain⟨n,rfl,h1,h2⟩:=OB ha;obtain⟨m,rfl,h3,h4⟩:=OB hb;rw[ha,hb]at hr;simp only[if_true,and_self,β,Bool.and_self]at hr⊢;have hy:=Gph.at_ro hb
   have Z:s.rs (g.setSl n (g.at m))=(s.rs g).set n ((s.rs g).getD m 0):=by
    rw[κ,τ (by rw[s.len];exact h3),s.get g h3,<-h4];unfold HSt.rs Gph.setSl
    simp_all
   refine⟨trivial,t,?_,Y,h.img.slot hy,h.gok.slot (hy.le h.gok),h.cok,h.bt,h.bs,?_⟩
   ·rw[Z];exact h.com.root t hr
   ·show (g.S.set _ _).length=c.sl
    rw[ζa];exact h.sl
theorem Xxc(h:HIn w c g s)(hn:s.o=none↔s.lf=0)(a b:Int):Calls prog 90 #[pP s.A.hp,iI a,iI b] w λe w'=>e=.returned (iI (g.two a b 0))/\HOp w c s (g.cpG a b) w':=by
 have HN:=(FU h);have HC:=(h.rcpy a b);have c9:=h.rcell;generalize s.A.hp=ap at HN c9⊢;go_in;go_upto_region 3 with(go_at_call 51;refine AJ (HN) ?_);go_wp2_with(go_at_call 167;refine Qa (HC) λw1⟨ht,hi⟩=>?_;have HT:=(ξ ht hi));go_ret;exact⟨rfl,HOp.of hn HT.1 HT.2⟩
theorem HIn.rclr(h:HIn w c g s)(a:Int):Calls prog 83 #[pP s.A.r,iI a,iI 0] w λe w'=>e=.returned (iI (g.slE a))/\AB (λk=>k=s.A.g) w w'/\HIn w' c (g.clG a) s:=by
 unfold Gph.slE Gph.clG;cases ha:g.sl a with
 | false=>
  refine Qa (QST h.com.rt (i:=a) (by rw[MW,ha];decide) 0) λw' gr=>?_;exact⟨rfl,gr.touch _,by grind [gr]⟩
 | true=>
  have:=JQG h ha (y:=0) (.inl rfl);rw[h.img.z]at this
  assumption
theorem JfK(h:HIn w c g s)(hn:s.o=none↔s.lf=0)(a:Int):Calls prog 45 #[pP s.A.hp,iI a] w λe w'=>e=.returned (iI (g.slE a))/\HOp w c s (g.clG a) w':=by
 have HN:=(FU h);have HC:=(h.rclr a);have c9:=h.rcell;generalize s.A.hp=ap at HN c9⊢;go_in;go_upto_region 3 with(go_at_call 51;refine AJ (HN) ?_);go_wp2_with(go_at_call 83;refine Qa (HC) λw1⟨ht,hi⟩=>?_;have HT:=(ξ ht hi));go_ret;exact⟨rfl,HOp.of hn HT.1 HT.2⟩
theorem JaK(h:HIn w c g s)(hn:s.o=none↔s.lf=0)(a b:Int):Calls prog 143 #[pP s.A.hp,iI a,iI b] w λe w'=>e=.returned (.tuple #[.bool (g.sl a&&g.sl b&&(g.at a==g.at b)),iI (g.two a b 0)])/\HOp w c s g w':=by
 obtain⟨F0,F1⟩:=XQ h a b;have H:=ι h;have HN:=ι hn;unfold Gph.two;cases hsl:(g.sl a&&g.sl b)with
 | false=>
  have HF:=ι (F0 hsl);generalize s.A.hp=ap at HF⊢;clear h hn hsl F0 F1;go_in;go_wp2_with(go_at_call 94;refine Qb (HF.o) λw1 HG=>?_);go_ret2;exact⟨rfl,HOp.same H.o HN.o HG.o⟩
 | true=>
  have HF:=ι (F1 hsl);rw[ζd]at hsl;have Y:=Gph.at_ro hsl.1;have Z:=Gph.at_ro hsl.2
  have hd:(((s.F (g.at a):Nat):Int)==((s.F (g.at b):Nat):Int))=(g.at a==g.at b):=by
   have e0:∀{x y:Nat},g.Ro x->g.Ro y->s.F x=s.F y->x=y:=λ{x y} hx hy e=>by
    rcases hx with rfl|hx
    ·rcases hy with rfl|hy
     ·rfl
     ·have:=h.img.pos hy;rw[h.img.z]at e;omega
    ·rcases hy with rfl|hy
     ·have:=h.img.pos hx;rw[h.img.z]at e;omega
     ·exact h.img.inj hx hy e
   by_cases e:g.at a=g.at b
   ·rw[e];simp
   ·have e2:s.F (g.at a)≠s.F (g.at b):=λe3=>e (e0 Y Z e3);rw[ξT e,ξT Ω]
  have HD:=ι hd;generalize (s.F (g.at a):Nat)=ad at HF HD;generalize (s.F (g.at b):Nat)=ad2 at HF HD;generalize (g.at a==g.at b)=bb at HD⊢;generalize s.A.hp=ap at HF⊢;clear h hn hsl F0 F1 hd Y Z;go_in;go_upto_region 4 with(go_at_call 94;refine(HF.o).mono ?_;rintro e w1 ⟨gb,cp,rfl,X,hgb,hcl,hc2⟩;have J:=ι X;clear X);go_quiet (fail);go_wp2;go_ret2;exact⟨by rw[HD.o];rfl,HOp.same H.o HN.o (J.o.drewN _)⟩
theorem BK.trans{g1 g2:Gph}{s1 s2:HSt}(h:BK w c s g1 s1 w1)(k:BK w1 c s1 g2 s2 w2):BK w c s g2 s2 w2:=
 ⟨h.t.trans' k.t (λb hb e=>(h.S b e).elim id (λh2=>by omega)),k.i,k.hp.trans h.hp,λb hb=>by
  rcases k.S b hb with h1|h1
  ·exact h.S b h1
  ·exact .inr (ω h.t.size h1),k.o⟩
theorem BK.gr{s':HSt}(h:BK w c s g' s' w'){w2:World}(gr:Gr w' w2):BK w c s g' s' w2:=⟨h.t.trans (gr.touch _),h.i.gr gr,h.hp,h.S,h.o⟩
theorem BK.refl(h:HIn w c g s)(hn:s.o=none↔s.lf=0):BK w c s g s w:=⟨AB.refl _ _,h,rfl,λ_ h=>.inl h,hn⟩
theorem DI.trans{s1 s2:HSt}(h:DI s s1)(k:DI s1 s2):DI s s2:=by
 have h1:=h.lf;have h2:=k.lf;refine⟨ω h2 h1,?_⟩;rw[k.cyc,h.cyc]
 grind
theorem IP.stp{X:Nat->Prop}{A:HAd}{top:Nat}{u:Vm}{z:CH}{sl:Sl}{v':Vm}{R Sv:Nat->Prop}(h:IP w X A c base top u y z sl v R Sv)(hf:KP w w' R Sv y A.q z (HpB c.fr top u) sl.step v'):IP w' (plus X w) A c base top u y z sl.step v' R (plus Sv w):=by
 have hl:=h.cy.od.lt;have J:=h.tab.lt;have Z:=hf.ok;refine⟨hf.cy,hf.vm,⟨?_,?_,?_⟩,hf.ok,hf.j.1,λk hk=>?_,λk hk Y=>?_,hf.t.tab J (λhk=>hk.elim h.t1 h.t2) h.tab,h.t1,λhk=>hk.elim h.t2 (λhk=>by omega),h.bs,h.lm,h.bk,h.ah,h.kd⟩
 ·rw[Z.mid.n,<-h.hv.n,h.ok.mid.n];rfl
 ·rw[Z.mid.pg,<-h.hv.pg,h.ok.mid.pg];rfl
 ·exact hf.j.2
 ·rcases hk with hk|hk|hk
  ·exact .inl (h.x k (.inl hk))
  ·exact .inl (h.x k (.inr hk))
  ·exact .inr hk
 ·rcases Y with Y|Y
  ·exact h.d k hk Y
  grind
def YF5(w:World)(c:HCf)(g:Gph)(s:HSt)(w':World):Prop:=∃s',BK w c s g s' w'/\DI s s'/\HKp s s'/\s'.lf+1=s.lf
theorem HIn.stp(h:HIn w c g s)(hn:s.o=none↔s.lf=0)(hl:s.lf≠0):∃y,s.o=some y/\Calls prog 61 #[pP y] w λe w1=>e=.returned (.tuple #[.bool true,iI 0]) ∧
  Calls prog 62 #[pP s.A.hp] w1 λe w'=>e=.returned (.tuple #[])/\YF5 w c g s w':=by
 have hm:=h.mem;cases ho:s.o with
 | none=>simp_all
 | some y=>
  rw[ho]at hm;obtain⟨z,sl,v,R,Sv,Y,e1,e2⟩:=hm;refine⟨y,rfl,(Z6 (WW c.fr s.top s.u) Y.cy Y.ok ⟨Y.a,Y.hv.rm⟩ Y.tab Y.t2 Y.t1 Y.vm Y.d).mono ?_⟩;rintro e w1 ⟨v',rfl,hf⟩
  have Z:sl.ft<sl.mv.length:=by
   refine Decidable.byContradiction λhh=>hl ?_;rw[<-e1];exact sl.lf_zero.2 hh
  have J:=Sl.lf_step Z;rw[φ Z];refine⟨rfl,?_⟩;have t1:AB s.X w w1:=hf.t.mono (λk _ hk=>Y.x k hk)
  have hI:HIn w1 c g {s with X:=plus s.X w,lf:=sl.step.lf}:=by
   refine⟨h.com.mem t1,?_,h.img,h.gok,h.cok,h.bt,h.bs,h.sl⟩;rw[ho];exact⟨z,sl.step,v',R,plus Sv w,Y.stp hf,rfl,by show (C7 sl.mv).length=s.nb;rw[TR];exact e2⟩
  refine(XH hI).mono ?_;rintro e w2 ⟨rfl,s',h1⟩;refine⟨rfl,s',⟨?_,h1.i,by rw[h1.A],λk hk=>?_,h1.o⟩,⟨?_,?_⟩,⟨h1.K.F,h1.K.base,h1.K.top⟩,?_⟩
  ·exact(t1.mono (λk _ hk=>.inl hk)).trans' h1.t (λk _ hk=>.inr (.inl hk))
  ·rcases hk with hk|hk|hk|hk|hk
   ·rcases h1.X k hk with h2|h2
    ·exact .inl (.inl h2)
    ·exact .inr h2
   ·rw[h1.A]at hk;exact .inl (.inr (.inl hk))
   ·rw[h1.A]at hk;exact .inl (.inr (.inr (.inl hk)))
   ·rw[h1.A]at hk;exact .inl (.inr (.inr (.inr (.inl hk))))
   ·rw[h1.A]at hk;exact .inl (.inr (.inr (.inr (.inr hk))))
  ·rw[h1.lf,<-e1];grind
  ·rw[h1.cyc,h1.lf]
   simp_all
  ·rw[h1.lf,<-e1];exact J
theorem YY(h:HIn w c g s)(hn:s.o=none↔s.lf=0)(hl:s.lf≠0):Calls prog 15 #[pP s.A.hp] w λe w'=>e=.returned (.bool true)/\YF5 w c g s w':=by
 have HN:=(FU h);obtain⟨y,hy,hs⟩:=h.stp hn hl;have c11:=h.cc 11;go_in;go_upto_region 3 with(go_at_call 51;refine AJ (HN) ?_);go_upto_region 4 with(go_at_call 61;refine Qa (hs) λw1 HE=>?_);go_wp2_with(go_at_call 62;refine Qa (HE) λw2 HH=>?_);go_ret
 simp_all
theorem QNw(h:HIn w c g s)(hn:s.o=none↔s.lf=0)(hl:s.lf=0):cQ 15 #[pP s.A.hp] w (.bool false):=by
 have HN:=(FU h);have X:=h.cc 11;rw[hn.2 hl]at X;go_enter func15,ntmps15;go_wp2_with(go_at_call 51;refine AJ (HN) ?_);go_ret
 simp_all
def TP(w:World)(ap:Nat):Nat:=match w.cell? ⟨ap,11,none⟩with
 | some (.pointer (some a))=>MX w a.block 11
 | _=>0
theorem HIn.left(h:HIn w c g s):TP w s.A.hp=s.lf:=by
 have X:=h.cc 11;have hm:=h.mem;unfold TP;cases ho:s.o with
 | none=>
  rw[ho]at X hm;rw[X];exact hm.2.2.2.symm
 | some y=>
  rw[ho]at X hm;obtain⟨z,sl,v,R,Sv,Y,e1,e2⟩:=hm;have c:=Y.cy.rc.cc 11;rw[X]
  show MX w y 11=s.lf
  unfold MX;rw[c,<-e1];rfl
theorem Z4(h:HIn w c g s)(hn:s.o=none↔s.lf=0):Calls prog 52 #[pP s.A.hp] w λe w'=>e=.returned (.tuple #[])/\∃s',BK w c s g s' w'/\DI s s'/\HKp s s'/\s'.lf=0:=by
 have H0:Hid (BK w c s g s w/\DI s s/\HKp s s):=⟨BK.refl h hn,DI.same s,HKp.refl s⟩;obtain⟨ap,hp⟩:=ε s.A.hp;have HP:=ι hp;rw[<-hp];clear h hn hp;go_in;go_wp2
 go_loopw [] (λwr=>∃s',Hid (BK w c s g s' wr/\DI s s'/\HKp s s')) (λwr=>TP wr ap)
 case atStart=>exact⟨s,H0⟩
 case round=>
  obtain⟨s',HR⟩:=hrel;have Y:ap=s'.A.hp:=HP.o.trans HR.o.1.hp.symm;by_cases hl:s'.lf=0
  ·have HZ:=(QNw HR.o.1.i HR.o.1.o hl);rw[<-Y]at HZ;clear Y;go_wp2_with(go_at_call 15;refine AJ (HZ) ?_);refine ζk (ζh rfl _ _ _) rfl ?_;exact⟨rfl,s',HR.o.1,HR.o.2.1,HR.o.2.2,hl⟩
  ·have HZ:=(YY HR.o.1.i HR.o.1.o hl);have hl:=(HR.o.1.i.left);rw[<-Y]at HZ hl;have Z:=ι Y;clear Y;go_wp2_with(go_at_call 15;refine Qa (HZ) λw1⟨s2,h1,h2,h3,h4⟩=>?_;have X:=(ξ h1 (ξ h2 (ξ h3 h4)));clear h1 h2 h3 h4);go_round
   case rel=>exact⟨s2,⟨HR.o.1.trans X.1,HR.o.2.1.trans X.2.1,HR.o.2.2.trans X.2.2.1⟩⟩
   case measure=>
    have e1:=X.1.i.left;rw[X.1.hp,<-Z.o]at e1;have:=hl;have:=X.2.2.2;omega
section
attribute [local go_sem] Oper.semAt_some
structure VNZ(w wx:World)(S:Nat->Prop)(q m p1 b1 p2 b2:Nat)(v:Vm)(rs:List Int)(c:Cf)(why:Int):Prop where
 t:AB S w wx
 vm:AE wx (AD S w) q v
 rs:why=0/\∃L,Ext wx m p1 b1 p2 b2 v.n L/\BO v rs v.n L
 bx:Rec wx w.heap.size 113 [iI c.fr,iI c.tp,iI c.to,iI c.lm,iI c.bk,iI c.st,iI c.ah]
 r6:Rec wx (w.heap.size+1) 137 [.pointer none]
 r7:Rec wx (w.heap.size+2) 30 [iI 0]
 lm:w.heap.size+3<=m
 l1:w.heap.size+3<=p1
 l2:w.heap.size+3<=b1
 l3:w.heap.size+3<=p2
 l4:w.heap.size+3<=b2
section
variable{g:Nat}{c:Cf}
theorem YeD(hV:AE w S q v)(hn1:1<=v.n)(hR:A7 w r g rs)(hT:AQ w)(htS:¬S 1)(hst:1<=c.st/\c.st<=4096)(hin:∃L,FI v rs c.fr c.tp L):Calls prog 185 #[pP q,pP r,cfV c] w (Zt3 w S q v rs c.fr c.tp):=by
 obtain⟨L0,Ys⟩:=hin;have Zt:=ι Ys;have Jo:=ι Ys.1.sound;clear Ys;have HV:=hV.cut;have HR:=hR;have HT:=hT;have Zr:=htS;have Jk:=hT.lt;have hn2:=hV.ok.n2;have Zy:rs.length≠0:=λe=>hR.ne (ζy e);have Jd:=hR.le;have HX:=(λW=>P7 v.n hn1 Ω W);have Zx:=hst;obtain⟨n,Xv⟩:=ε rs.length;have HN:=ι Xv;rw[<-Xv]at Zy Jd;have g1:Gr w (((w.alloc (.cells #[.int .i64 c.fr,.int .i64 c.tp,.int .i64 c.to,.int .i64 c.lm,.int .i64 c.bk,.int .i64 c.st,.int .i64 c.ah] 113)).alloc (.cells #[.pointer none] 137)).alloc (.cells #[.int .i64 0] 30)):=(((Gr.refl w).alloc _).alloc _).alloc _;have Zv:=ι g1;clear hV hR hT htS hst Xv g1;refine(γ (n:=5)).1 ?_;refine callsIn_of_wp_marks func185 rfl trivial ?_ rfl;simp only[ntmps185,ζ3,ζD,ξf,Nat.reduceAdd,Nat.reduceSub,ζR,ζQ,ζ9,ζZ,ζ4,ζv];unfold cfV;gi_upto_region 1 with(fail);obtain⟨W0,Xf⟩:=ε (((w.alloc (.cells #[.int .i64 c.fr,.int .i64 c.tp,.int .i64 c.to,.int .i64 c.lm,.int .i64 c.bk,.int .i64 c.st,.int .i64 c.ah] 113)).alloc (.cells #[.pointer none] 137)).alloc (.cells #[.int .i64 0] 30));have Zo:W0.heap.size=w.heap.size+3:=by rw[Xf];simp only[π]
 have Zd:Gr w W0:=by rw[Xf];exact Zv.o
 have rb:Rec W0 w.heap.size 113 [iI c.fr,iI c.tp,iI c.to,iI c.lm,iI c.bk,iI c.st,iI c.ah]:=by rw[Xf];exact(Rec.new w _ [iI c.fr,iI c.tp,iI c.to,iI c.lm,iI c.bk,iI c.st,iI c.ah]).gr (((Gr.refl _).alloc _).alloc _)
 have r6:Rec W0 (w.heap.size+1) 137 [.pointer none]:=by rw[Xf];exact(MD w _ 137 [.pointer none]).gr ((Gr.refl _).alloc _)
 have r7:Rec W0 (w.heap.size+2) 30 [iI 0]:=by
  rw[Xf];have:=MD (w.alloc (.cells #[.int .i64 c.fr,.int .i64 c.tp,.int .i64 c.to,.int .i64 c.lm,.int .i64 c.bk,.int .i64 c.st,.int .i64 c.ah] 113)) (.cells #[.pointer none] 137) 30 [iI 0];rw[π]at this;exact this
 rw[<-Xf];clear Xf Zv;have Zq:=ι Zd;have Zc:=ι rb;have Ja:=ι r6;have Jc:=ι r7;have Je:=ι (λ(W:World) (g:Gr w W)=>J0 (HV.gr g));clear rb r6 r7 Zd
 gi_upto_region 2 with(first|(refine⟨trivial,?_⟩;gi_at_call 71;refine(γ.2 (Je.o _ Zq.o)).mono ?_;rintro e w2 ⟨rfl,rfl⟩)|(refine⟨trivial,?_⟩;gi_at_call 70;refine(γ.2 (HX _)).mono ?_;rintro e w3 ⟨m,p1,b1,p2,b2,rfl,Yr,Zj,Xc,Xn,Xe,Xk,Xj⟩;have Yd:=ι Yr;have N:=ι (Zq.o.trans Yr);have Xl:=ι Zj;have HB:=ι (ξ Xc (ξ Xn (ξ Xe (ξ Xk Xj))));clear Yr Zj Xc Xn Xe Xk Xj))
 gi_cut [10,11]from 14 (λs10 s11 wx=>∃(Xa:Nat) (X:Int),s10=pP Xa/\s11=iI X/\Hid (VNZ w wx S q m p1 b1 p2 b2 v rs c X))
 case first=>
  have Jn:=HB.o;obtain⟨Xc,Xn,Xe,Xk,Xj⟩:=Jn;rw[Zo]at Xc Xn Xe Xk Xj;have Yt:=Xl.o.hm;have Yn:=Xl.o.v1.hp;have Xr:=Xl.o.v1.hb;have Ym:=Xl.o.v2.hp;have Xt:=Xl.o.v2.hb
  have Xg:∀i,AT m b1 b2 i->w.heap.size+3<=i/\i<w3.heap.size:=λi hi=>by
   rcases hi with rfl|rfl|rfl
   ·exact⟨Xc,Yt⟩
   ·exact⟨Xe,Xr⟩
   ·exact⟨Xj,Xt⟩
  have Yz:=ι Xg;have Xy:=ι (λ(W:World) (g:Gr w3 W)=>Q3 (HR.gr ((N.o).trans g)));rw[<-HN.o]at Xy
  have Ye:Hid (∀(W:World) (g1 cp:Nat),Gr w3 W->w3.heap.size<=g1->W.ownsRow 0 3 1 (.slice (some ⟨g1,0,none⟩) n cp) n (zs rs)->Calls prog 72 #[.iface 99 (pP q),.slice (some ⟨g1,0,none⟩) n cp,pP m,iI c.st] W λe w'=>
    ∃(a1 a2 a3 a4 X:Int),e=.returned (.tuple #[.agg #[iI a1,iI a2,iI a3,iI a4],iI X])/\AB (λi=>AT m b1 b2 i\/AD S w i) W w'/\AE w' (AD S w) q v/\(X=0/\∃L,Ext w' m p1 b1 p2 b2 v.n L/\BO v rs v.n L)):=⟨λW g1 cp hg O ho=>by
   rw[HN.o]at ho⊢;have Yf:=N.o.trans hg;refine(WO Jo.o (HV.gr Yf) (Xl.o.gr hg) (Yf.tab HT.lt HT) (λi hi=>?_) (by unfold maxLen;have:=HN.o;omega) (λi hi h=>by have:=(Xg i h).1;have:=hi.2;omega) (λh=>by have:=h.2;omega) (λh=>by have:=h.2;omega) (λh=>Zr h.1) (λh=>by have:=(Xg _ h).1;omega) (room:=(c.st:Int)) (by have:=Zx;omega)).mono ?_
   ·exact⟨g1,0,rfl,(A9 ho rfl).2,λh=>by have:=(Xg _ h).2;omega,by rw[ζ6];exact BU ho (NH hi)⟩
   ·rintro e w' ⟨ht,hv,L,r',vi,rfl,he,hm,-⟩
    exact⟨_,_,r',vi,0,rfl,ht,hv,rfl,L,he,hm⟩⟩
  have Yu:Hid (∀(W1 W2 W3:World) (Xa:Nat) (X:Int),Gr w3 W1->AB (λi=>AT m b1 b2 i\/AD S w i) W1 W2->AE W2 (AD S w) q v->(X=0/\∃L,Ext W2 m p1 b1 p2 b2 v.n L/\BO v rs v.n L)->AB (λi=>i=Xa) W2 W3->w3.heap.size<=Xa →
    VNZ w W3 S q m p1 b1 p2 b2 v rs c X):=⟨λW1 W2 W3 Xa X hg ht hv hres ht3 hb=>by
   have hz3:=N.o.size;have hz13:=Yd.o.size;have Yf:=N.o.trans hg
   have Yq:∀i,i<w.heap.size+3->w.heap.size<=i->¬(AT m b1 b2 i\/AD S w i):=λi h1 h2 h=>by
    rcases h with h|h
    ·have:=(Xg i h).1;omega
    ·have:=h.2;omega
   refine⟨((Yf.touch _).trans (ht.mono (T:=λi=>AT m b1 b2 i\/S i) (λi _ h=>h.imp id (λh=>h.1)))).trans' (T:=λi=>i=Xa) ht3 (λi hi h=>by omega) |>.mono (λi hi h=>h.elim (λh=>by have:=(Xg i h).1;omega) id),hv.touch ht3 (λi hi _ h=>by have:=hi.2;omega),?_,?_,?_,?_,Xc,Xn,Xe,Xk,Xj⟩
   ·obtain⟨h,L,he,hm⟩:=hres;exact⟨h,L,he.touch ht3 Ω Ω Ω Ω Ω,hm⟩
   ·exact((Zc.o.gr (Yd.o.trans hg)).touch ht (Yq _ Ω Ω)).touch ht3 Ω
   ·exact((Ja.o.gr (Yd.o.trans hg)).touch ht (Yq _ Ω Ω)).touch ht3 Ω
   ·exact((Jc.o.gr (Yd.o.trans hg)).touch ht (Yq _ Ω Ω)).touch ht3 Ω⟩
  have Yp:=Zc.o.gr Yd.o;have x5:=Yp.cc 5;have Yw:=Yp.lt;have KS:Hid (∀W',Gr w3 W'->W'.cell? ⟨w.heap.size,5,none⟩=some (iI c.st)):=⟨λW' h=>(h.cell Yw 5).trans x5⟩
  have KT:Hid (∀W1 W',Gr w3 W1->AB (λi=>AT m b1 b2 i\/AD S w i) W1 W'->W'.cell? ⟨w.heap.size,5,none⟩=some (iI c.st)):=⟨λW1 W' h t=>(t.cell (ϑ Yw h.size) (λh=>by
   rcases h with h|h
   ·have:=(Yz.o _ h).1;omega
   ·have:=h.2;omega) 5).trans ((h.cell Yw 5).trans x5)⟩
  obtain⟨Sx,Yk⟩:=ε (λW'=>W'.cell? ⟨w.heap.size,5,none⟩=some (iI c.st):World->Prop);have y1:∀p':AA Sx,p'.w.cell? ⟨w.heap.size,5,none⟩=some (iI c.st):=λp=>AA.get Yk p;have Zi:Sx w3.drew:=by rw[Yk];exact x5
  have U:=ι Yk;have inst:Inhabited (AA Sx):=⟨⟨_,Zi⟩⟩;clear Yk x5 Yp Xg Xc Xn Xe Xk Xj Yt Yn Xr Ym Xt;refine Q25 Sx (.two [0,1,2,4,5,6] 3 (.two [] 7 (.one [8,9,10] 11 (.one [] 12 (.fin [13]))) 11 (.one [] 7 (.one [8,9,10] 12 (.fin [13])))) 11 (.one [] 3 (.one [] 7 (.one [8,9,10] 12 (.fin [13]))))) IQ Zi ?_;refine ST ?_;simp only[AF,υ,ν]
  repeat(go_big_quiet_step (fail))
  refine ζb ⟨?_,?_⟩
  ·gi_wp2_with(refine⟨trivial,?_⟩;gi_at_call 67;refine(γ.2 (Xy.o _ (Gr.refl w3).drew)).mono ?_;rintro e w4 ⟨g1,c1,rfl,Xm,Xs,Yc⟩;have Y:=ι ((Gr.refl w3).drew.trans Xm);have Yi:=ι Yc;have Yh:=ι Xs;clear Xm Yc Xs);refine⟨AA.of (by rw[U.o];exact KS.o _ Y.o),?_⟩;refine ST ?_;simp only[AF,υ,ν];refine ζb ⟨?_,?_⟩
   ·gi_wp2_with(refine⟨trivial,?_⟩;gi_at_call 72;refine(γ.2 (Ye.o _ g1 c1 Y.o Yh.o Yi.o)).mono ?_;rintro e w5 ⟨a1,a2,a3,a4,X,rfl,M,G,E⟩;have Z:=ι M;have Yb:=ι G;have Xw:=ι E;clear M G E);refine⟨AA.of (by rw[U.o];exact KT.o _ _ Y.o Z.o),?_⟩;refine NL ?_;have u5:=KT.o _ _ Y.o Z.o;have Za:=A6 u5;gi_wp2;refine⟨AA.of (by rw[U.o];exact(((Gr.refl w5).alloc _).cell Za 5).trans u5),?_⟩;refine JV ?_;simp only[AF,υ,ν];refine ζb ?_;gi_wp2;refine⟨AA.of (by rw[U.o];exact(((Gr.refl w5).alloc _).cell Za 5).trans u5),?_⟩;refine OW ?_;gi_wp2
    gi_meet
    exact⟨_,X,rfl,rfl,⟨Yu.o _ _ _ _ X Y.o Z.o Yb.o Xw.o (((Gr.refl w5).alloc _).touch _) (ω Y.o.size Z.o.size)⟩⟩
   ·have x4:=KS.o _ Y.o;have Zl:=A6 x4;gi_wp2;refine⟨AA.of (by rw[U.o];exact(((Gr.refl w4).alloc _).cell Zl 5).trans x4),?_⟩;refine JV ?_;simp only[AF,υ,ν];refine ζb ?_;have I:=ι (Rec.new w4 141 [iI 0,iI 0,iI 0,iI 0]);have V:=ι (Y.o.alloc (.cells #[.int .i64 0,.int .i64 0,.int .i64 0,.int .i64 0] 141))
    have Ya:Hid (¬(AT m b1 b2 w4.heap.size\/AD S w w4.heap.size)):=⟨λh=>by
     have:=Y.o.size;rcases h with h|h
     ·have:=(Yz.o _ h).2;omega
     ·have:=h.2;have:=(N.o).size;omega⟩
    have Xo:Hid (¬w.heap.size=w4.heap.size):=⟨by have:=Y.o.size;omega⟩;have Zu:=ι (CF Yi.o ((Gr.refl w4).alloc (.cells #[.int .i64 0,.int .i64 0,.int .i64 0,.int .i64 0] 141)));have Xp:Hid (w3.heap.size<=w4.heap.size):=⟨Y.o.size⟩;obtain⟨bA,Xb⟩:=ε w4.heap.size;obtain⟨WA,Xi⟩:=ε (w4.alloc (.cells #[.int .i64 0,.int .i64 0,.int .i64 0,.int .i64 0] 141));rw[show w4.alloc (.cells ([.int .i64 0,.int .i64 0,.int .i64 0,.int .i64 0]:List Value).toArray 141)=WA from Xi.symm]at I;rw[<-Xi]at V Zu⊢;rw[<-Xb]at I Ya Xo Xp⊢;clear Xb Xi x4 Zl;gi_wp2_with(refine⟨trivial,?_⟩;gi_at_call 72;refine(γ.2 (Ye.o _ g1 c1 V.o Yh.o Zu.o)).mono ?_;rintro e w5 ⟨a1,a2,a3,a4,X,rfl,M,G,E⟩;have Z:=ι M;have Yb:=ι G;have Xw:=ι E;have J:=ι (I.o.touch M (Ya.o));have q0:=J.o.cc 0;have q1:=J.o.cc 1;have q2:=J.o.cc 2;have q3:=J.o.cc 3;have qf:=J.o.free;have ql:=J.o.lt;clear M G E);refine⟨AA.of (by rw[U.o];exact KT.o _ _ V.o Z.o),?_⟩;refine NL ?_;gi_wp2;have t5:=QL w5 bA (iI a1) (iI a2) (iI a3) (iI a4);have KF:=(t5.cell (A6 (KT.o _ _ V.o Z.o)) Xo.o 5).trans (KT.o _ _ V.o Z.o);refine⟨AA.of (by rw[U.o];exact KF),?_⟩;refine OW ?_;gi_wp2
    gi_meet
    exact⟨_,X,rfl,rfl,⟨Yu.o _ _ _ _ X V.o Z.o Yb.o Xw.o t5 Xp.o⟩⟩
  ·gi_wp2;have x3:=KS.o _ (Gr.refl w3);have Jj:=A6 x3;refine⟨AA.of (by rw[U.o];exact KS.o _ ((Gr.refl w3).alloc _).drew),?_⟩;refine JV ?_;simp only[AF,υ,ν];refine ζb ?_;have I:=ι ((Rec.new w3 141 [iI 0,iI 0,iI 0,iI 0]).gr (Gr.refl _).drew);have V:=ι ((Gr.refl w3).alloc (.cells #[.int .i64 0,.int .i64 0,.int .i64 0,.int .i64 0] 141)).drew
   have Ya:Hid (¬(AT m b1 b2 w3.heap.size\/AD S w w3.heap.size)):=⟨λh=>by
    rcases h with h|h
    ·have:=(Yz.o _ h).2;omega
    ·have:=h.2;have:=(N.o).size;omega⟩
   have Xo:Hid (¬w.heap.size=w3.heap.size):=⟨by omega⟩;have Xp:Hid (w3.heap.size<=w3.heap.size):=⟨μ _⟩;obtain⟨WA,Xi⟩:=ε ((w3.alloc (.cells #[.int .i64 0,.int .i64 0,.int .i64 0,.int .i64 0] 141)).drew);rw[show (w3.alloc (.cells ([.int .i64 0,.int .i64 0,.int .i64 0,.int .i64 0]:List Value).toArray 141)).drew=WA from Xi.symm]at I;rw[<-Xi]at V⊢;clear Xi;obtain⟨bA,Xb⟩:=ε w3.heap.size;rw[<-Xb]at I Ya Xo;rw[show w3.heap.size<=w3.heap.size↔w3.heap.size<=bA by rw[Xb]]at Xp;rw[show w3.heap.size=bA from Xb.symm];clear Xb x3 Jj;gi_wp2_with(refine⟨trivial,?_⟩;gi_at_call 67;refine(γ.2 (Xy.o _ V.o)).mono ?_;rintro e w4 ⟨g1,c1,rfl,Xm,Xs,Yc⟩;have Y:=ι (V.o.trans Xm);have Zs:=ι (I.o.gr Xm);have Yi:=ι Yc;have Yh:=ι (ω V.o.size Xs);clear Xm Yc Xs);refine⟨AA.of (by rw[U.o];exact KS.o _ Y.o),?_⟩;refine JV ?_;simp only[AF,υ,ν];refine ζb ?_;gi_wp2_with(refine⟨trivial,?_⟩;gi_at_call 72;refine(γ.2 (Ye.o _ g1 c1 Y.o Yh.o Yi.o)).mono ?_;rintro e w5 ⟨a1,a2,a3,a4,X,rfl,M,G,E⟩;have Z:=ι M;have Yb:=ι G;have Xw:=ι E;have J:=ι (Zs.o.touch M (Ya.o));have q0:=J.o.cc 0;have q1:=J.o.cc 1;have q2:=J.o.cc 2;have q3:=J.o.cc 3;have qf:=J.o.free;have ql:=J.o.lt;clear M G E);refine⟨AA.of (by rw[U.o];exact KT.o _ _ Y.o Z.o),?_⟩;refine NL ?_;gi_wp2;have t5:=QL w5 bA (iI a1) (iI a2) (iI a3) (iI a4);have KF:=(t5.cell (A6 (KT.o _ _ Y.o Z.o)) Xo.o 5).trans (KT.o _ _ Y.o Z.o);refine⟨AA.of (by rw[U.o];exact KF),?_⟩;refine OW ?_;gi_wp2
   gi_meet
   exact⟨_,X,rfl,rfl,⟨Yu.o _ _ _ _ X Y.o Z.o Yb.o Xw.o t5 Xp.o⟩⟩
 case rest=>
  obtain⟨Xa,X,rfl,rfl,HI⟩:=hcut;have Jb:=HI.o.r6;have Zg:=HI.o.r7;have Zh:=HI.o.bx;have hwz:=HI.o.t.size;have hr7l:=Zg.lt;obtain⟨rfl,L,hex,Zk⟩:=HI.o.rs
  ·have Yx:=ι hex;have Zn:=ι Zk;clear Jb Zg hex Zk;gi_wp2_with(refine⟨trivial,?_⟩;gi_at_call 135;refine(γ.2 (LO (some ⟨m,0,none⟩))).mono ?_;rintro e w1 ⟨rfl,rfl⟩);obtain⟨W1,Xx⟩:=ε (wc.alloc (.cells #[.pointer (some ⟨m,0,none⟩)] 137));have O:Gr wc W1:=by rw[Xx];exact(Gr.refl wc).alloc _
   have Zp:W1.heap.size=wc.heap.size+1:=by rw[Xx,π]
   have k4:W1.cell? ⟨wc.heap.size,0,none⟩=some (pP m):=by
    rw[Xx];exact(Boxed.new wc 137 (pP m)).cell
   rw[<-Xx];have hex:=Yx.o;have Yt:=hex.hm;have Yn:=hex.v1.hp;have Xr:=hex.v1.hb;have Ym:=hex.v2.hp;have Xt:=hex.v2.hb;have Ze:Hid (AQ wc):=⟨HI.o.t.tab Jk Zr HT⟩;have Zf:=Ze.o.lt;have hrl:=Zh.lt;have Zw:=ι hex.good;clear Xx hex;have tI:∀(j:Nat) A B,(AB (λi=>W1.heap.size<=i) W1 A/\j<=L.length/\∀i (h:i<L.length),i<j->c.fr<=L[i].1/\L[i].1+L[i].2<=c.tp)->AB (λi=>W1.heap.size<=i/\i<W1.heap.size+2+4) A B->(AB (λi=>W1.heap.size<=i) W1 B/\j<=L.length/\∀i (h:i<L.length),i<j->c.fr<=L[i].1/\L[i].1+L[i].2<=c.tp):=λj A B h t=>⟨h.1.trans (t.mono (λi _ h=>h.1)),h.2⟩
   refine NF (K:=4) (s0:=0) rfl Ω (gf:=202) (lb:=#[pP wc.heap.size]) rfl trivial (enters_of func202 (by kernel_rfl) rfl)
    (QQ _ wc.heap.size m p1 b1 p2 b2 v.n L _) (λ_=>rfl)
    (λ(j:Nat) A=>AB (λi=>W1.heap.size<=i) W1 A/\j<=L.length/\∀i (h:i<L.length),i<j->c.fr<=L[i].1/\L[i].1+L[i].2<=c.tp)
    (λ_ _=>False) tI (λ_ _ _ h _=>h)
    (λj A h=>⟨(Yx.o.gr O).touch h.1 Ω Ω Ω Ω Ω,(O.tab Zf Ze.o).touch' h.1 Ω,(h.1.cell Ω Ω 0).trans k4,h.2.1⟩)
    ⟨AB.refl _ _,ζe _,λi _ h=>absurd h (ζ8 _)⟩ ?round ?done (λ_ _ _ _ h _=>h.elim)
   case round=>
    have Zz:=ι Zp;clear Zp;intro lp j x W3 hsz3 Xd Xh;dsimp only[IC];gi_wp2;refine⟨Gr.refl _,λW4 ht4 hI4=>?_⟩
    have Yg:j<L.length:=by
     rcases δ j L.length with h|h
     ·exact h
     ·unfold FE at Xh;rw[ζz h]at Xh;cases Xh
    obtain rfl:x=L[j]:=by unfold FE at Xh;rw[τ Yg]at Xh;exact(Option.some.inj Xh).symm
    have Xz:=(Zh.gr O).touch hI4.1 (by have:=Zz.o;omega);obtain⟨c0,c1,cl⟩:=Xz.k2;have Jf:=(Zw.o.sz _ (χ Yg)).2;have Zm:=ι (χ Yg);obtain⟨sa,Yv⟩:=ε (L[j].1);obtain⟨sz,Yo⟩:=ε (L[j].2);have Yj:=ι (ξ Yv Yo);rw[<-Yv,<-Yo]at Jf⊢;have Zb:=ι hI4;have Jh:=ι Yg;by_cases hin:c.fr<=sa/\sa+sz<=c.tp
    ·have e0:decide ((sa:Int)<(c.fr:Int))=false:=ζ Ω;have e1:decide ((c.tp:Int)<(sa:Int)+(sz:Int))=false:=ζ Ω;have e2:decide (sa<c.fr)=false:=ζ Ω;have Jg:=ι hin;clear Xd hI4 Xh ht4 Yv Yo hin;gi_wp2;refine⟨AB.refl _ _,j+1,rfl,Zb.o.1,Jh.o,λi h hij=>?_⟩;rcases δ i j with h'|h'
     ·exact Zb.o.2.2 i h h'
     ·obtain rfl:i=j:=Ω
      rw[<-Yj.o.1,<-Yj.o.2];exact Jg.o
    ·exfalso;have h1:=Zt.o.1.unique Zn.o;have h2:=Zt.o.2 L[j] (by rw[h1];exact Zm.o);rw[<-Yj.o.1,<-Yj.o.2]at h2;omega
   case done=>
    rintro D j W3 hD rfl Xd hK;have Xq:=(HI.o.r6.gr O).touch Xd.1 (by have:=HI.o.r6.lt;omega);have Xu:=(HI.o.r7.gr O).touch Xd.1 (by have:=HI.o.r7.lt;omega);have q0:=Xq.cc 0;have q1:=Xq.free 0;have ql:=Xq.lt;have p0:=Xu.cc 0;have p1':=Xu.free 0;have pl:=Xu.lt;have HK:=ι hK;have HD:=ι hD;have Yl:=ι Xd;have I:=ι Xq;have Jl:=ι Xu;have hs3:=Xd.1.size;clear hK hD Xd Xq Xu;gi_wp2
    have tg:AB (λi=>i=w.heap.size+1\/i=w.heap.size+2) W3 ((W3.setCell ⟨w.heap.size+1,0,none⟩ (.pointer (some ⟨m,0,none⟩))).setCell ⟨w.heap.size+1+1,0,none⟩ (.int .i64 0)):=
     ((AB.refl _ W3).setCell (a:=⟨w.heap.size+1,0,none⟩) (λ_=>.inl rfl) _).setCell (a:=⟨w.heap.size+1+1,0,none⟩) (λ_=>.inr rfl) _
    have b6:Rec ((W3.setCell ⟨w.heap.size+1,0,none⟩ (.pointer (some ⟨m,0,none⟩))).setCell ⟨w.heap.size+1+1,0,none⟩ (.int .i64 0)) (w.heap.size+1) 137 [pP m]:=
     (I.o.set 0 (pP m)).touch ((AB.refl (λi=>i=w.heap.size+1+1) _).setCell (a:=⟨w.heap.size+1+1,0,none⟩) (λ_=>rfl) _) Ω
    have b7:Rec ((W3.setCell ⟨w.heap.size+1,0,none⟩ (.pointer (some ⟨m,0,none⟩))).setCell ⟨w.heap.size+1+1,0,none⟩ (.int .i64 0)) (w.heap.size+2) 30 [iI 0]:=
     (Jl.o.touch ((AB.refl (λi=>i=w.heap.size+1) W3).setCell (a:=⟨w.heap.size+1,0,none⟩) (λ_=>rfl) (pP m)) Ω).set 0 (iI 0)
    have hD:=HD.o;have Yy:=(tg.block D (ζq.1 HK.o).1 Ω).trans HK.o;generalize ((W3.setCell ⟨w.heap.size+1,0,none⟩ (.pointer (some ⟨m,0,none⟩))).setCell ⟨w.heap.size+1+1,0,none⟩ (.int .i64 0))=W5 at *
    have k6:=b6.cc 0;have k7:=b7.cc 0;rw[show w.heap.size+2=w.heap.size+1+1 from rfl]at k7;refine⟨by simp,.inl ⟨_,_,rfl,run_takeDeferred Yy,?_⟩⟩;have Jm:=cell_kept k6 (grownBy_putObj' _ D (.deferred none)) (λr e=>by cases e;exact⟨_,Yy,rfl⟩);have Ji:=cell_kept k7 (grownBy_putObj' _ D (.deferred none)) (λr e=>by cases e;exact⟨_,Yy,rfl⟩);have tD:AB (λi=>W1.heap.size<=i) W5 (W5.putObj D (.deferred none)):=DW _ D _ Ω;refine⟨.tuple #[pP m,iI 0],?_,?_,?_,L,m,p1,b1,p2,b2,⟨Zn.o,λo ho=>?_⟩,rfl,?_,?_⟩
    ·simp[results,f185,go_sem,Jm,Ji]
    ·exact(((HI.o.t.trans (O.touch _)).trans' Yl.o.1 (λi hi h=>by omega)).trans' tg (λi hi h=>by omega)).trans' tD (λi hi h=>by omega)
    ·exact(((HI.o.vm.gr O).touch Yl.o.1 (λi hi _ h=>by have:=hi.2;omega)).touch tg (λi hi _ h=>by have:=hi.2;omega)).touch tD (λi hi _ h=>by have:=hi.2;omega)
    ·obtain⟨i,hi,rfl⟩:=ζt ho;have:=Yl.o.2.2 i hi hi;omega
    ·have hl:=HI.o;have l0:=hl.lm;have l1:=hl.l1;have l2:=hl.l2;have l3:=hl.l3;have l4:=hl.l4;exact((((Yx.o.gr O).touch Yl.o.1 Ω Ω Ω Ω Ω)).touch tg Ω Ω Ω Ω Ω).touch tD Ω Ω Ω Ω Ω
    ·have hl:=HI.o;have l0:=hl.lm;have l1:=hl.l1;have l2:=hl.l2;have l3:=hl.l3;have l4:=hl.l4;omega
end
end
section
attribute [local go_sem] Oper.semAt_some
theorem Qkw{b1 b2:Nat}(hE:Ext w m p1 b1 p2 b2 n L)(hT:AQ w){B:Nat}(hB:BQ B=true)(hb:base<2147483648):Calls prog 186 #[pP m,iI B,iI base] w λe w'=>∃p,e=.returned (.tuple #[pP p,iI 0])/\Gr w w'/\Pln w' w.heap.size p n B base L:=by
 have hbp:=DR hB;refine(YGs hE hT (B:Int) (base:Int) Ω).mono ?_;have hbo:GM (base:Int)=true:=by unfold GM;grind
 rintro e w' ⟨hg,(⟨h,-⟩|⟨-,p,B',base',e1,e2,rfl,hP⟩)⟩
 ·simp_all
 grind
def SL(w:World)(S:Nat->Prop)(q r g:Nat)(v:Vm)(rs:List Int)(c:Cf)(e:Ending)(w':World):Prop:=
 AB (λb=>b=g\/S b) w w' ∧
  ∃L,FI v rs c.fr c.tp L/\AC L<=c.lm-c.to/\∃(y:Nat) (z:CH) (R S':Nat->Prop) (v':Vm) (j:Nat),e=.returned (.tuple #[pP y,iI 0])/\Cyc w' R y q z (A8 v c L)/\AE w' S' q v'/\(∀b,S' b->S b\/w.heap.size<=b)/\(∀b,R b->w.heap.size<=b/\¬S' b) ∧
    FN (A8 v c L) v v' (c.fr/v.pl.pg) j/\c.tp<=(c.fr/v.pl.pg+j)*v.pl.pg/\(∀i,i<j->(c.fr/v.pl.pg+i)*v.pl.pg<c.tp)/\A7 w' r g (rs.map (toV L c.to))
theorem ZHF:(prog.info? 4).map (λi=>(i.zero,i.size,i.bytes))=some (some (.bool false),1,1):=by kernel_rfl
structure OpJ(wa w:World)(D:Nat->Bool)(q p m nb:Nat)(c:Cf)(v55 v56 v57 v58 v59 v60 v61 v62 v63 v64 v65 v66 v67 v13:Value):Prop where
 e55:v55=pP q
 e56:v56=.agg #[iI c.fr,iI c.tp,iI c.to,iI c.lm,iI c.bk,iI c.st,iI c.ah]
 e57:v57=pP p
 e58:v58=pP m
 e59:v59=pP p
 e62:v62=pP p
 e60:D 5=true->v60=iI nb
 e61:D 6=true->∃b,v61=.slice (some ⟨b,0,none⟩) nb nb/\w.ownsRow 0 4 1 v61 nb (List.replicate nb (.bool false))/\wa.heap.size<=b
 e63:D 8=true->v63=iI nb
 e64:D 9=true->∃b,v64=.map (some b)/\BH prog 3 w b 0 (λ_=>none)/\wa.heap.size<=b
 e65:D 10=true->∃b,v65=.map (some b)/\BH prog 3 w b 0 (λ_=>none)/\wa.heap.size<=b
 ne:D 9=true->D 10=true->v64≠v65
 e66:D 11=true->D 6=true/\D 8=true/\D 9=true/\D 10=true/\v66=.agg #[v55,iI c.fr,iI c.tp,iI c.to,iI c.lm,iI c.bk,iI c.st,iI c.ah,v57,v58,v61,v63,iI 0,iI 0,v64,v65]
 e67:D 12=true->D 11=true/\∃b,v67=pP b/\wa.heap.size<=b/\Rec w b 213 [v55,iI c.fr,iI c.tp,iI c.to,iI c.lm,iI c.bk,iI c.st,iI c.ah,v57,v58,v61,v63,iI 0,iI 0,v64,v65]
 e13:D 13=true->∃b,v13=pP b/\wa.heap.size<=b/\Rec w b 102 [if D 14 then v67 else .pointer none]
 d14:D 14=true->D 12=true/\D 13=true
 t:AB (λi=>wa.heap.size<=i) wa w
theorem OpJ.gr{wa:World}{D:Nat->Bool}{c:Cf}{v55 v56 v57 v58 v59 v60 v61 v62 v63 v64 v65 v66 v67 v13:Value}(h:OpJ wa w D q p m nb c v55 v56 v57 v58 v59 v60 v61 v62 v63 v64 v65 v66 v67 v13)(g:Gr w w'):OpJ wa w' D q p m nb c v55 v56 v57 v58 v59 v60 v61 v62 v63 v64 v65 v66 v67 v13:=
 ⟨h.e55,h.e56,h.e57,h.e58,h.e59,h.e62,h.e60,λd=>by obtain⟨b,h1,h2,h3⟩:=h.e61 d;exact⟨b,h1,CF h2 g,h3⟩,h.e63,λd=>by obtain⟨b,h1,h2,h3⟩:=h.e64 d;exact⟨b,h1,h2.gr g,h3⟩,λd=>by obtain⟨b,h1,h2,h3⟩:=h.e65 d;exact⟨b,h1,h2.gr g,h3⟩,h.ne,h.e66,
  λd=>by obtain⟨h0,b,h1,h2,h3⟩:=h.e67 d;exact⟨h0,b,h1,h2,h3.gr g⟩,λd=>by obtain⟨b,h1,h2,h3⟩:=h.e13 d;exact⟨b,h1,h2,h3.gr g⟩,h.d14,h.t.trans (g.touch _)⟩
def OpI(wa:World)(q p m nb:Nat)(c:Cf)(a0:Act)(D:Nat->Bool)(a:Act)(w:World):Prop:=
 ∃v55 v56 v57 v58 v59 v60 v61 v62 v63 v64 v65 v66 v67 v13:Value,a=(((((((((((((a0.put (some 55) v55).put (some 56) v56).put (some 57) v57).put (some 58) v58).put (some 59) v59).put (some 60) v60).put (some 61) v61).put (some 62) v62).put (some 63) v63).put (some 64) v64).put (some 65) v65).put (some 66) v66).put (some 67) v67).put (some 13) v13/\OpJ wa w D q p m nb c v55 v56 v57 v58 v59 v60 v61 v62 v63 v64 v65 v66 v67 v13
theorem Sl.on_next(s:Sl)(hm:mm<AC s.L)(q:Nat):s.on (λi=>decide (i<mm+1)) q=s.on (λi=>decide (i<mm)) q+(if AI s.L mm/s.pg=q then 1 else 0):=by
 have h:=Sl.on_but (s:=s) (U:=λi=>decide (i<mm+1)) (i:=mm) (q:=q) hm (by simp)
 have e:s.on (but (λi=>decide (i<mm+1)) mm) q=s.on (λi=>decide (i<mm)) q:=Sl.on_congr λj _=>by
  unfold but
  grind
 omega
theorem Y0x(hg:AS n L):L.length<=AC L:=by
 have:∀l:List Ob,(∀o∈l,1<=o.2)->l.length<=AC l:=λl=>by
  induction l with
  | nil=>simp_all
  | cons o r ih=>
   intro h;have h1:=ih (λx hx=>h x (ζB _ hx));have h2:=h o (ζu ..);simp only[ζD,AC];omega
 exact this L (λo ho=>(hg.sz o ho).1)
structure OpA(W5 A:World)(b64 b65:Nat)(v:Vm)(s:Sl)(j mm:Nat):Prop where
 t:AB (λi=>(i=b64\/i=b65)\/W5.heap.size<=i) W5 A
 sh:∃n f,BH prog 3 A b65 n f/\n<=j/\∀i (h:i<s.L.length),i<j->f (s.L[i].1:Nat)=some (AO (v.rdH (s.L[i].1:Nat)))
 wd:∃n f,BH prog 3 A b64 n f/\n<=mm/\∀q:Nat,(f (q:Nat)).getD (iI 0)=iI (s.on (λi=>decide (i<mm)) q:Nat)
theorem OpA.win{s:Sl}{K:Nat}(h:OpA W5 A b64 b65 v s j mm)(h4:b64<W5.heap.size)(h5:b65<W5.heap.size)(t:AB (λk=>W5.heap.size<=k/\k<K) A B):OpA W5 B b64 b65 v s j mm:=by
 obtain⟨n1,f1,a1,a2,a3⟩:=h.sh;obtain⟨n2,f2,c1,c2,c3⟩:=h.wd;exact⟨h.t.trans (t.mono (λi _ h=>.inr h.1)),⟨n1,f1,a1.touch t (λh=>by omega),a2,a3⟩,⟨n2,f2,c1.touch t (λh=>by omega),c2,c3⟩⟩
theorem OpA.zero{s:Sl}(h4:BH prog 3 W5 b64 0 (λ_=>none))(h5:BH prog 3 W5 b65 0 (λ_=>none)):OpA W5 W5 b64 b65 v s 0 0:=
 ⟨AB.refl _ _,⟨0,_,h5,μ _,λi _ h=>absurd h (ζ8 _)⟩,⟨0,_,h4,μ _,λq=>by
  have:s.on (λi=>decide (i<0)) q=0:=Sl.on_iff.2 (λj _ h=>by simp at h)
  simp_all⟩⟩
theorem OpA.hdr{s:Sl}(h:OpA W5 A b64 b65 v s j mm)(hj:j<s.L.length)(hne:b64≠b65)(hn:n<=j)(hf:∀i (h:i<s.L.length),i<j->f (s.L[i].1:Nat)=some (AO (v.rdH (s.L[i].1:Nat))))(_:AS s.n s.L)
  (hm:BH prog 3 B b65 (n+1) (λy=>if y=((s.L[j].1:Nat):Int)then some (AO (v.rdH (s.L[j].1:Nat)))else f y)) (t:AB (λi=>i=b65) A B):OpA W5 B b64 b65 v s (j+1) mm:=by
 obtain⟨n2,f2,c1,c2,c3⟩:=h.wd;refine⟨h.t.trans (t.mono (λi _ h=>.inl (.inr h))),⟨n+1,_,hm,by omega,λi hi hij=>?_⟩,⟨n2,f2,c1.touch t hne,c2,c3⟩⟩
 grind
theorem OpA.word{s:Sl}(h:OpA W5 A b64 b65 v s j mm)(hm:mm<AC s.L)(hne:b64≠b65)(hn:n<=mm)(hf:∀q:Nat,(f (q:Nat)).getD (iI 0)=iI (s.on (λi=>decide (i<mm)) q:Nat))
  (hx:x=s.on (λi=>decide (i<mm)) (AI s.L mm/s.pg)+1) (hM:BH prog 3 B b64 (n+1) (λy=>if y=((AI s.L mm/s.pg:Nat):Int)then some (iI x)else f y)) (t:AB (λi=>i=b64) A B):OpA W5 B b64 b65 v s j (mm+1):=by
 obtain⟨n1,f1,a1,a2,a3⟩:=h.sh;refine⟨h.t.trans (t.mono (λi _ h=>.inl (.inl h))),⟨n1,f1,a1.touch t (λe=>hne e.symm),a2,a3⟩,⟨n+1,_,hM,by omega,λq=>?_⟩⟩;rw[s.on_next hm q];by_cases e:AI s.L mm/s.pg=q
 ·simp_all
 grind
theorem VLI{w3 W7:World}{b1 b2 b61 lo:Nat}{c:Cf}{T:Nat->Prop}
  (hE2:Ext w2 m p1 b1 p2 b2 v.n L) (hg:Gr w2 w3) (hP:Pln w3 w2.heap.size p v.n c.bk c.to L) (hlo:lo<=w2.heap.size/\lo<=m/\lo<=p1/\lo<=b1/\lo<=p2/\lo<=b2)
  (t3:AB (λi=>w3.heap.size<=i) w3 W5) (hge:w3.heap.size<=y/\w3.heap.size<=b61/\w3.heap.size<=b64/\w3.heap.size<=b65) (hnb:nb=nbl (AC L) c.bk)
  (hY:Rec W5 y 213 [pP q,iI c.fr,iI c.tp,iI c.to,iI c.lm,iI c.bk,iI c.st,iI c.ah,pP p,pP m,.slice (some ⟨b61,0,none⟩) nb nb,iI nb,iI 0,iI 0,.map (some b64),.map (some b65)])
  (hO:W5.ownsRow 0 4 1 (.slice (some ⟨b61,0,none⟩) nb nb) nb (List.replicate nb (.bool false))) (h4:BH prog 3 W5 b64 0 (λ_=>none)) (h5:BH prog 3 W5 b65 0 (λ_=>none)) (hne:b64≠b65)
  (hA:OpA W5 W7 b64 b65 v (A8 v c L) L.length (AC L)) (hT:∀i,i<W5.heap.size->i≠b64->i≠b65->¬T i) (t7:AB T W5 W7):
  Cyc W7 (λb=>lo<=b/\b<W5.heap.size) y q ⟨w2.heap.size,w3.heap.size,p,m,p1,b1,p2,b2,b65,b61,nb,b64⟩ (A8 v c L):=by
 obtain⟨l1,l2,l3,l4,l5,l6⟩:=hlo;obtain⟨g1,g2,g3,g4⟩:=hge;have D:=hg.size;have s35:=t3.size;have s57:=t7.size;have hm:=hE2.hm;have M:=hE2.v1.hp;have I:=hE2.v1.hb;have O:=hE2.v2.hp;have E:=hE2.v2.hb;have J:=hY.lt;have X:=(A9 hO rfl).2;have U:=h4.lt;have V:=h5.lt;have n1:b61≠y:=AG hO hY (by decide) rfl rfl;have n2:=h4.ne (JH hY);have n3:=h5.ne (JH hY);obtain⟨Z,Y⟩:=H9 hO rfl;have n4:=h4.ne (q:=b61) ⟨Z,_,Y⟩;have n5:=h5.ne (q:=b61) ⟨Z,_,Y⟩;have G:Gr w3 W5:=(t3.mono (T:=λ_=>False) (λi hi h=>absurd hi (ξs h))).gr;obtain⟨nh,fh,a1,a2,a3⟩:=hA.sh;obtain⟨nw,fw,d1,d2,d3⟩:=hA.wd;refine⟨⟨hm,M,I,O,E,D,by show w3.heap.size<=_;omega,g1,g2,g3,g4,n1.symm,n2.symm,n3.symm,n4.symm,n5.symm,hne,⟨by omega,J⟩,⟨by show lo<=b61;omega,X⟩,⟨by show lo<=b64;omega,U⟩,⟨by show lo<=b65;omega,V⟩,⟨l2,by show m<_;omega⟩,⟨l3,by show p1<_;omega⟩,⟨l4,by show b1<_;omega⟩,⟨l5,by show p2<_;omega⟩,⟨l6,by show b2<_;omega⟩,λk h1 h2=>⟨by have:w2.heap.size<=k:=h1;omega,by have:k<w3.heap.size:=h2;omega⟩,λk hk=>by omega⟩,?_,λW tW=>hP.touch ((t3.mono (λi _ h=>.inr h)).trans ((t7.mono (λi hi h=>?_)).trans tW)) (λk h1 h2 h=>by rcases h with h|h;(have:k<w2.heap.size:=h;omega);(have:w3.heap.size<=k:=h;omega)),?_,⟨nh,fh,a1,λj hj=>a3 j hj hj⟩,⟨nw,fw,d1,?_,λqq=>?_⟩,?_⟩
 ·have h:=hY.touch t7 (hT _ J n2.symm n3.symm);rw[JnF,Q20,US];have hl:(A8 v c L).mv.length=nb:=by rw[hnb];exact ζU
  rw[hl,<-hnb];exact h
 ·right
  show w3.heap.size<=i
  refine ξQ λh'=>?_;exact hT i Ω Ω Ω h
 ·exact(((hE2.gr hg).gr G).touch t7 (hT _ Ω Ω Ω) (hT _ Ω Ω Ω) (hT _ Ω Ω Ω) (hT _ Ω Ω Ω) (hT _ Ω Ω Ω))
 ·have h1:cnt (λi=>!(A8 v c L).is i) (AC (A8 v c L).L)<=AC (A8 v c L).L:=EY _ _;have h2:nw<=AC (A8 v c L).L:=d2;omega
 ·rw[d3 qq]
  have:(A8 v c L).on (λi=>decide (i<AC L)) qq=(A8 v c L).on (λi=>!(A8 v c L).is i) qq:=Sl.on_congr λi hi=>by
   have N:i<AC L:=hi;rw[NG,φ N];rfl
  rw[this]
 ·have h:=AX hO t7 (λg hg=>by cases hg;exact hT _ X n4.symm n5.symm);have hl:(A8 v c L).mv.length=nb:=by rw[hnb];exact ζU
  have hb:bls (A8 v c L).mv=List.replicate nb (.bool false):=by
   show (List.replicate (nbl (AC L) c.bk) false).map Value.bool=_
   rw[List.map_replicate,hnb]
  rw[hl,hb];exact h
structure UmO(w8 wx:World)(S5:Nat->Prop)(q:Nat)(s:Sl)(v:Vm)(q0 j pg tp:Nat):Prop where
 t:AB S5 w8 wx
 vm:∃Sj v',(∀b,Sj b->plus S5 w8 b)/\AE wx Sj q v'/\FN s v v' q0 j
 q1:∀i,i<j->(q0+i)*pg<tp
section
variable{g:Nat}{c:Cf}
theorem VBz(hV:AE w S q v)(hR:A7 w r g rs)(hT:AQ w)(htS:¬S 1)(hrS:¬S r)(hgS:¬S g)(hcf:IY v.pl.pg v.n c)(htr:1≠g)(hin:∃L,FI v rs c.fr c.tp L)(hfit:∀L,FI v rs c.fr c.tp L->AC L<=c.lm-c.to):Calls prog 121 #[pP q,pP r,cfV c] w (SL w S q r g v rs c):=by
 have HV:=ι hV.cut;have HR:=ι hR;have HT:=ι hT;have Zc:=ι (ξ htS (ξ hrS (ξ hgS htr)));have Oi:=hT.lt;have hrl:=hR.lt;have hn2:=hV.ok.n2;have Oj:=hV.ok.page;have Nr:=ι hV.ok;have Vb:=ι hcf;have Ie:1<=v.n:=by have:=hcf.fr;have:=hcf.tp;have:=hcf.tn;omega
 have Up:rs.length≠0:=λe=>hR.ne (ζy e);have Ec:=hR.le;have hcb:c.lm<=v.n/\c.to<=c.lm/\c.fr<=c.tp/\c.tp<=v.n:=⟨hcf.ln,hcf.lm,hcf.tp,hcf.tn⟩;have Ua:=ι (λ(W:World) (gW:Gr w W)=>Y9 (hR.gr gW));have Mh:=ι (λ(W:World) (gW:Gr w W)=>QzK (hV.gr gW) hcf);have Ni:=ι (λ(W:World) (gW:Gr w W)=>YeD (c:=c) (hV.cut.gr gW) Ie (hR.gr gW) (gW.tab Oi hT) (λh=>htS h.1) hcf.st hin);unfold cfV at Mh Ni⊢;obtain⟨n,Vz⟩:=ε rs.length;have HN:=ι Vz;rw[<-Vz]at Up Ec Ua;have d0:((n:Int)==0)=false:=by simp;omega
 have Ow:=ι (((Gr.refl w).alloc (.cells #[.pointer (some ⟨q,0,none⟩)] 99)).alloc (.cells #[.int .i64 c.fr,.int .i64 c.tp,.int .i64 c.to,.int .i64 c.lm,.int .i64 c.bk,.int .i64 c.st,.int .i64 c.ah] 113));have Mm:=(Rec.new w 99 [pP q]).gr ((Gr.refl _).alloc (.cells #[.int .i64 c.fr,.int .i64 c.tp,.int .i64 c.to,.int .i64 c.lm,.int .i64 c.bk,.int .i64 c.st,.int .i64 c.ah] 113));have Nz:=MD w (.cells #[.pointer (some ⟨q,0,none⟩)] 99) 113 [.int .i64 c.fr,.int .i64 c.tp,.int .i64 c.to,.int .i64 c.lm,.int .i64 c.bk,.int .i64 c.st,.int .i64 c.ah];obtain⟨W0,Ze⟩:=ε ((w.alloc (.cells #[.pointer (some ⟨q,0,none⟩)] 99)).alloc (.cells #[.int .i64 c.fr,.int .i64 c.tp,.int .i64 c.to,.int .i64 c.lm,.int .i64 c.bk,.int .i64 c.st,.int .i64 c.ah] 113));have Ub:W0.heap.size=w.heap.size+2:=by rw[Ze];simp only[π]
 have Vc:Hid (Rec W0 w.heap.size 99 [pP q]):=⟨by rw[Ze];exact Mm⟩;have Ye:Hid (Rec W0 (w.heap.size+1) 113 [.int .i64 c.fr,.int .i64 c.tp,.int .i64 c.to,.int .i64 c.lm,.int .i64 c.bk,.int .i64 c.st,.int .i64 c.ah]):=⟨by rw[Ze];exact Nz⟩;have Vl:Hid (Gr w W0):=⟨by rw[Ze];exact Ow.o⟩;have HS0:=ι Ub;clear hV hR hT htS hrS hgS htr hcf Vz Mm Nz Ow Ub;refine(γ (n:=5)).1 ?_;refine callsIn_of_wp_marks func121 rfl trivial ?_ rfl;simp only[ntmps121,ζ3,ζD,ξf,Nat.reduceAdd,Nat.reduceSub,ζR,ζQ,ζ9,ζZ,ζ4,ζv];gi_upto_region 1 with(fail);rw[<-Ze];clear Ze;have z3:=Vc.o.cc 0;have Vj:=Ye.o.cc 0;have Vw:=Ye.o.cc 1;have Zs:=Ye.o.cc 2;have Vi:=Ye.o.cc 3;have Ja:=Ye.o.cc 4;have Vv:=Ye.o.cc 5;have Uw:=Ye.o.cc 6;have Vr:=Vc.o.lt;have Jb:=Ye.o.lt
 gi_upto_region 6 with(first|(refine⟨trivial,?_⟩;gi_at_call 183;refine(γ.2 (Ua.o _ Vl.o)).mono ?_;rintro e w1 ⟨rfl,rfl⟩)|(refine⟨trivial,?_⟩;gi_at_call 184;refine(γ.2 (Mh.o _ Vl.o)).mono ?_;rintro e w1 ⟨rfl,Jf⟩;have Yj:=ι (Vl.o.trans Jf);have Zx:=ι (Vc.o.gr Jf);have Xp:=ι (Ye.o.gr Jf);clear Jf))
 clear z3 Vj Vw Zs Vi Ja Vv Uw Vr Jb;have z3:=Zx.o.cc 0;have Vj:=Xp.o.cc 0;have Vw:=Xp.o.cc 1;have Zs:=Xp.o.cc 2;have Vi:=Xp.o.cc 3;have Ja:=Xp.o.cc 4;have Vv:=Xp.o.cc 5;have Uw:=Xp.o.cc 6;have Vr:=Zx.o.lt;have Jb:=Xp.o.lt;have Op:=Yj.o.size;gi_upto_region 7 with(refine⟨trivial,?_⟩;gi_at_call 185;refine(γ.2 (Ni.o _ Yj.o)).mono ?_;rintro e w2 ⟨Oc,Nt,L,m,p1,b1,p2,b2,hI,rfl,hE,Oq,Nh,On,Za,Zi⟩;(have Zb:=ι Oc;have Ej:=ι Nt;clear Oc Nt))
 ·clear z3 Vj Vw Zs Vi Ja Vv Uw Vr Jb;have HI:=ι hI;have HX:=ι hE;have Zz:=ι (ξ Oq (ξ Nh (ξ On (ξ Za Zi))));clear hI hE Oq Nh On Za Zi;have Jq:=ι (Zx.o.touch Zb.o (λh=>by have:=h.2;omega));have Yx:=ι (Xp.o.touch Zb.o (λh=>by have:=h.2;omega));have Yh:Hid (AQ w2):=⟨(Yj.o.tab Oi HT.o).touch' Zb.o (λh=>Zc.o.1 h.1)⟩;have Eg:=ι (Qkw HX.o Yh.o Vb.o.bk (base:=c.to) Ω);have z3:=Jq.o.cc 0;have Zs:=Yx.o.cc 2;have Ja:=Yx.o.cc 4;have Jb:=Yx.o.lt;have El:=Zb.o.size;gi_upto_region 10 with(refine⟨trivial,?_⟩;gi_at_call 186;refine(γ.2 (Eg.o)).mono ?_;rintro e w3 ⟨p,rfl,Nb,hP⟩;have Xy:=ι Nb;have Uy:=ι hP;clear Nb hP);clear z3 Zs Ja Jb;have Ya:=ι (Jq.o.gr Xy.o);have I:=ι (Yx.o.gr Xy.o);obtain⟨Vp,Ek,Il,f,c0,c1,hF⟩:=Uy.o;have Ig:=ι (λ(W:World) (gW:Gr w3 W)=>UG ((gW.cell Vp 0).trans c0));have Me:=ι (λ(W:World) (gW:Gr w3 W)=>Q14 (hF.gr gW));obtain⟨N,hN⟩:=ε (AC L);have Je:=ι hN;have hNb:N<=1048576:=by rw[hN];have:=GJ HX.o.good;omega
  rw[<-hN]at Me;have x3:=I.o.cc 3;have x2:=I.o.cc 2;have xl:=I.o.lt;have hpl:=Vp;clear Vp Ek Il c0 c1 hF hN;by_cases Um:c.lm-c.to<N
  ·exact absurd (hfit L HI.o) (by have:=Je.o;omega)
  ·have d9:decide ((c.lm:Int)-(c.to:Int)<(N:Int))=false:=ζ Ω;have Jm:=ι Um;clear Um;obtain⟨Sx,Y,HS⟩:=AA.start λW'=>W'.cell? ⟨w.heap.size+1,3,none⟩=some (.int .i64 c.lm)/\W'.cell? ⟨w.heap.size+1,2,none⟩=some (.int .i64 c.to);have y1:=AA.fact Y λ_ h=>h.1;have y2:=AA.fact Y λ_ h=>h.2;have U:=HS.o (w3.drew) (⟨x3,x2⟩);have M:Inhabited (AA Sx):=⟨⟨_,U⟩⟩;clear Y;refine IK Sx 9 [([0,3,4,5,6,7],1),([],2)] [8] IQ U ?_;refine E3 ?_;gi_wp2_with((refine⟨trivial,?_⟩;gi_at_call 187;refine(γ.2 (Ig.o _ (Gr.refl w3).drew)).mono ?_;rintro e w4 ⟨rfl,rfl⟩));refine⟨.inr (AA.of (HS.o _ (⟨x3,x2⟩))),?_⟩;refine E3 ?_;gi_wp2_with((refine⟨trivial,?_⟩;gi_at_call 188;refine(γ.2 (Me.o _ (Gr.refl w3).drew)).mono ?_;rintro e w4 ⟨rfl,rfl⟩));refine⟨.inr (AA.of (HS.o _ (⟨x3,x2⟩))),?_⟩;refine IB ?_;clear y1 y2 U M;clear HS Sx;clear x3 x2 xl;gi_upto_region 12 with(fail);obtain⟨nb,Va⟩:=ε (nbl (AC L) c.bk);have Es:=ι Va
   have hnbb:nb<=1048576:=by
    have:=Vb.o.bk;have h1:=DR this;have h2:=NB (n:=AC L) (B:=c.bk) Ω;have h3:=Je.o;omega
   have Zh:=ι (λ(W:World) (gW:Gr w3 W)=>ZE (Uy.o.gr gW));rw[<-Va]at Zh;clear Va;have HTW:Hid (∀(W:World),AB (λi=>w3.drew.heap.size<=i) w3.drew W->Gr w3 W):=⟨λW t=>(Gr.refl w3).drew.trans (t.mono (T:=λ_=>False) (λi hi h=>absurd hi (ξs h))).gr⟩;have x3:=Ya.o.cc 0;have Mj:=I.o.cc 0;have No:=I.o.cc 1;have Na:=I.o.cc 2;have Nv:=I.o.cc 3;have Ny:=I.o.cc 4;have Ot:=I.o.cc 5;have Nq:=I.o.cc 6;obtain⟨Sx,Y⟩:=ε (λW'=>(W'.cell? ⟨w.heap.size,0,none⟩=some (pP q)/\W'.cell? ⟨w.heap.size+1,0,none⟩=some (.int .i64 c.fr))/\(W'.cell? ⟨w.heap.size+1,1,none⟩=some (.int .i64 c.tp)/\W'.cell? ⟨w.heap.size+1,2,none⟩=some (.int .i64 c.to))/\(W'.cell? ⟨w.heap.size+1,3,none⟩=some (.int .i64 c.lm)/\W'.cell? ⟨w.heap.size+1,4,none⟩=some (.int .i64 c.bk))/\W'.cell? ⟨w.heap.size+1,5,none⟩=some (.int .i64 c.st)/\W'.cell? ⟨w.heap.size+1,6,none⟩=some (.int .i64 c.ah):World->Prop);have y3:∀p':AA Sx,p'.w.cell? ⟨w.heap.size,0,none⟩=some (pP q):=λp=>(AA.get Y p).1.1;have Em:∀p':AA Sx,p'.w.cell? ⟨w.heap.size+1,0,none⟩=some (.int .i64 c.fr):=λp=>(AA.get Y p).1.2;have En:∀p':AA Sx,p'.w.cell? ⟨w.heap.size+1,1,none⟩=some (.int .i64 c.tp):=λp=>(AA.get Y p).2.1.1;have Ed:∀p':AA Sx,p'.w.cell? ⟨w.heap.size+1,2,none⟩=some (.int .i64 c.to):=λp=>(AA.get Y p).2.1.2;have La:∀p':AA Sx,p'.w.cell? ⟨w.heap.size+1,3,none⟩=some (.int .i64 c.lm):=λp=>(AA.get Y p).2.2.1.1;have Le:∀p':AA Sx,p'.w.cell? ⟨w.heap.size+1,4,none⟩=some (.int .i64 c.bk):=λp=>(AA.get Y p).2.2.1.2;have Ip:∀p':AA Sx,p'.w.cell? ⟨w.heap.size+1,5,none⟩=some (.int .i64 c.st):=λp=>(AA.get Y p).2.2.2.1;have Ee:∀p':AA Sx,p'.w.cell? ⟨w.heap.size+1,6,none⟩=some (.int .i64 c.ah):=λp=>(AA.get Y p).2.2.2.2;have Im:=ι Y
   have Uu:Hid (∀W,Gr w3 W->∃p:AA Sx,W=p.w):=⟨λW gW=>by
    have l3:=Ya.o.lt;have l5:=I.o.lt;refine AA.of ?_;rw[Im.o]
    exact⟨⟨(gW.cell l3 0).trans x3,(gW.cell l5 0).trans Mj⟩,⟨(gW.cell l5 1).trans No,(gW.cell l5 2).trans Na⟩,⟨(gW.cell l5 3).trans Nv,(gW.cell l5 4).trans Ny⟩,(gW.cell l5 5).trans Ot,(gW.cell l5 6).trans Nq⟩⟩
   have Yd:Hid (∀W,AB (λi=>w3.heap.size<=i) w3 W->∃p:AA Sx,W=p.w):=⟨λW tW=>Uu.o W ((tW.mono (T:=λ_=>False) (λi hi h=>absurd hi (ξs h))).gr)⟩;have Xe:Hid (∀W,AB (λi=>w3.heap.size<=i) w3 W->Gr w3 W):=⟨λW tW=>(tW.mono (T:=λ_=>False) (λi hi h=>absurd hi (ξs h))).gr⟩;obtain⟨i0,Ev,Iv,Op,Nf⟩:=info_parts ZHF;have Eh:Hid (i0.bytes*nb<=281474976710656):=⟨by rw[Nf];omega⟩;have Ef:Hid (nb<=maxLen):=⟨by unfold maxLen;omega⟩;have Ou:Hid (nb*1<=16777216):=⟨by omega⟩;have U:Sx w3.drew:=by obtain⟨p,hp⟩:=Uu.o _ (Gr.refl w3).drew;rw[hp];exact p.h
   have M:Inhabited (AA Sx):=⟨⟨_,U⟩⟩;have Os:Sx w3.drew.drew:=by obtain⟨p,hp⟩:=Uu.o _ ((Gr.refl w3).drew.drew);rw[hp];exact p.h
   clear Y x3 Mj No Na Nv Ny Ot Nq;refine VMF Sx [0,1,2,3,4,7] #[true,true,true,true,true,false,false,true,false,false,false,false,false,false,false] [(5,[]),(6,[5]),(8,[5]),(9,[]),(10,[]),(11,[6,8,9,10]),(12,[11]),(13,[]),(14,[12,13])] (OpI w3 q p m nb c) IQ (by kernel_rfl) (by kernel_rfl) Os ?_ ⟨?_,?_,?_,?_,?_,?_,?_,?_,?_,trivial⟩ ?_
   ·refine Qy5 ?_;refine⟨pP q,.agg #[.int .i64 c.fr,.int .i64 c.tp,.int .i64 c.to,.int .i64 c.lm,.int .i64 c.bk,.int .i64 c.st,.int .i64 c.ah],pP p,pP m,pP p,undef,undef,pP p,undef,undef,undef,undef,undef,undef,by simp only[Act.put,η,ζi,ζf],?_⟩;refine⟨rfl,rfl,rfl,rfl,rfl,rfl,(λh=>by cases h),(λh=>by cases h),(λh=>by cases h),(λh=>by cases h),(λh=>by cases h),(λh=>by cases h),(λh=>by cases h),(λh=>by cases h),(λh=>by cases h),(λh=>by cases h),?_⟩;exact((Gr.refl w3).drew.drew).touch _
   ·rintro D a W ⟨Xi,Xj,Xh,Xg,Xa,Xf,Xn,E,Xl,Xm,Xk,Xc,Xd,Xb,rfl,hJ⟩ O hk hd;clear O;simp only[AF,υ,ν,Act.put,η,ζi,ζf];have HJ:=ι hJ;have HK:=ι hk;have HD:=ι hd;have Xo:=ι (Xe.o W hJ.t);obtain rfl:=hJ.e59;clear hJ hk hd;gi_wp2_with(refine⟨trivial,?_⟩;gi_at_call 189;refine(γ.2 (Zh.o W Xo.o)).mono ?_;rintro e w4 ⟨rfl,G⟩);refine⟨Yd.o _ ?_,Xi,Xj,Xh,Xg,pP p,.int .i64 nb,Xn,E,Xl,Xm,Xk,Xc,Xd,Xb,by simp only[Act.put,η,ζi,ζf],?_⟩
    ·exact HJ.o.t.trans (G.touch _)
    ·have X:=HJ.o.gr G;have hk:=HK.o;have hd:=HD.o;exact⟨X.e55,X.e56,X.e57,X.e58,X.e59,X.e62,(λ_=>rfl),X.e61,X.e63,X.e64,X.e65,X.ne,X.e66,X.e67,X.e13,X.d14,X.t⟩
   ·rintro D a W ⟨Xi,Xj,Xh,Xg,Xa,Xf,Xn,E,Xl,Xm,Xk,Xc,Xd,Xb,rfl,hJ⟩ O hk hd;clear O;simp only[AF,υ,ν,Act.put,η,ζi,ζf];have HJ:=ι hJ;have HK:=ι hk;have HD:=ι hd;have Xo:=ι (Xe.o W hJ.t);obtain rfl:=hJ.e60 (hd 5 (by simp));clear hJ hk hd;gi_wp2_with(gi_at_make;refine V63 _ rfl _ _ 210 rfl 0 4 i0 (.bool false) 1 underlying210 Ev Iv Op .i64 .i64 nb rfl rfl Ou.o Eh.o Ef.o (ζe _) ?_;intro w4 Zy Zt);have G:Gr W w4:=(LL Zt (λ_=>False) (λk e _=>by cases e)).gr;rw[show (Value.bool false).cells=#[.bool false]from rfl,J0U,ξF]at Zy;have Er:=ι Zy;clear Zy Zt;gi_wp2;refine⟨Yd.o _ ?_,Xi,Xj,Xh,Xg,Xa,.int .i64 nb,.slice (some ⟨W.heap.size,0,none⟩) nb nb,E,Xl,Xm,Xk,Xc,Xd,Xb,by simp only[Act.put,η,ζi,ζf],?_⟩
    ·exact HJ.o.t.trans (G.touch _)
    ·have X:=HJ.o.gr G;have hk:=HK.o;have hd:=HD.o;exact⟨X.e55,X.e56,X.e57,X.e58,X.e59,X.e62,X.e60,(λ_=>⟨W.heap.size,rfl,Er.o,Xo.o.size⟩),X.e63,X.e64,X.e65,X.ne,(λd=>by have h:=(HJ.o.e66 d).1;rw[hk]at h;cases h),(λd=>by have h:=(HJ.o.e66 (HJ.o.e67 d).1).1;rw[hk]at h;cases h),X.e13,X.d14,X.t⟩
   ·rintro D a W ⟨Xi,Xj,Xh,Xg,Xa,Xf,Xn,E,Xl,Xm,Xk,Xc,Xd,Xb,rfl,hJ⟩ O hk hd;clear O;simp only[AF,υ,ν,Act.put,η,ζi,ζf];have HJ:=ι hJ;have HK:=ι hk;have HD:=ι hd;have Xo:=ι (Xe.o W hJ.t);obtain rfl:=hJ.e62;clear hJ hk hd;gi_wp2_with(refine⟨trivial,?_⟩;gi_at_call 189;refine(γ.2 (Zh.o W Xo.o)).mono ?_;rintro e w4 ⟨rfl,G⟩);refine⟨Yd.o _ ?_,Xi,Xj,Xh,Xg,Xa,Xf,Xn,pP p,.int .i64 nb,Xm,Xk,Xc,Xd,Xb,by simp only[Act.put,η,ζi,ζf],?_⟩
    ·exact HJ.o.t.trans (G.touch _)
    ·have X:=HJ.o.gr G;have hk:=HK.o;have hd:=HD.o;exact⟨X.e55,X.e56,X.e57,X.e58,X.e59,X.e62,X.e60,X.e61,(λ_=>rfl),X.e64,X.e65,X.ne,(λd=>by have h:=(HJ.o.e66 d).2.1;rw[hk]at h;cases h),(λd=>by have h:=(HJ.o.e66 (HJ.o.e67 d).1).2.1;rw[hk]at h;cases h),X.e13,X.d14,X.t⟩
   ·rintro D a W ⟨Xi,Xj,Xh,Xg,Xa,Xf,Xn,E,Xl,Xm,Xk,Xc,Xd,Xb,rfl,hJ⟩ O hk hd;clear O;simp only[AF,υ,ν,Act.put,η,ζi,ζf];have HJ:=ι hJ;have HK:=ι hk;have HD:=ι hd;have Xo:=ι (Xe.o W hJ.t);clear hJ hk hd;refine Ya9 W rfl _ rfl ?_;gi_wp2;have G:Gr W (W.alloc (.map #[] 0)):=(Gr.refl W).alloc _;refine⟨Yd.o _ ?_,Xi,Xj,Xh,Xg,Xa,Xf,Xn,E,Xl,.map (some W.heap.size),Xk,Xc,Xd,Xb,by simp only[Act.put,η,ζi,ζf],?_⟩
    ·exact HJ.o.t.trans (G.touch _)
    ·have X:=HJ.o.gr G;have hk:=HK.o;have hd:=HD.o;exact⟨X.e55,X.e56,X.e57,X.e58,X.e59,X.e62,X.e60,X.e61,X.e63,(λ_=>⟨W.heap.size,rfl,BH.made W,Xo.o.size⟩),X.e65,(λ_ d e=>by obtain⟨b,h1,h2,-⟩:=HJ.o.e65 d;rw[h1]at e;have:=h2.lt;simp only[Value.map.injEq,Option.some.injEq]at e;omega),(λd=>by have h:=(HJ.o.e66 d).2.2.1;rw[hk]at h;cases h),(λd=>by have h:=(HJ.o.e66 (HJ.o.e67 d).1).2.2.1;rw[hk]at h;cases h),X.e13,X.d14,X.t⟩
   ·rintro D a W ⟨Xi,Xj,Xh,Xg,Xa,Xf,Xn,E,Xl,Xm,Xk,Xc,Xd,Xb,rfl,hJ⟩ O hk hd;clear O;simp only[AF,υ,ν,Act.put,η,ζi,ζf];have HJ:=ι hJ;have HK:=ι hk;have HD:=ι hd;have Xo:=ι (Xe.o W hJ.t);clear hJ hk hd;refine Ya9 W rfl _ rfl ?_;gi_wp2;have G:Gr W (W.alloc (.map #[] 0)):=(Gr.refl W).alloc _;refine⟨Yd.o _ ?_,Xi,Xj,Xh,Xg,Xa,Xf,Xn,E,Xl,Xm,.map (some W.heap.size),Xc,Xd,Xb,by simp only[Act.put,η,ζi,ζf],?_⟩
    ·exact HJ.o.t.trans (G.touch _)
    ·have X:=HJ.o.gr G;have hk:=HK.o;have hd:=HD.o;exact⟨X.e55,X.e56,X.e57,X.e58,X.e59,X.e62,X.e60,X.e61,X.e63,X.e64,(λ_=>⟨W.heap.size,rfl,BH.made W,Xo.o.size⟩),(λd _ e=>by obtain⟨b,h1,h2,-⟩:=HJ.o.e64 d;rw[h1]at e;have:=h2.lt;simp only[Value.map.injEq,Option.some.injEq]at e;omega),(λd=>by have h:=(HJ.o.e66 d).2.2.2.1;rw[hk]at h;cases h),(λd=>by have h:=(HJ.o.e66 (HJ.o.e67 d).1).2.2.2.1;rw[hk]at h;cases h),X.e13,X.d14,X.t⟩
   ·rintro D a W ⟨Xi,Xj,Xh,Xg,Xa,Xf,Xn,E,Xl,Xm,Xk,Xc,Xd,Xb,rfl,hJ⟩ O hk hd;clear O;simp only[AF,υ,ν,Act.put,η,ζi,ζf];have HJ:=ι hJ;have HK:=ι hk;have HD:=ι hd;have Xo:=ι (Xe.o W hJ.t);obtain rfl:=hJ.e56;obtain rfl:=hJ.e55;obtain rfl:=hJ.e57;obtain rfl:=hJ.e58;obtain rfl:=hJ.e63 (hd 8 (by simp));obtain⟨Yc,rfl,-,-⟩:=hJ.e61 (hd 6 (by simp));obtain⟨Z,rfl,-,-⟩:=hJ.e64 (hd 9 (by simp));obtain⟨J,rfl,-,-⟩:=hJ.e65 (hd 10 (by simp));clear hJ hk hd;gi_wp2;have G:Gr W W:=Gr.refl W;refine⟨Yd.o _ ?_,pP q,.agg #[.int .i64 c.fr,.int .i64 c.tp,.int .i64 c.to,.int .i64 c.lm,.int .i64 c.bk,.int .i64 c.st,.int .i64 c.ah],pP p,pP m,Xa,Xf,.slice (some ⟨Yc,0,none⟩) nb nb,E,.int .i64 nb,.map (some Z),.map (some J),.agg #[pP q,.int .i64 c.fr,.int .i64 c.tp,.int .i64 c.to,.int .i64 c.lm,.int .i64 c.bk,.int .i64 c.st,.int .i64 c.ah,pP p,pP m,.slice (some ⟨Yc,0,none⟩) nb nb,.int .i64 nb,.int .i64 0,.int .i64 0,.map (some Z),.map (some J)],Xd,Xb,by simp only[Act.put,η,ζi,ζf],?_⟩
    ·exact HJ.o.t.trans (G.touch _)
    ·have X:=HJ.o.gr G;have hk:=HK.o;have hd:=HD.o;exact⟨X.e55,X.e56,X.e57,X.e58,X.e59,X.e62,X.e60,X.e61,X.e63,X.e64,X.e65,X.ne,(λ_=>⟨hd 6 (by simp),hd 8 (by simp),hd 9 (by simp),hd 10 (by simp),rfl⟩),(λd=>by have h:=(HJ.o.e67 d).1;rw[hk]at h;cases h),X.e13,X.d14,X.t⟩
   ·rintro D a W ⟨Xi,Xj,Xh,Xg,Xa,Xf,Xn,E,Xl,Xm,Xk,Xc,Xd,Xb,rfl,hJ⟩ O hk hd;clear O;simp only[AF,υ,ν,Act.put,η,ζi,ζf];have HJ:=ι hJ;have HK:=ι hk;have HD:=ι hd;have Xo:=ι (Xe.o W hJ.t);obtain⟨d6,d8,Nk,Ia,rfl⟩:=hJ.e66 (hd 11 (by simp));obtain rfl:=hJ.e56;obtain rfl:=hJ.e55;obtain rfl:=hJ.e57;obtain rfl:=hJ.e58;obtain rfl:=hJ.e63 d8;obtain⟨Yc,rfl,-,-⟩:=hJ.e61 d6;obtain⟨Z,rfl,-,-⟩:=hJ.e64 Nk;obtain⟨J,rfl,-,-⟩:=hJ.e65 Ia;have Uq:=ι (Rec.new W 213 [pP q,.int .i64 c.fr,.int .i64 c.tp,.int .i64 c.to,.int .i64 c.lm,.int .i64 c.bk,.int .i64 c.st,.int .i64 c.ah,pP p,pP m,.slice (some ⟨Yc,0,none⟩) nb nb,.int .i64 nb,.int .i64 0,.int .i64 0,.map (some Z),.map (some J)]);have Zl:=ι ((Gr.refl W).alloc (.cells #[.pointer (some ⟨q,0,none⟩),.int .i64 c.fr,.int .i64 c.tp,.int .i64 c.to,.int .i64 c.lm,.int .i64 c.bk,.int .i64 c.st,.int .i64 c.ah,.pointer (some ⟨p,0,none⟩),.pointer (some ⟨m,0,none⟩),.slice (some ⟨Yc,0,none⟩) nb nb,.int .i64 nb,.int .i64 0,.int .i64 0,.map (some Z),.map (some J)] 213));clear d6 d8 Nk Ia;clear hJ hk hd;gi_wp2;refine⟨Yd.o _ ?_,pP q,.agg #[.int .i64 c.fr,.int .i64 c.tp,.int .i64 c.to,.int .i64 c.lm,.int .i64 c.bk,.int .i64 c.st,.int .i64 c.ah],pP p,pP m,Xa,Xf,.slice (some ⟨Yc,0,none⟩) nb nb,E,.int .i64 nb,.map (some Z),.map (some J),.agg #[pP q,.int .i64 c.fr,.int .i64 c.tp,.int .i64 c.to,.int .i64 c.lm,.int .i64 c.bk,.int .i64 c.st,.int .i64 c.ah,pP p,pP m,.slice (some ⟨Yc,0,none⟩) nb nb,.int .i64 nb,.int .i64 0,.int .i64 0,.map (some Z),.map (some J)],pP W.heap.size,Xb,by simp only[Act.put,η,ζi,ζf],?_⟩
    ·exact HJ.o.t.trans (Zl.o.touch _)
    ·have X:=HJ.o.gr Zl.o;have hk:=HK.o;have hd:=HD.o;exact⟨X.e55,X.e56,X.e57,X.e58,X.e59,X.e62,X.e60,X.e61,X.e63,X.e64,X.e65,X.ne,X.e66,(λ_=>⟨hd 11 (by simp),W.heap.size,rfl,Xo.o.size,Uq.o⟩),(λd=>by obtain⟨b,h1,h2,h3⟩:=X.e13 d;refine⟨b,h1,h2,?_⟩;cases h14:D 14 with|true=>(have:=(HJ.o.d14 h14).1;rw[hk]at this;cases this)|false=>(have e:upD D 12 14=false:=h14;rw[h14]at h3;rw[e];exact h3)),(λd=>⟨rfl,(X.d14 d).2⟩),X.t⟩
   ·rintro D a W ⟨Xi,Xj,Xh,Xg,Xa,Xf,Xn,E,Xl,Xm,Xk,Xc,Xd,Xb,rfl,hJ⟩ O hk hd;clear O;simp only[AF,υ,ν,Act.put,η,ζi,ζf];have HJ:=ι hJ;have HK:=ι hk;have HD:=ι hd;have Xo:=ι (Xe.o W hJ.t);have Uq:=ι (Rec.new W 102 [.pointer none]);have Zl:=ι ((Gr.refl W).alloc (.cells #[.pointer none] 102));clear hJ hk hd;gi_wp2;refine⟨Yd.o _ ?_,Xi,Xj,Xh,Xg,Xa,Xf,Xn,E,Xl,Xm,Xk,Xc,Xd,pP W.heap.size,by simp only[Act.put,η,ζi,ζf],?_⟩
    ·exact HJ.o.t.trans (Zl.o.touch _)
    ·have X:=HJ.o.gr Zl.o;have hk:=HK.o;have hd:=HD.o;exact⟨X.e55,X.e56,X.e57,X.e58,X.e59,X.e62,X.e60,X.e61,X.e63,X.e64,X.e65,X.ne,X.e66,X.e67,(λ_=>⟨W.heap.size,rfl,Xo.o.size,by cases h14:D 14 with|true=>(have:=(HJ.o.d14 h14).2;rw[hk]at this;cases this)|false=>(have e:upD D 13 14=false:=h14;rw[e];exact Uq.o)⟩),(λd=>⟨(X.d14 d).1,rfl⟩),X.t⟩
   ·rintro D a W ⟨Xi,Xj,Xh,Xg,Xa,Xf,Xn,E,Xl,Xm,Xk,Xc,Xd,Xb,rfl,hJ⟩ O hk hd;clear O;simp only[AF,υ,ν,Act.put,η,ζi,ζf];have HJ:=ι hJ;have HK:=ι hk;have HD:=ι hd;obtain⟨Yq,rfl,Un,Xz⟩:=hJ.e13 (hd 13 (by simp));obtain⟨In,Jg,rfl,Mu,Mg⟩:=hJ.e67 (hd 12 (by simp));have Yf:=ι Xz;rw[hk]at Xz;have q0:=Xz.cc 0;have qf:=Xz.free 0;have ql:=Xz.lt;have Jn:=ι Un;clear hJ hk hd Xz Mg In Mu Un;gi_wp2;have tS:AB (λi=>i=Yq) W (W.setCell ⟨Yq,0,none⟩ (.pointer (some ⟨Jg,0,none⟩))):=(AB.refl (λi=>i=Yq) W).setCell (a:=⟨Yq,0,none⟩) (λ_=>rfl) _;have Ez:=Yf.o.set 0 (pP Jg);have tT:AB (λi=>w3.heap.size<=i) w3 (W.setCell ⟨Yq,0,none⟩ (.pointer (some ⟨Jg,0,none⟩))):=HJ.o.t.trans (tS.mono (λi _ h=>by rw[h];exact Jn.o));have hJ:=HJ.o;refine⟨Yd.o _ tT,Xi,Xj,Xh,Xg,Xa,Xf,Xn,E,Xl,Xm,Xk,Xc,pP Jg,pP Yq,by simp only[Act.put,η,ζi,ζf],?_⟩;exact⟨hJ.e55,hJ.e56,hJ.e57,hJ.e58,hJ.e59,hJ.e62,hJ.e60,(λd=>by obtain⟨b,h1,h2,h3⟩:=hJ.e61 d;exact⟨b,h1,AX h2 tS (λg' hg=>by rw[h1]at hg;cases hg;exact AG (by rw[h1]at h2;exact h2) Yf.o (by decide) rfl rfl),h3⟩),hJ.e63,(λd=>by obtain⟨b,h1,h2,h3⟩:=hJ.e64 d;exact⟨b,h1,h2.touch tS (h2.ne (JH Yf.o)),h3⟩),(λd=>by obtain⟨b,h1,h2,h3⟩:=hJ.e65 d;exact⟨b,h1,h2.touch tS (h2.ne (JH Yf.o)),h3⟩),hJ.ne,hJ.e66,(λd=>by obtain⟨h0,b,h1,h2,h3⟩:=hJ.e67 d;exact⟨h0,b,h1,h2,h3.touch tS (AG h3 Yf.o (by decide) rfl rfl)⟩),(λ_=>⟨Yq,rfl,Jn.o,Ez⟩),(λ_=>⟨HD.o 12 (by simp),HD.o 13 (by simp)⟩),tT⟩
   ·rintro D a W ⟨Xi,Xj,Xh,Xg,Xa,Xf,Xn,E,Xl,Xm,Xk,Xc,Xd,Xb,rfl,hJ⟩ O Jx;clear O;have V:∀j,j<15->D j=true:=Jx;obtain⟨Yc,rfl,Uc,Jv⟩:=hJ.e61 (V 6 Ω);obtain rfl:=hJ.e60 (V 5 Ω);obtain rfl:=hJ.e63 (V 8 Ω);obtain⟨Z,rfl,Jt,Jk⟩:=hJ.e64 (V 9 Ω);obtain⟨J,rfl,Ug,Jw⟩:=hJ.e65 (V 10 Ω);obtain⟨-,-,-,-,rfl⟩:=hJ.e66 (V 11 Ω);obtain⟨-,y,rfl,Or,Mi⟩:=hJ.e67 (V 12 Ω);obtain⟨bx,rfl,Mq,Vn⟩:=hJ.e13 (V 13 Ω);rw[V 14 Ω]at Vn;obtain rfl:=hJ.e55;obtain rfl:=hJ.e56;obtain rfl:=hJ.e57;obtain rfl:=hJ.e58;obtain rfl:=hJ.e59;obtain rfl:=hJ.e62;have Jl:Z≠J:=λe=>hJ.ne (V 9 Ω) (V 10 Ω) (by rw[e]);have Jh:=ι hJ.t;have Oh:=ι Uc;have Yl:=ι Jt;have Yi:=ι Ug;have Zv:=ι Mi;have Yo:=ι Vn;have Iz:=ι (ξ Jv (ξ Jk (ξ Jw (ξ Or (ξ Mq Jl)))));clear hJ Jx V Uc Jv Jt Jk Ug Jw Or Mi Mq Vn Jl;refine ζx ?_;simp only[Act.put,η,ζi,ζf];clear y3 Em En Ed La Le Ip Ee U M Os;have hzW:=Jh.o.size;have HG3W:Hid (Gr w3 W):=⟨Xe.o W Jh.o⟩;have Vx:=Yo.o.cc 0;have Uz:=Yo.o.lt;gi_wp2_with(refine⟨trivial,?_⟩;gi_at_call 135;refine(γ.2 (LO (some ⟨m,0,none⟩))).mono ?_;rintro e w5 ⟨rfl,rfl⟩);obtain⟨W5,Zw⟩:=ε (W.alloc (.cells #[.pointer (some ⟨m,0,none⟩)] 137));have Xu:Gr W W5:=by rw[Zw];exact(Gr.refl W).alloc _
    have hs5:W5.heap.size=W.heap.size+1:=by rw[Zw,π]
    have k5:W5.cell? ⟨W.heap.size,0,none⟩=some (pP m):=by rw[Zw];exact(Boxed.new W 137 (pP m)).cell
    rw[<-Zw];clear Zw Vx Uz;obtain⟨Id,Iq,Ew,gy,gx,Up⟩:=Iz.o;have l64:=Yl.o.lt;have l65:=Yi.o.lt;have ly:=Zv.o.lt;have lx:=Yo.o.lt;have n64y:=Yl.o.ne (JH Zv.o);have n65y:=Yi.o.ne (JH Zv.o);have n64x:=Yl.o.ne (JH Yo.o);have n65x:=Yi.o.ne (JH Yo.o);have hml:=HX.o.hm;have hp1l:=HX.o.v1.hp;have hb1l:=HX.o.v1.hb;have hp2l:=HX.o.v2.hp;have hb2l:=HX.o.v2.hb;have hz3:=Xy.o.size;obtain⟨s,Zo⟩:=ε (A8 v c L);have Vo:s.L=L:=by rw[Zo];rfl
    have Jo:s.pg=v.pl.pg:=by rw[Zo];rfl
    have Vu:s.n=v.n:=by rw[Zo];rfl
    have Zf:=ι (ξ Vo (ξ Jo (ξ Vu Zo)));have Oy:Hid (AS s.n s.L):=⟨by rw[Vu,Vo];exact HX.o.good⟩;have If:=ι (Ej.o.gr Xy.o);have Yp:Hid (∀A,AB (λi=>(i=Z\/i=J)\/W5.heap.size<=i) W5 A->AB (λi=>w3.heap.size<=i) w3 A):=⟨λA t=>(Jh.o.trans (Xu.touch _)).trans (t.mono (λi _ h=>by omega))⟩
    have HK:Hid (∀A,AB (λi=>(i=Z\/i=J)\/W5.heap.size<=i) W5 A->((A.cell? ⟨bx,0,none⟩=some (pP y)/\A.cell? ⟨y,14,none⟩=some (.map (some Z)))/\A.cell? ⟨y,15,none⟩=some (.map (some J))/\A.cell? ⟨w.heap.size,0,none⟩=some (pP q))):=⟨λA t=>by
     have r1:=(Yo.o.gr Xu).touch t Ω;have r2:=(Zv.o.gr Xu).touch t Ω;have g3:=Xe.o A (Yp.o A t)
     exact⟨⟨r1.cc 0,r2.cc 14⟩,r2.cc 15,(g3.cell Ya.o.lt 0).trans (Ya.o.cc 0)⟩⟩
    have Vy:Hid (∀A,AB (λi=>(i=Z\/i=J)\/W5.heap.size<=i) W5 A->AE A (AD (AD S w) w1) q v):=⟨λA t=>If.o.gr (Xe.o A (Yp.o A t))⟩
    have Mw:Hid (∀A,AB (λi=>(i=Z\/i=J)\/W5.heap.size<=i) W5 A->Ext A m p1 b1 p2 b2 v.n L/\AQ A):=⟨λA t=>by
     have g3:=Xe.o A (Yp.o A t)
     exact⟨(HX.o.gr Xy.o).gr g3,g3.tab (Xy.o.tab Yh.o.lt Yh.o).lt (Xy.o.tab Yh.o.lt Yh.o)⟩⟩
    have Et:Hid (OpA W5 W5 Z J v s 0 0):=⟨OpA.zero (Yl.o.gr Xu) (Yi.o.gr Xu)⟩;have Yk:Hid (Z<W5.heap.size/\J<W5.heap.size/\Z≠J):=⟨by omega⟩;have HZ0:Hid (AC (L.take 0)=0):=⟨rfl⟩;have Eq:=ι k5;have hwl:w.heap.size<w3.heap.size:=Ya.o.lt;clear Zo Vo Jo Vu k5
    refine NF (K:=4) (s0:=0) rfl Ω (gf:=202) (lb:=#[pP W.heap.size]) rfl trivial (enters_of func202 (by kernel_rfl) rfl)
     (QQ _ W.heap.size m p1 b1 p2 b2 v.n L _) (λ_=>rfl)
     (λ(j:Nat) A=>j<=L.length/\OpA W5 A Z J v s j (AC (L.take j))) (λ_ _=>False) (λj A B h t=>⟨h.1,h.2.win Yk.o.1 Yk.o.2.1 t⟩) (λ_ _ _ h _=>h)
     (λj A h=>⟨(Mw.o A h.2.t).1,(Mw.o A h.2.t).2,(h.2.t.cell Ω Ω 0).trans Eq.o,h.1⟩)
     ⟨ζe _,Et.o⟩ ?round ?done (λ_ _ _ _ h _=>h.elim)
    case round=>
     intro lp j x W6 Ol Lb Yr;dsimp only[IC];gi_wp2;refine⟨Gr.refl _,λW7 ht7 Zd=>?_⟩
     have Xv:j<L.length:=by
      rcases δ j L.length with h|h
      ·exact h
      ·unfold FE at Yr;rw[ζz h]at Yr;cases Yr
     obtain rfl:x=L[j]:=by unfold FE at Yr;rw[τ Xv]at Yr;exact(Option.some.inj Yr).symm
     obtain⟨Mb,Jc,-⟩:=HI.o.1.mkd.ats _ (χ Xv);obtain⟨-,-,Ij,Ik,Ii,Ur,Ir⟩:=GP Jc;have Yn:=ι Zd.2;have Vh:=(HX.o.good.sz _ (χ Xv)).2;have Xx:=ι (F4 Xv);have Ok:j<s.L.length:=by rw[Zf.o.1];exact Xv
     have Ep:=ι Ok;have Nu:s.L[j]=L[j]:=by simp only[Zf.o.1]
     have Yy:Hid (∀t,t<L[j].2->AI s.L (AC (L.take j)+t)=L[j].1+t/\AC (L.take j)+t<AC s.L):=⟨λt ht=>by
      have h1:=KZ Xv;rw[Zf.o.1]
      exact⟨YZF Xv ht,by omega⟩⟩
     obtain⟨n5,f5,Zi,Nn,Ng⟩:=Zd.2.sh;have Ih:=ι Zi;have Mp:=ι (ξ Nn Ng);have Zp:∀B,BH prog 3 B J (n5+1) (λy=>if y=((L[j].1:Nat):Int)then some (AO (v.rdH (L[j].1:Nat)))else f5 y)->AB (λi=>i=J) W7 B->OpA W5 B Z J v s (j+1) (AC (L.take j)):=λB hm t=>Yn.o.hdr Ep.o Yk.o.2.2 Mp.o.1 Mp.o.2 Oy.o (by rw[Nu];exact hm) t;rw[Ur]at Zp;have Zk:=ι Zp;have Zq:=ι (λ(W:World) (gW:Gr W7 W)=>Q6 ((Vy.o W7 Yn.o.t).gr gW) ((L[j].1:Nat):Int));rw[Jc,Ur]at Zq;unfold AO at Zq;unfold spV at Zq
     have hn5b:n5<=1048576:=by
      have h2:=GJ HX.o.good;have h4:=Y0x HX.o.good;omega
     have Mf:Hid (n5<maxLen):=⟨by unfold maxLen;omega⟩;have Zm:Hid (AC (L.take j)+L[j].2<=1048576):=⟨by have h1:=KZ Xv;have h2:=GJ HX.o.good;omega⟩;obtain⟨sa,Ve⟩:=ε (L[j].1);obtain⟨sz,Jd⟩:=ε (L[j].2);obtain⟨mm,Vt⟩:=ε (AC (L.take j));have HSA:=ι (ξ Ve (ξ Jd Vt));rw[<-Ve]at Zq Yy Zk Vh⊢;rw[<-Jd]at Yy Vh Xx Zm⊢;rw[<-Vt]at Yy Zk Xx Zm Yn;have Mo:Hid ((Lit.int .i64 (sa:Int)).wf=true):=⟨WalkArith.wf_i64 Ω⟩;have Mx:=ι (ξ Ol ht7.size);have HJL:=ι Xv;have hsab:sa+sz<=524288:=Ω
     clear Lb Zd Yr ht7 Ve Jd Vt Ok Nu Mb Jc Ur Ir Zi Nn Ng Zp Vh;have kk:=HK.o _ Yn.o.t;have k1:=kk.1.1;have k3:=kk.2.1;have k4:=kk.2.2;clear kk
     have Ns:Hid (∀W',Gr W7 W'->W'.cell? ⟨bx,0,none⟩=some (pP y)/\W'.cell? ⟨y,15,none⟩=some (.map (some J))/\W'.cell? ⟨w.heap.size,0,none⟩=some (pP q)):=⟨λW' gW=>by
      have h:=HK.o W' (Yn.o.t.trans (gW.touch _))
      exact⟨h.1.1,h.2⟩⟩
     gi_upto_region 16 with(fail);obtain⟨Sx,Y,HS⟩:=AA.start λW'=>W'.cell? ⟨bx,0,none⟩=some (pP y)/\W'.cell? ⟨y,15,none⟩=some (.map (some J))/\W'.cell? ⟨w.heap.size,0,none⟩=some (pP q);have y1:=AA.fact Y λ_ h=>h.1;have y2:=AA.fact Y λ_ h=>h.2.1;have y3:=AA.fact Y λ_ h=>h.2.2;have U:=HS.o (W7.drew) (Ns.o _ (Gr.refl W7).drew);have M:Inhabited (AA Sx):=⟨⟨_,U⟩⟩;clear Y;refine IK Sx 13 [([0,1,2,3,4,5,6,7],8),([9,10,11],12)] [] (λ_=>trivial) U ?_;refine E3 ?_;gi_wp2_with((refine⟨trivial,?_⟩;gi_at_call 95;refine(CallsIn.inRound lp (γ.2 (Zq.o _ (Gr.refl W7).drew))).mono ?_;rintro e w8 ⟨rfl,Ib⟩;have Zn:=ι ((Gr.refl W7).drew.trans Ib);clear Ib));refine⟨.inr (AA.of (HS.o _ (Ns.o _ Zn.o))),?_⟩;refine E3 ?_;gi_wp2_with((gi_at_mapUpdate;refine Y7w _ rfl _ _ _ 211 rfl 3 34 GQ underlying211 underlying3 J n5 f5 rfl (Ih.o.gr Zn.o) Mf.o (sa:Int) (.agg #[.int .i64 Ij,.int .i64 Ik,.int .i64 Ii]) rfl rfl Mo.o ?_;intro w9 Ml Ma;have Lc:=ι Ml;have Vg:=ι Ma;clear Ml Ma));refine⟨.inr (AA.of (HS.o _ ((by have h:=HK.o w9 (Yn.o.t.trans ((Zn.o.touch _).trans (Vg.o.mono (λi _ h=>.inl (.inr h)))));exact⟨h.1.1,h.2⟩)))),?_⟩;refine IB ?_;clear y1 y2 y3 U M;clear HS Sx;clear k1 k3 k4;have Iu:Hid (OpA W5 w9 Z J v s (j+1) (mm+0)):=⟨Zk.o w9 Lc.o ((Zn.o.touch _).trans Vg.o)⟩;have Mr:Hid (AB (λi=>i=Z\/i=J) W7 w9):=⟨(Zn.o.touch _).trans (Vg.o.mono (λi _ h=>.inr h))⟩;gi_wp2
     gi_loopw [16] (λs16 wr=>∃t A:Nat,t<=sz/\Hid (A=sa+t)/\Hid (OpA W5 wr Z J v s (j+1) (mm+t))/\Hid (AB (λi=>i=Z\/i=J) W7 wr)/\s16=.int .i64 A) (λs16 _=>sa+sz-(intOf s16).toNat)
     case atStart=>exact⟨0,sa,ζe _,⟨rfl⟩,Iu,Mr,rfl⟩
     case round=>
      obtain⟨t,A,ht,Yz,HA,Mn,rfl⟩:=hrel;by_cases Xr:t<sz
      ·have Yb:=ι Xr;have It:(A:Int)<(sa:Int)+(sz:Int):=by have:=Yz.o;omega
       have Ex:A<=1048576:=by have:=Yz.o;omega
       obtain⟨e1,e2⟩:=Yy.o t Xr;obtain⟨n4,f4,Za,Og,Ux⟩:=HA.o.wd;have Ox:=ι (λ(W:World) (gW:Gr wr W)=>JS ((Vy.o wr HA.o.t).gr gW));obtain⟨pg,Xt⟩:=ε v.pl.pg;rw[<-Xt]at Ox Oj;obtain⟨Q,hQ⟩:=ε (A/pg);have g1:((A:Int).tdiv (pg:Int))=(Q:Int):=by rw[hQ];rfl
       have g2:((A:Int)/(pg:Int))=(Q:Int):=by rw[hQ];rfl
       have Nc:(pg:Int)≠0:=Ω
       have hQb:Q<=1048576:=by rw[hQ];exact ω (ζV _ _) Ex
       have Uv:AI s.L (mm+t)/s.pg=Q:=by rw[e1,hQ,Yz.o,Xt,Zf.o.2.1]
       obtain⟨N1,Ym⟩:=ε (s.on (λi=>decide (i<mm+t)) Q)
       have hN1b:N1<=1048576:=by
        rw[Ym];have h1:=s.on_le (λi=>decide (i<mm+t)) Q;have h2:=GJ Oy.o;have h3:=Zf.o.2.2.1;omega
       have Vf:Hid (∀W',Gr wr W'->(Instr.lookup 129 (.map (some Z)) (.int .i64 Q) false).run prog W'=.ok (.int .i64 N1) W'):=⟨λW' gW=>by
        rw[(Za.gr gW).look GQ underlying129 underlying3 (OM W') (WalkArith.wf_i64 Ω),Ux Q,Ym]⟩
       have Nm:Hid (∀B,BH prog 3 B Z (n4+1) (λy=>if y=(Q:Int)then some (.int .i64 ((N1+1:Nat):Int))else f4 y)->AB (λi=>i=Z) wr B->OpA W5 B Z J v s (j+1) (mm+(t+1))):=⟨λB hmB tB=>by
        have:=HA.o.word e2 Yk.o.2.2 Og Ux (x:=N1+1) (B:=B) (by rw[Uv,Ym]) (by rw[Uv];exact hmB) tB
        rw[<-ξv];exact this⟩
       have Ei:=ι Za;have Mz:Hid (n4<maxLen):=⟨by have:=Zm.o;unfold maxLen;omega⟩;have Of:Hid ((Lit.int .i64 (Q:Int)).wf=true):=⟨WalkArith.wf_i64 Ω⟩;have Is:(N1:Int)+1=((N1+1:Nat):Int):=by push_cast;rfl
       obtain⟨N2,Js⟩:=ε (N1+1);rw[<-Js]at Is Nm
       have Om:Hid (∀W',Gr wr W'->(W'.cell? ⟨bx,0,none⟩=some (pP y)/\W'.cell? ⟨y,14,none⟩=some (.map (some Z)))/\W'.cell? ⟨w.heap.size,0,none⟩=some (pP q)/\(Instr.lookup 129 (.map (some Z)) (.int .i64 Q) false).run prog W'=.ok (.int .i64 N1) W'):=⟨λW' gW=>by
        have h:=HK.o W' (HA.o.t.trans (gW.touch _))
        exact⟨h.1,h.2.2,Vf.o W' gW⟩⟩
       clear e1 e2 Za Og Ux Xt hQ Uv Ym Js Xr;gi_upto_region 20 with(fail);obtain⟨Sx,Y,HS⟩:=AA.start λW'=>(W'.cell? ⟨bx,0,none⟩=some (pP y)/\W'.cell? ⟨y,14,none⟩=some (.map (some Z)))/\W'.cell? ⟨w.heap.size,0,none⟩=some (pP q)/\(Instr.lookup 129 (.map (some Z)) (.int .i64 Q) false).run prog W'=.ok (.int .i64 N1) W';have y1:=AA.fact Y λ_ h=>h.1.1;have y2:=AA.fact Y λ_ h=>h.1.2;have y3:=AA.fact Y λ_ h=>h.2.1;have y4:∀p:AA Sx,(Instr.lookup 129 (.map (some Z)) (.int .i64 Q) false).run prog p.w=.ok (.int .i64 N1) p.w:=λp=>by have h:=AA.get Y p;exact h.2.2
       have U:=HS.o (wr.drew) (Om.o _ (Gr.refl wr).drew);have M:Inhabited (AA Sx):=⟨⟨_,U⟩⟩;clear Y;refine IK Sx 10 [([0,1,2,3,4,5],6),([7,8,9],10)] [] (λ_=>trivial) U ?_;refine E3 ?_;gi_wp2_with((refine⟨trivial,?_⟩;gi_at_call 129;refine(CallsIn.inRound lp (γ.2 (Ox.o _ (Gr.refl wr).drew))).mono ?_;rintro e w8 ⟨rfl,rfl⟩));refine⟨.inr (AA.of (HS.o _ (Om.o _ (Gr.refl wr).drew))),?_⟩;refine E3 ?_;gi_wp2_with((gi_at_mapUpdate;refine Y7w _ rfl _ _ _ 129 rfl 3 3 GQ underlying129 underlying3 Z n4 f4 rfl (Ei.o.gr (Gr.refl wr).drew) Mz.o (Q:Int) (.int .i64 N2) rfl rfl Of.o ?_;intro Jj Ul Ud;have Ov:=ι Ul;have Nl:=ι Ud;clear Ul Ud));refine⟨.inl trivial,?_⟩;refine IB ?_;clear y1 y2 y3 y4 U M;clear HS Sx;have Yw:Hid (AB (λi=>i=Z) wr Jj):=⟨((Gr.refl wr).drew.touch _).trans Nl.o⟩;gi_wp2;go_roundw
       case rel=>exact⟨t+1,A+1,Yb.o,⟨by have:=Yz.o;omega⟩,⟨Nm.o Jj Ov.o Yw.o⟩,⟨Mn.o.trans (Yw.o.mono (λi _ h=>.inl h))⟩,by go_num⟩
       case measure=>have:=Yz.o;have:=Yb.o;simp[intOf];omega
      ·obtain rfl:t=sz:=Ω
       have It:¬(A:Int)<(sa:Int)+(t:Int):=by have:=Yz.o;omega
       clear Xr;gi_wp2;have Jd:=Mx.o;have l4:=Yk.o;refine⟨Mn.o.mono (λi _ h=>.inl (by rcases h with rfl|rfl <;> omega)),j+1,rfl,Xv,?_⟩;rw[Xx.o];exact HA.o
    case done=>
     rintro D j W7 hD rfl Zd hK;have Xs:=Zd.2;rw[ζ0]at Xs;have Yn:=ι Xs;have HKK:=ι (HK.o W7 Xs.t);have hz7:=Xs.t.size;have Ey:=ι Zf.o.2.2.2
     have Oz:Hid (Cyc W7 (λb=>w1.heap.size<=b/\b<W5.heap.size) y q ⟨w2.heap.size,w3.heap.size,p,m,p1,b1,p2,b2,J,Yc,nb,Z⟩ (A8 v c L)):=⟨by
      have hA:=Xs;rw[Ey.o]at hA
      exact VLI HX.o Xy.o Uy.o ⟨El,Zz.o.1,Zz.o.2.1,Zz.o.2.2.1,Zz.o.2.2.2.1,Zz.o.2.2.2.2⟩ (Jh.o.trans (Xu.touch _)) ⟨gy,Id,Iq,Ew⟩ Es.o (Zv.o.gr Xu) (CF Oh.o Xu) (Yl.o.gr Xu) (Yi.o.gr Xu) Up hA (λi h1 h2 h3 h=>by omega) hA.t⟩
     have Iy:Hid (A7 W7 r g rs):=⟨by
      have h1:=(HR.o.gr Yj.o).touch Zb.o (λh=>Zc.o.2.1 h.1) (λh=>Zc.o.2.2.1 h.1)
      exact(h1.gr Xy.o).gr (Xe.o W7 (Yp.o W7 Xs.t))⟩
     have Lf:=ι (RA Nr.o Vb.o HI.o (by rw[<-Je.o];exact ξQ Jm.o));have hgl:g<w1.heap.size:=Ω
     have Io:=ι (X9b (λW tW=>Oz.o.touch tW (λk hk e=>by have:=hk.1;omega)) Lf.o Iy.o);have hmf:∀(fn:Fn) (first cap:Array Value) (w:World),(Instr.makeFunc fn first cap).run prog w=.ok (.func fn first cap) w:=λ_ _ _ _=>rfl;have Jz:=Vy.o W7 Xs.t;have Iw:=ι Jz;have Uh:=(Ya.o.gr (Xe.o W7 (Yp.o W7 Xs.t)));have Jp:=(I.o.gr (Xe.o W7 (Yp.o W7 Xs.t)));have Yv:=(Yo.o.gr Xu).touch Xs.t Ω;have Eu:=ι (ξ Uh (ξ Jp Yv));have Vx:=Yv.cc 0;have Uz:=Yv.lt;have Od:=ι hK;have Md:Hid (D=W5.heap.size):=⟨hD⟩;clear Xs Zd Jz Uh Jp Yv hK hD;gi_upto_region 22 with(refine⟨trivial,?_⟩;gi_at_call 126;refine(γ.2 (Io.o)).mono ?_;rintro e w8 ⟨rfl,Oa,Nd⟩;have Yg:=ι Oa;have Lh:=ι Nd;clear Oa Nd);clear Vx Uz;obtain⟨Mt,Nx,Oo⟩:=Eu.o;have Jr:=ι (Mt.touch Yg.o (λh=>by omega));have Ue:=ι (Nx.touch Yg.o (λh=>by omega));have Eb:=ι (Oo.touch Yg.o (λh=>by omega));have Oe:=ι (Oz.o.touch Yg.o (λk hk e=>by have:=hk.1;omega));have hz8:=Yg.o.size;obtain⟨S5,Ut⟩:=ε (AD (AD S w) w1);have Xw:Hid (∀b,S5 b->S b/\b<w.heap.size):=⟨λb hb=>by rw[Ut]at hb;exact hb.1⟩;have Mv:AE w8 S5 q v:=by rw[Ut];exact Iw.o.touch Yg.o (λb hb _ h=>Zc.o.2.2.1 (h▸hb.1.1))
     have My:=ι Mv
     have Ji:Hid (w8.heap[D]?=some (.deferred (some []))/\D<w8.heap.size/\W5.heap.size<=D):=⟨by
      have h1:=(ζq.1 Od.o).1;have h2:=Md.o
      exact⟨(Yg.o.block D h1 Ω).trans Od.o,by omega,by omega⟩⟩
     have Ne:=ι (λ(W:World) (g':Gr w8 W)=>JS (My.o.gr g'));obtain⟨pg,Xt⟩:=ε v.pl.pg;have Ys:=ι Xt;rw[<-Xt]at Ne Oj;obtain⟨q0,Zr⟩:=ε (c.fr/pg);have Uk:q0*pg<=c.fr:=by rw[Zr];exact ζn c.fr pg
     have Vd:=ι Zr;have Ea:=ι Uk;have g1:((c.fr:Int).tdiv (pg:Int))=(q0:Int):=by rw[Zr];rfl
     have g2:((c.fr:Int)/(pg:Int))=(q0:Int):=by rw[Zr];rfl
     have Nc:(pg:Int)≠0:=Ω
     have hq0n:q0<=524288:=by have:=ζV c.fr pg;omega
     have Ms:Hid (UmO w8 w8.drew S5 q (A8 v c L) v q0 0 pg c.tp):=⟨(Gr.refl w8).drew.touch _,⟨S5,v,λb h=>.inl h,My.o.gr (Gr.refl w8).drew,FN.zero Nr.o q0⟩,λi hi=>absurd hi (ζ8 _)⟩;have u1:=Jr.o.cc 0;have u2:=Ue.o.cc 0;clear Mt Nx Oo Mv Xt Zr Uk Ut;obtain⟨Sx,Y,HS⟩:=AA.start λW'=>W'.cell? ⟨w.heap.size,0,none⟩=some (pP q)/\W'.cell? ⟨w.heap.size+1,0,none⟩=some (.int .i64 c.fr);have x1:=AA.fact Y λ_ h=>h.1;have x2:=AA.fact Y λ_ h=>h.2;have U:=HS.o (w8.drew) (⟨u1,u2⟩);have M:Inhabited (AA Sx):=⟨⟨_,U⟩⟩;clear Y;refine IK Sx 6 [([0,1,2],3)] [4,5] IQ U ?_;refine E3 ?_;gi_wp2_with((refine⟨trivial,?_⟩;gi_at_call 129;refine(γ.2 (Ne.o _ (Gr.refl w8).drew)).mono ?_;rintro e w9 ⟨rfl,rfl⟩));refine⟨.inr (AA.of (HS.o _ (⟨u1,u2⟩))),?_⟩;refine IB ?_;clear x1 x2 U M;clear HS Sx;clear u1 u2;gi_wp2
     gi_loopw [17] (λs17 wx=>∃j:Nat,Hid (UmO w8 wx S5 q (A8 v c L) v q0 j pg c.tp)/\s17=.int .i64 ((q0+j:Nat):Int)) (λs17 _=>c.tp-(intOf s17).toNat*pg)
     case atStart=>exact⟨0,Ms,rfl⟩
     case round=>
      clear Ms;obtain⟨j,HU,rfl⟩:=hrel;obtain⟨Sj,v',Ic,Vk,Vq⟩:=HU.o.vm;have Uo:=λ(W:World) (g':Gr wr W)=>JS (Vk.gr g');rw[Vq.pg,<-Ys.o]at Uo;have Ju:=ι Uo;have Vs:=ι Vk;have Xx:=ι Ic;have Us:=ι Vq;have Uj:=ι (Jr.o.touch HU.o.t (λh=>by have:=(Xw.o _ h).2;omega));have Np:=ι (Ue.o.touch HU.o.t (λh=>by have:=(Xw.o _ h).2;omega));have Yt:=ι (Eb.o.touch HU.o.t (λh=>by have:=(Xw.o _ h).2;omega));have Yu:=ι (Oe.o.touch HU.o.t (λk hk h=>by have:=hk.1;have:=(Xw.o _ h).2;omega));obtain⟨qq,Zu⟩:=ε (q0+j);obtain⟨pp,Zg⟩:=ε (qq*pg)
      have hppb:pp<=1048576:=by
       rcases ζF j with h0|h0
       ·rw[Zg,Zu,h0,ζ7];have:=Ea.o;omega
       ·have:=HU.o.q1 (j-1) Ω;have e:pp=(q0+(j-1))*pg+pg:=by rw[Zg,Zu,show q0+j=(q0+(j-1))+1 by omega,ζP,ξl]
        omega
      have hqb:qq<=pp:=by rw[Zg];exact ψl _ Ω
      have hmul:((qq:Int)*(pg:Int))=(pp:Int):=by rw[Zg];push_cast;rfl
      have Xq:=ι (ξ Zu Zg);rw[<-Zu];have u1:=Uj.o.cc 0;have u2:=Np.o.cc 1;clear Uo Vk Ic Zu Zg Vq;by_cases Xr:pp<c.tp
      ·have e1:decide ((pp:Int)<(c.tp:Int))=true:=φ Ω;have e2:decide (pp<c.tp)=true:=φ Xr;have Yb:=ι Xr;have Zj:=VT (Yu.o.gr (Gr.refl wr).drew).wd (q:=qq) Ω;have Mc:(A8 v c L).on (λi=>!(A8 v c L).is i) qq=(A8 v c L).on (λ_=>true) qq:=Sl.on_congr λi _=>by rw[NG];rfl
       rw[Mc]at Zj;obtain⟨N1,Ym⟩:=ε ((A8 v c L).on (λ_=>true) qq);have Nj:=ι Ym;rw[<-Ym]at Zj;have Vf:=ι Zj;clear Xr Ym Mc Zj;gi_upto_region 23 with(fail);obtain⟨Sx,Y,HS⟩:=AA.start λW'=>W'.cell? ⟨w.heap.size,0,none⟩=some (pP q)/\W'.cell? ⟨w.heap.size+1,1,none⟩=some (.int .i64 c.tp);have x1:=AA.fact Y λ_ h=>h.1;have x2:=AA.fact Y λ_ h=>h.2;have U:=HS.o (wr.drew) (⟨u1,u2⟩);have M:Inhabited (AA Sx):=⟨⟨_,U⟩⟩;clear Y;refine IK Sx 7 [([0,1,4,5],2)] [3,6] IQ U ?_;refine E3 ?_;gi_wp2_with((refine⟨trivial,?_⟩;gi_at_call 129;refine(γ.2 (Ju.o _ (Gr.refl wr).drew)).mono ?_;rintro e Jj ⟨rfl,rfl⟩));refine⟨.inr (AA.of (HS.o _ (⟨u1,u2⟩))),?_⟩;refine IB ?_;clear x1 x2 U M;clear HS Sx;have z1:=(Yt.o.gr (Gr.refl wr).drew).cell (j:=0) rfl;have zl:=(Yt.o.gr (Gr.refl wr).drew).lt;have z2:=(Yu.o.gr (Gr.refl wr).drew).rc.cell (j:=14) rfl;have zl2:=(Yu.o.gr (Gr.refl wr).drew).rc.lt;have Zj:=Vf.o;have u3:=Uj.o.lt;have Ix:=(Gr.refl wr).drew.size;have Eo:=HU.o.t.size;by_cases hz:N1=0
       ·have d0:((N1:Int)==0)=true:=by simp[hz]
        have HZ:=ι hz;clear hz;gi_wp2_with(refine⟨trivial,?_⟩;gi_at_call 130;refine(γ.2 (O4 (Vs.o.gr (Gr.refl wr).drew) (qq:Int))).mono ?_;rintro e w11 ⟨rfl,Uf,Jy⟩;have Yw:=ι Uf;have Nw:=ι Jy;clear Uf Jy);go_roundw
        case rel=>
         refine⟨j+1,⟨⟨?_,⟨plus Sj wr.drew,_,λb hb=>?_,Nw.o,?_⟩,λi hi=>?_⟩⟩,?_⟩
         ·exact(HU.o.t.trans ((Gr.refl wr).drew.touch _)).trans' Yw.o (λb hb h=>(Xx.o b h).elim id (λh=>by omega))
         ·rcases hb with h|h
          ·exact Xx.o b h
          ·right;omega
         ·have:=Us.o.drop (j:=j) (by rw[<-Xq.o.1,<-Nj.o];exact HZ.o);rw[<-Xq.o.1]at this;exact this
         ·rcases δ i j with h|h
          ·exact HU.o.q1 i h
          ·obtain rfl:i=j:=Ω
           rw[<-Xq.o.1,<-Xq.o.2];exact Yb.o
         ·rw[show q0+(j+1)=qq+1 by rw[Xq.o.1];omega]
          go_num
        case measure=>
         have h1:=Yb.o;have h2:=Xq.o.2;simp only[intOf];rw[show ((qq:Int)+1).toNat=qq+1 by omega,β,ζP,ξl,<-h2];omega
       ·have d0:((N1:Int)==0)=false:=by simp;exact hz
        have HZ:=ι hz;clear hz;gi_wp2;go_roundw
        case rel=>
         refine⟨j+1,⟨⟨HU.o.t.trans ((Gr.refl wr).drew.touch _),⟨Sj,_,Xx.o,Vs.o.gr (Gr.refl wr).drew,?_⟩,λi hi=>?_⟩⟩,?_⟩
         ·exact Us.o.keep (j:=j) (by rw[<-Xq.o.1,<-Nj.o];exact HZ.o)
         ·rcases δ i j with h|h
          ·exact HU.o.q1 i h
          ·obtain rfl:i=j:=Ω
           rw[<-Xq.o.1,<-Xq.o.2];exact Yb.o
         ·rw[show q0+(j+1)=qq+1 by rw[Xq.o.1];omega]
          go_num
        case measure=>
         have h1:=Yb.o;have h2:=Xq.o.2;simp only[intOf];rw[show ((qq:Int)+1).toNat=qq+1 by omega,β,ζP,ξl,<-h2];omega
      ·have e1:decide ((pp:Int)<(c.tp:Int))=false:=ζ Ω;have e2:decide (pp<c.tp)=false:=ζ Xr;have Yb:=ι Xr;clear Xr;gi_upto_region 23 with(fail);obtain⟨Sx,Y,HS⟩:=AA.start λW'=>W'.cell? ⟨w.heap.size,0,none⟩=some (pP q)/\W'.cell? ⟨w.heap.size+1,1,none⟩=some (.int .i64 c.tp);have x1:=AA.fact Y λ_ h=>h.1;have x2:=AA.fact Y λ_ h=>h.2;have U:=HS.o (wr.drew) (⟨u1,u2⟩);have M:Inhabited (AA Sx):=⟨⟨_,U⟩⟩;clear Y;refine IK Sx 7 [([0,1,4,5],2)] [3,6] IQ U ?_;refine E3 ?_;gi_wp2_with((refine⟨trivial,?_⟩;gi_at_call 129;refine(γ.2 (Ju.o _ (Gr.refl wr).drew)).mono ?_;rintro e Jj ⟨rfl,rfl⟩));refine⟨.inr (AA.of (HS.o _ (⟨u1,u2⟩))),?_⟩;refine IB ?_;clear x1 x2 U M;clear HS Sx;clear u1 u2;have z1:=(Yt.o.gr (Gr.refl wr).drew).cell (j:=0) rfl;have zl:=(Yt.o.gr (Gr.refl wr).drew).lt;gi_wp2;have Eo:=HU.o.t.size;have Ix:=(Gr.refl wr).drew.size;have Ui:¬S5 D:=λh=>by have:=(Xw.o _ h).2;have:=Ji.o.2.2;omega
       have Ld:wr.drew.heap[D]?=some (.deferred (some [])):=by
        have h2:=Ji.o.2.1;rw[(Gr.refl wr).drew.block Ω,HU.o.t.block D h2 Ui];exact Ji.o.1
       refine⟨by simp,.inl ⟨_,_,rfl,run_takeDeferred Ld,?_⟩⟩;have tt:=EJ wr.drew D (.deferred none);have hD0:=Md.o;refine⟨.tuple #[pP y,.int .i64 0],?_,?_,L,HI.o,by have h1:=Jm.o;have h2:=Je.o;omega,y,_,_,Sj,v',j,rfl,(Yu.o.gr (Gr.refl wr).drew).touch tt (λk hk e=>by have:=hk.2;omega),(Vs.o.gr (Gr.refl wr).drew).touch tt (λb hb _ h=>?_),λb hb=>?_,λb hb=>⟨?_,λh=>?_⟩,?_,?_,?_,?_⟩
       ·simp[results,f121,go_sem]
       ·have a1:AB (λb=>b=g\/S b) w w1:=Yj.o.touch _;have a2:=a1.trans (Zb.o.mono (λi _ h=>.inr h.1));have a3:=a2.trans ((Xy.o.trans (Xe.o W7 (Yp.o W7 Yn.o.t))).touch _);have a4:=a3.trans (Yg.o.mono (λi _ h=>.inl h));have a5:=a4.trans (HU.o.t.mono (λi _ h=>.inr (Xw.o i h).1));exact(a5.trans ((Gr.refl wr).drew.touch _)).trans' tt (λb hb h=>by omega)
       ·rcases Xx.o b hb with h'|h'
        ·exact Ui (h▸h')
        ·have:=Ji.o.2.1;omega
       ·rcases Xx.o b hb with h'|h'
        ·exact .inl (Xw.o b h').1
        ·right;omega
       ·have:=hb.1;omega
       ·rcases Xx.o b h with h'|h'
        ·have:=(Xw.o b h').2;have:=hb.1;omega
        ·have:=hb.2;omega
       ·rw[<-Ys.o,<-Vd.o];exact Us.o
       ·rw[<-Ys.o,<-Vd.o,<-Xq.o.1,<-Xq.o.2];have:=Yb.o;omega
       ·intro i hi;rw[<-Ys.o,<-Vd.o];exact HU.o.q1 i hi
       ·exact((Lh.o.touch HU.o.t (λh=>Zc.o.2.1 (Xw.o r h).1) (λh=>Zc.o.2.2.1 (Xw.o g h).1)).gr (Gr.refl wr).drew).touch tt (λh=>by omega) (λh=>by omega)
end
end
end Go.Proofs.YtcihfnpokdbfpaaGreatDoor
